/- The law FactsFound: its call comes to true. -/
import Derived.Test.YtjjmeoeaimfiiaaZFactC
import Derived.Test.YtjjmeoeaimfiiaaZMakeR
import Derived.Test.YtjjmeoeaimfiiaaZLitH
namespace Go.Proofs.Ytjjmeoeaimfiiaa.Eng
open Go
set_option linter.unusedVariables false
set_option linter.unusedSimpArgs false

theorem asc_get1 {l : List Fact} (h : l.Pairwise FLt) {i j : Nat} {f g : Fact} (hij : i < j) (hf : l[i]? = some f) (hg : l[j]? = some g) : FLt f g := by
  obtain ⟨h1, rfl⟩ := List.getElem?_eq_some_iff.1 hf
  obtain ⟨h2, rfl⟩ := List.getElem?_eq_some_iff.1 hg
  exact List.pairwise_iff_getElem.1 h i j h1 h2 hij

/-! ### The keys of what deeds made -/
theorem doL_keys {s : State} {dev : Int} {o : OpR} {f : Fact} (h : f ∈ (doL s dev o).1.facts) : f.key = o.key := by
  unfold doL at h
  split at h
  · simp at h
  split at h
  · simp at h
  split at h
  · simp at h
  split at h
  · simp at h
  obtain ⟨_, rfl⟩ := delta_facts.1 h
  rfl
theorem stepS_keys {s : State} {dev : Int} {o : OpR} (hs : ∀ f ∈ s.facts, f.key.size = 1) (ho : o.key.size = 1) : ∀ f ∈ (stepS s dev o).facts, f.key.size = 1 := by
  intro f hf
  unfold stepS at hf
  split at hf
  · rcases mem_joinF.1 hf with ⟨h, _⟩ | ⟨h, _⟩
    · exact hs f h
    · rw [doL_keys h]; exact ho
  · exact hs f hf
theorem makeFrom_keys : ∀ {k : Nat} {ns : List Nat} {s : State}, (∀ f ∈ s.facts, f.key.size = 1) → ∀ f ∈ (makeFrom k s ns).facts, f.key.size = 1
  | 0, ns, s, h => by simp only [makeFrom]; exact h
  | k + 1, [], s, h => by simp only [makeFrom]; exact h
  | k + 1, [a], s, h => by simp only [makeFrom]; exact h
  | k + 1, a :: b :: rest, s, h => by
    simp only [makeFrom]
    exact makeFrom_keys (stepS_keys h rfl)

theorem right_kind {f : Fact} (h : f.right = true) : f.kind = 1 ∨ f.kind = 2 ∨ f.kind = 3 := by
  unfold Fact.right at h
  by_cases h1 : f.kind = 1 ∨ f.kind = 2
  · rcases h1 with h1 | h1
    · exact .inl h1
    · exact .inr (.inl h1)
  · by_cases h3 : f.kind = 3
    · exact .inr (.inr h3)
    · simp [h1, h3] at h
theorem find_sum {k : ByteArray} : ∀ {l : List Fact}, (∀ f ∈ l, f.right = true) → (l.filter (Fact.of k 0)).length = (l.filter (Fact.of k 1)).length + (l.filter (Fact.of k 2)).length + (l.filter (Fact.of k 3)).length
  | [], _ => rfl
  | f :: l, h => by
    have ih := find_sum (k := k) (l := l) fun x hx => h x (by simp [hx])
    have hk := right_kind (h f (by simp))
    by_cases e : f.key = k
    · have a0 : Fact.of k 0 f = true := by simp [Fact.of, e]
      rcases hk with hk | hk | hk
      · have a1 : Fact.of k 1 f = true := by simp [Fact.of, e, hk]
        have a2 : Fact.of k 2 f = false := by simp [Fact.of, hk]
        have a3 : Fact.of k 3 f = false := by simp [Fact.of, hk]
        simp only [List.filter_cons, a0, a1, a2, a3, if_true, Bool.false_eq_true, if_false, List.length_cons]; omega
      · have a1 : Fact.of k 1 f = false := by simp [Fact.of, hk]
        have a2 : Fact.of k 2 f = true := by simp [Fact.of, e, hk]
        have a3 : Fact.of k 3 f = false := by simp [Fact.of, hk]
        simp only [List.filter_cons, a0, a1, a2, a3, if_true, Bool.false_eq_true, if_false, List.length_cons]; omega
      · have a1 : Fact.of k 1 f = false := by simp [Fact.of, hk]
        have a2 : Fact.of k 2 f = false := by simp [Fact.of, hk]
        have a3 : Fact.of k 3 f = true := by simp [Fact.of, e, hk]
        simp only [List.filter_cons, a0, a1, a2, a3, if_true, Bool.false_eq_true, if_false, List.length_cons]; omega
    · have a : ∀ n, Fact.of k n f = false := fun n => by simp [Fact.of, e]
      simp only [List.filter_cons, a, Bool.false_eq_true, if_false]; exact ih

set_option maxHeartbeats 4000000 in
theorem l8_FactsFound_ok (ns : List Nat) (hln : ns.length ≤ maxLen) (hb : ∀ n ∈ ns, n < 256) (k : Nat) (hk : k < 256) : Pr 8 [.c (bytesC ns), .c (.int .u8 (k : Int))] (bC true) := by
  refine pure_of mixed is_l8_FactsFound (by simp [closedAs, closedA, closedC, bytesC, closed_bytes]) fun hl T => ?_
  unfold c_l8_FactsFound
  simp only [go_sem, reduceCtorEq, Nat.reduceEqDiff, Nat.reduceAdd, Nat.reduceSub, Nat.reduceMul, Nat.reduceLeDiff, Int.reduceEq, Int.reduceLT, Int.reduceLE, Int.reduceAdd, Int.reduceMul, Int.reduceSub, Int.reduceNeg, Int.reduceToNat, reduceIte, Nat.reduceLT]
  refine callW_pure (l8_Make_ok ns hln hb) ?_
  obtain ⟨hf, hlen, _⟩ := makeS_fine ns
  have hkeys : ∀ f ∈ (makeS ns).facts, f.key.size = 1 := makeFrom_keys (by simp)
  generalize makeS ns = s at *
  have k1 : (k : Int).tmod 3 = ((k % 3 : Nat) : Int) := by rw [Int.tmod_eq_emod_of_nonneg (by omega)]; omega
  have k2 : IntKind.wrap .u8 (107 + ((k % 3 : Nat) : Int)) = ((107 + k % 3 : Nat) : Int) := by rw [wrap8 (by omega)]; omega
  generalize hkey : one8 (107 + k % 3) = key at *
  have find := fun kind => facts_Find_ok s key kind (by omega)
  have hnone := facts_Find_ok s ⟨#[110, 111, 110, 101]⟩ 0 (by omega)
  have e4 : s.facts.filter (Fact.of key 4) = [] := by
    rw [List.filter_eq_nil_iff]
    intro f hf'
    have := right_kind (hf.right f hf')
    simp [Fact.of]; omega
  have en : s.facts.filter (Fact.of ⟨#[110, 111, 110, 101]⟩ 0) = [] := by
    rw [List.filter_eq_nil_iff]
    intro f hf' h
    have h1 := hkeys f hf'
    simp only [Fact.of, Bool.and_eq_true, decide_eq_true_eq] at h
    rw [h.1] at h1
    exact absurd h1 (by decide)
  have find4 := find 4
  rw [e4] at find4
  rw [en] at hnone
  have hsum := find_sum (k := key) hf.right
  -- the facts of one kind
  have inner : ∀ (K : List Itm) (kind : Int) (l : List Fact), (∀ f ∈ l, f.kind = kind ∧ f.key = key ∧ f.right = true) → l.Pairwise FLt → l.length ≤ 40 → ∀ (rest pre : List Fact) (e : Env), l = pre ++ rest →
      e 5 = .c (.ptr 0 0 0) → e 6 = sC key → e 9 = iC kind → e 10 = .c (factsC l) → e 11 = iC pre.length →
      (∀ e' : Env, e' 5 = e 5 → e' 6 = e 6 → e' 7 = e 7 → e' 8 = e 8 → e' 9 = e 9 → Run (progT Try.prog T) ⟨[.tmp 4], fun u E => viewA E u = some (bC true)⟩ K e' [{ sz := 2, rows := [s.cells] }]) →
      Run (progT Try.prog T) ⟨[.tmp 4], fun u E => viewA E u = some (bC true)⟩ (.loop l8_FactsFound_L0 :: .blk 2 :: K) e [{ sz := 2, rows := [s.cells] }] := by
    intro K kind l hp hasc hll rest
    induction rest with
    | nil =>
      intro pre e hl h5 h6 h9 h10 h11 hK
      have hc := not_lt_at (f := Fact.cells) hl
      refine run_again ?_
      conv => enter [3, 1]; unfold l8_FactsFound_L0
      simp only [go_sem, reduceCtorEq, Nat.reduceEqDiff, Nat.reduceAdd, Nat.reduceSub, Nat.reduceMul, Nat.reduceLeDiff, Int.reduceEq, Int.reduceLT, Int.reduceLE, Int.reduceAdd, Int.reduceMul, Int.reduceSub, Int.reduceNeg, Int.reduceToNat, reduceIte, Nat.reduceLT, h5, h6, h9, h10, h11, hc]
      refine hK _ ?_ ?_ ?_ ?_ ?_
      all_goals simp only [go_sem, reduceCtorEq, Nat.reduceEqDiff, Nat.reduceAdd, Nat.reduceSub, Nat.reduceMul, Nat.reduceLeDiff, Int.reduceEq, Int.reduceLT, Int.reduceLE, Int.reduceAdd, Int.reduceMul, Int.reduceSub, Int.reduceNeg, Int.reduceToNat, reduceIte, Nat.reduceLT]
    | cons r rest ih =>
      intro pre e hl h5 h6 h9 h10 h11 hK
      have hc := lt_at (f := Fact.cells) hl
      have hr := map_at' (f := Fact.cells) hl
      have hn := next_at hl (by unfold maxLen; omega)
      obtain ⟨p1, p2, p3⟩ := hp r (by rw [hl]; simp)
      have cr := facts_Right_ok r
      rw [p3] at cr
      have q1 := eq_true p1
      have q2 := eq_true p2
      refine run_again ?_
      conv => enter [3, 1]; unfold l8_FactsFound_L0
      simp only [go_sem, reduceCtorEq, Nat.reduceEqDiff, Nat.reduceAdd, Nat.reduceSub, Nat.reduceMul, Nat.reduceLeDiff, Int.reduceEq, Int.reduceLT, Int.reduceLE, Int.reduceAdd, Int.reduceMul, Int.reduceSub, Int.reduceNeg, Int.reduceToNat, reduceIte, Nat.reduceLT, h5, h6, h9, h10, h11, hc, hr, q1, q2]
      refine callW_pure cr ?_
      rcases List.eq_nil_or_concat pre with rfl | ⟨pre', q, rfl⟩
      · simp only [go_sem, reduceCtorEq, Nat.reduceEqDiff, Nat.reduceAdd, Nat.reduceSub, Nat.reduceMul, Nat.reduceLeDiff, Int.reduceEq, Int.reduceLT, Int.reduceLE, Int.reduceAdd, Int.reduceMul, Int.reduceSub, Int.reduceNeg, Int.reduceToNat, reduceIte, Nat.reduceLT, h5, h6, h9, h10, h11, hc, hr, List.length_nil, Int.natCast_zero]
        refine ih [r] _ (by rw [hl]; simp) ?_ ?_ ?_ ?_ ?_ fun e' g5 g6 g7 g8 g9 => hK e' ?_ ?_ ?_ ?_ ?_
        · simp only [go_sem, reduceCtorEq, Nat.reduceEqDiff, Nat.reduceAdd, Nat.reduceSub, Nat.reduceMul, Nat.reduceLeDiff, Int.reduceEq, Int.reduceLT, Int.reduceLE, Int.reduceAdd, Int.reduceMul, Int.reduceSub, Int.reduceNeg, Int.reduceToNat, reduceIte, Nat.reduceLT, h5]
        · simp only [go_sem, reduceCtorEq, Nat.reduceEqDiff, Nat.reduceAdd, Nat.reduceSub, Nat.reduceMul, Nat.reduceLeDiff, Int.reduceEq, Int.reduceLT, Int.reduceLE, Int.reduceAdd, Int.reduceMul, Int.reduceSub, Int.reduceNeg, Int.reduceToNat, reduceIte, Nat.reduceLT, h6]
        · simp only [go_sem, reduceCtorEq, Nat.reduceEqDiff, Nat.reduceAdd, Nat.reduceSub, Nat.reduceMul, Nat.reduceLeDiff, Int.reduceEq, Int.reduceLT, Int.reduceLE, Int.reduceAdd, Int.reduceMul, Int.reduceSub, Int.reduceNeg, Int.reduceToNat, reduceIte, Nat.reduceLT, h9]
        · simp only [go_sem, reduceCtorEq, Nat.reduceEqDiff, Nat.reduceAdd, Nat.reduceSub, Nat.reduceMul, Nat.reduceLeDiff, Int.reduceEq, Int.reduceLT, Int.reduceLE, Int.reduceAdd, Int.reduceMul, Int.reduceSub, Int.reduceNeg, Int.reduceToNat, reduceIte, Nat.reduceLT, h10]
        · simp only [go_sem, reduceCtorEq, Nat.reduceEqDiff, Nat.reduceAdd, Nat.reduceSub, Nat.reduceMul, Nat.reduceLeDiff, Int.reduceEq, Int.reduceLT, Int.reduceLE, Int.reduceAdd, Int.reduceMul, Int.reduceSub, Int.reduceNeg, Int.reduceToNat, reduceIte, Nat.reduceLT]; rfl
        · rw [g5]; simp only [go_sem, reduceCtorEq, Nat.reduceEqDiff, Nat.reduceAdd, Nat.reduceSub, Nat.reduceMul, Nat.reduceLeDiff, Int.reduceEq, Int.reduceLT, Int.reduceLE, Int.reduceAdd, Int.reduceMul, Int.reduceSub, Int.reduceNeg, Int.reduceToNat, reduceIte, Nat.reduceLT]
        · rw [g6]; simp only [go_sem, reduceCtorEq, Nat.reduceEqDiff, Nat.reduceAdd, Nat.reduceSub, Nat.reduceMul, Nat.reduceLeDiff, Int.reduceEq, Int.reduceLT, Int.reduceLE, Int.reduceAdd, Int.reduceMul, Int.reduceSub, Int.reduceNeg, Int.reduceToNat, reduceIte, Nat.reduceLT]
        · rw [g7]; simp only [go_sem, reduceCtorEq, Nat.reduceEqDiff, Nat.reduceAdd, Nat.reduceSub, Nat.reduceMul, Nat.reduceLeDiff, Int.reduceEq, Int.reduceLT, Int.reduceLE, Int.reduceAdd, Int.reduceMul, Int.reduceSub, Int.reduceNeg, Int.reduceToNat, reduceIte, Nat.reduceLT]
        · rw [g8]; simp only [go_sem, reduceCtorEq, Nat.reduceEqDiff, Nat.reduceAdd, Nat.reduceSub, Nat.reduceMul, Nat.reduceLeDiff, Int.reduceEq, Int.reduceLT, Int.reduceLE, Int.reduceAdd, Int.reduceMul, Int.reduceSub, Int.reduceNeg, Int.reduceToNat, reduceIte, Nat.reduceLT]
        · rw [g9]; simp only [go_sem, reduceCtorEq, Nat.reduceEqDiff, Nat.reduceAdd, Nat.reduceSub, Nat.reduceMul, Nat.reduceLeDiff, Int.reduceEq, Int.reduceLT, Int.reduceLE, Int.reduceAdd, Int.reduceMul, Int.reduceSub, Int.reduceNeg, Int.reduceToNat, reduceIte, Nat.reduceLT]
      · simp only [List.concat_eq_append] at h11 hn hl hr ih ⊢
        have hq : (l.map Fact.cells)[pre'.length]? = some q.cells := by rw [hl]; simp
        have hprev := prev_at (pre := pre') (x := q) (by unfold maxLen; have := congrArg List.length hl; simp at this ⊢; omega)
        have hlt : ¬ 0 ≤ cmpDot q.dot r.dot := by
          have h1 : l[pre'.length]? = some q := by rw [hl]; simp
          have h2 : l[pre'.length + 1]? = some r := by rw [hl]; simp
          have := asc_get1 hasc (Nat.lt_succ_self _) h1 h2
          have := cmpDot_lt.2 this
          omega
        simp only [go_sem, reduceCtorEq, Nat.reduceEqDiff, Nat.reduceAdd, Nat.reduceSub, Nat.reduceMul, Nat.reduceLeDiff, Int.reduceEq, Int.reduceLT, Int.reduceLE, Int.reduceAdd, Int.reduceMul, Int.reduceSub, Int.reduceNeg, Int.reduceToNat, reduceIte, Nat.reduceLT, pos_at, h5, h6, h9, h10, h11, hr, hprev, hq]
        refine callW_pure (facts_Cmp_ok q.dot r.dot) ?_
        simp only [go_sem, reduceCtorEq, Nat.reduceEqDiff, Nat.reduceAdd, Nat.reduceSub, Nat.reduceMul, Nat.reduceLeDiff, Int.reduceEq, Int.reduceLT, Int.reduceLE, Int.reduceAdd, Int.reduceMul, Int.reduceSub, Int.reduceNeg, Int.reduceToNat, reduceIte, Nat.reduceLT, h11, hn, hlt]
        refine ih (pre' ++ [q] ++ [r]) _ (by rw [hl]; simp) ?_ ?_ ?_ ?_ ?_ fun e' g5 g6 g7 g8 g9 => hK e' ?_ ?_ ?_ ?_ ?_
        · simp only [go_sem, reduceCtorEq, Nat.reduceEqDiff, Nat.reduceAdd, Nat.reduceSub, Nat.reduceMul, Nat.reduceLeDiff, Int.reduceEq, Int.reduceLT, Int.reduceLE, Int.reduceAdd, Int.reduceMul, Int.reduceSub, Int.reduceNeg, Int.reduceToNat, reduceIte, Nat.reduceLT, h5]
        · simp only [go_sem, reduceCtorEq, Nat.reduceEqDiff, Nat.reduceAdd, Nat.reduceSub, Nat.reduceMul, Nat.reduceLeDiff, Int.reduceEq, Int.reduceLT, Int.reduceLE, Int.reduceAdd, Int.reduceMul, Int.reduceSub, Int.reduceNeg, Int.reduceToNat, reduceIte, Nat.reduceLT, h6]
        · simp only [go_sem, reduceCtorEq, Nat.reduceEqDiff, Nat.reduceAdd, Nat.reduceSub, Nat.reduceMul, Nat.reduceLeDiff, Int.reduceEq, Int.reduceLT, Int.reduceLE, Int.reduceAdd, Int.reduceMul, Int.reduceSub, Int.reduceNeg, Int.reduceToNat, reduceIte, Nat.reduceLT, h9]
        · simp only [go_sem, reduceCtorEq, Nat.reduceEqDiff, Nat.reduceAdd, Nat.reduceSub, Nat.reduceMul, Nat.reduceLeDiff, Int.reduceEq, Int.reduceLT, Int.reduceLE, Int.reduceAdd, Int.reduceMul, Int.reduceSub, Int.reduceNeg, Int.reduceToNat, reduceIte, Nat.reduceLT, h10]
        · simp only [go_sem, reduceCtorEq, Nat.reduceEqDiff, Nat.reduceAdd, Nat.reduceSub, Nat.reduceMul, Nat.reduceLeDiff, Int.reduceEq, Int.reduceLT, Int.reduceLE, Int.reduceAdd, Int.reduceMul, Int.reduceSub, Int.reduceNeg, Int.reduceToNat, reduceIte, Nat.reduceLT, hn]
        · rw [g5]; simp only [go_sem, reduceCtorEq, Nat.reduceEqDiff, Nat.reduceAdd, Nat.reduceSub, Nat.reduceMul, Nat.reduceLeDiff, Int.reduceEq, Int.reduceLT, Int.reduceLE, Int.reduceAdd, Int.reduceMul, Int.reduceSub, Int.reduceNeg, Int.reduceToNat, reduceIte, Nat.reduceLT]
        · rw [g6]; simp only [go_sem, reduceCtorEq, Nat.reduceEqDiff, Nat.reduceAdd, Nat.reduceSub, Nat.reduceMul, Nat.reduceLeDiff, Int.reduceEq, Int.reduceLT, Int.reduceLE, Int.reduceAdd, Int.reduceMul, Int.reduceSub, Int.reduceNeg, Int.reduceToNat, reduceIte, Nat.reduceLT]
        · rw [g7]; simp only [go_sem, reduceCtorEq, Nat.reduceEqDiff, Nat.reduceAdd, Nat.reduceSub, Nat.reduceMul, Nat.reduceLeDiff, Int.reduceEq, Int.reduceLT, Int.reduceLE, Int.reduceAdd, Int.reduceMul, Int.reduceSub, Int.reduceNeg, Int.reduceToNat, reduceIte, Nat.reduceLT]
        · rw [g8]; simp only [go_sem, reduceCtorEq, Nat.reduceEqDiff, Nat.reduceAdd, Nat.reduceSub, Nat.reduceMul, Nat.reduceLeDiff, Int.reduceEq, Int.reduceLT, Int.reduceLE, Int.reduceAdd, Int.reduceMul, Int.reduceSub, Int.reduceNeg, Int.reduceToNat, reduceIte, Nat.reduceLT]
        · rw [g9]; simp only [go_sem, reduceCtorEq, Nat.reduceEqDiff, Nat.reduceAdd, Nat.reduceSub, Nat.reduceMul, Nat.reduceLeDiff, Int.reduceEq, Int.reduceLT, Int.reduceLE, Int.reduceAdd, Int.reduceMul, Int.reduceSub, Int.reduceNeg, Int.reduceToNat, reduceIte, Nat.reduceLT]
  have of_props : ∀ kind : Int, kind ≠ 0 → (∀ f ∈ s.facts.filter (Fact.of key kind), f.kind = kind ∧ f.key = key ∧ f.right = true) ∧ (s.facts.filter (Fact.of key kind)).Pairwise FLt ∧ (s.facts.filter (Fact.of key kind)).length ≤ 40 := by
    intro kind hk0
    refine ⟨fun f hf' => ?_, hf.asc.filter _, Nat.le_trans (List.length_filter_le _ _) hlen⟩
    obtain ⟨h1, h2⟩ := List.mem_filter.1 hf'
    simp only [Fact.of, hk0, decide_false, Bool.false_or, Bool.and_eq_true, decide_eq_true_eq] at h2
    exact ⟨h2.2, h2.1, hf.right f h1⟩
  obtain ⟨p1, o1, l1⟩ := of_props 1 (by decide)
  obtain ⟨p2, o2, l2⟩ := of_props 2 (by decide)
  obtain ⟨p3, o3, l3⟩ := of_props 3 (by decide)
  have find0 := find 0
  have find1 := find 1
  have find2 := find 2
  have find3 := find 3
  generalize s.facts.filter (Fact.of key 0) = f0 at *
  generalize s.facts.filter (Fact.of key 1) = f1 at *
  generalize s.facts.filter (Fact.of key 2) = f2 at *
  generalize s.facts.filter (Fact.of key 3) = f3 at *
  have w1 : IntKind.wrap .i64 (0 + ((f1.map Fact.cells).length : Int)) = (f1.length : Int) := by rw [wrap64 (by simp; omega)]; simp
  have w2 : IntKind.wrap .i64 ((f1.length : Int) + ((f2.map Fact.cells).length : Int)) = ((f1.length + f2.length : Nat) : Int) := by rw [wrap64 (by simp; omega)]; simp
  have w3 : IntKind.wrap .i64 (((f1.length + f2.length : Nat) : Int) + ((f3.map Fact.cells).length : Int)) = ((f1.length + f2.length + f3.length : Nat) : Int) := by rw [wrap64 (by simp; omega)]; simp
  have z2 : IntKind.wrap .i64 (1 + 1) = 2 := by decide
  have z3 : IntKind.wrap .i64 (2 + 1) = 3 := by decide
  have z4 : IntKind.wrap .i64 (3 + 1) = 4 := by decide
  have z2' : IntKind.wrap .i64 2 = 2 := by decide
  have z3' : IntKind.wrap .i64 3 = 3 := by decide
  have z4' : IntKind.wrap .i64 4 = 4 := by decide
  have eall : ((f0.map Fact.cells).length : Int) = ((f1.length + f2.length + f3.length : Nat) : Int) := by rw [List.length_map, hsum]
  simp only [go_sem, reduceCtorEq, Nat.reduceEqDiff, Nat.reduceAdd, Nat.reduceSub, Nat.reduceMul, Nat.reduceLeDiff, Int.reduceEq, Int.reduceLT, Int.reduceLE, Int.reduceAdd, Int.reduceMul, Int.reduceSub, Int.reduceNeg, Int.reduceToNat, reduceIte, Nat.reduceLT, vBin_rem, k1, k2, vB2s_one, hkey]
  refine callW_pure find0 ?_
  simp only [go_sem, reduceCtorEq, Nat.reduceEqDiff, Nat.reduceAdd, Nat.reduceSub, Nat.reduceMul, Nat.reduceLeDiff, Int.reduceEq, Int.reduceLT, Int.reduceLE, Int.reduceAdd, Int.reduceMul, Int.reduceSub, Int.reduceNeg, Int.reduceToNat, reduceIte, Nat.reduceLT]
  refine run_again ?_
  conv => enter [3, 1]; unfold l8_FactsFound_L2
  simp only [go_sem, reduceCtorEq, Nat.reduceEqDiff, Nat.reduceAdd, Nat.reduceSub, Nat.reduceMul, Nat.reduceLeDiff, Int.reduceEq, Int.reduceLT, Int.reduceLE, Int.reduceAdd, Int.reduceMul, Int.reduceSub, Int.reduceNeg, Int.reduceToNat, reduceIte, Nat.reduceLT]
  refine callW_pure find1 ?_
  simp only [go_sem, reduceCtorEq, Nat.reduceEqDiff, Nat.reduceAdd, Nat.reduceSub, Nat.reduceMul, Nat.reduceLeDiff, Int.reduceEq, Int.reduceLT, Int.reduceLE, Int.reduceAdd, Int.reduceMul, Int.reduceSub, Int.reduceNeg, Int.reduceToNat, reduceIte, Nat.reduceLT, w1]
  refine inner _ 1 f1 p1 o1 l1 f1 [] _ rfl ?_ ?_ ?_ ?_ ?_ fun e1 g5 g6 g7 g8 g9 => ?_
  · simp only [go_sem, reduceCtorEq, Nat.reduceEqDiff, Nat.reduceAdd, Nat.reduceSub, Nat.reduceMul, Nat.reduceLeDiff, Int.reduceEq, Int.reduceLT, Int.reduceLE, Int.reduceAdd, Int.reduceMul, Int.reduceSub, Int.reduceNeg, Int.reduceToNat, reduceIte, Nat.reduceLT]
  · simp only [go_sem, reduceCtorEq, Nat.reduceEqDiff, Nat.reduceAdd, Nat.reduceSub, Nat.reduceMul, Nat.reduceLeDiff, Int.reduceEq, Int.reduceLT, Int.reduceLE, Int.reduceAdd, Int.reduceMul, Int.reduceSub, Int.reduceNeg, Int.reduceToNat, reduceIte, Nat.reduceLT]
  · simp only [go_sem, reduceCtorEq, Nat.reduceEqDiff, Nat.reduceAdd, Nat.reduceSub, Nat.reduceMul, Nat.reduceLeDiff, Int.reduceEq, Int.reduceLT, Int.reduceLE, Int.reduceAdd, Int.reduceMul, Int.reduceSub, Int.reduceNeg, Int.reduceToNat, reduceIte, Nat.reduceLT]
  · simp only [go_sem, reduceCtorEq, Nat.reduceEqDiff, Nat.reduceAdd, Nat.reduceSub, Nat.reduceMul, Nat.reduceLeDiff, Int.reduceEq, Int.reduceLT, Int.reduceLE, Int.reduceAdd, Int.reduceMul, Int.reduceSub, Int.reduceNeg, Int.reduceToNat, reduceIte, Nat.reduceLT]
  · simp only [go_sem, reduceCtorEq, Nat.reduceEqDiff, Nat.reduceAdd, Nat.reduceSub, Nat.reduceMul, Nat.reduceLeDiff, Int.reduceEq, Int.reduceLT, Int.reduceLE, Int.reduceAdd, Int.reduceMul, Int.reduceSub, Int.reduceNeg, Int.reduceToNat, reduceIte, Nat.reduceLT, List.length_nil, Int.natCast_zero]
  simp only [go_sem, reduceCtorEq, Nat.reduceEqDiff, Nat.reduceAdd, Nat.reduceSub, Nat.reduceMul, Nat.reduceLeDiff, Int.reduceEq, Int.reduceLT, Int.reduceLE, Int.reduceAdd, Int.reduceMul, Int.reduceSub, Int.reduceNeg, Int.reduceToNat, reduceIte, Nat.reduceLT] at g5 g6 g7 g8 g9
  unfold l8_FactsFound_K1
  simp only [go_sem, reduceCtorEq, Nat.reduceEqDiff, Nat.reduceAdd, Nat.reduceSub, Nat.reduceMul, Nat.reduceLeDiff, Int.reduceEq, Int.reduceLT, Int.reduceLE, Int.reduceAdd, Int.reduceMul, Int.reduceSub, Int.reduceNeg, Int.reduceToNat, reduceIte, Nat.reduceLT, g9, z2, z2']
  refine run_again ?_
  conv => enter [3, 1]; unfold l8_FactsFound_L2
  simp only [go_sem, reduceCtorEq, Nat.reduceEqDiff, Nat.reduceAdd, Nat.reduceSub, Nat.reduceMul, Nat.reduceLeDiff, Int.reduceEq, Int.reduceLT, Int.reduceLE, Int.reduceAdd, Int.reduceMul, Int.reduceSub, Int.reduceNeg, Int.reduceToNat, reduceIte, Nat.reduceLT, g5, g6, g8]
  refine callW_pure find2 ?_
  simp only [go_sem, reduceCtorEq, Nat.reduceEqDiff, Nat.reduceAdd, Nat.reduceSub, Nat.reduceMul, Nat.reduceLeDiff, Int.reduceEq, Int.reduceLT, Int.reduceLE, Int.reduceAdd, Int.reduceMul, Int.reduceSub, Int.reduceNeg, Int.reduceToNat, reduceIte, Nat.reduceLT, g8, w2]
  refine inner _ 2 f2 p2 o2 l2 f2 [] _ rfl ?_ ?_ ?_ ?_ ?_ fun e2 k5 k6 k7 k8 k9 => ?_
  · simp only [go_sem, reduceCtorEq, Nat.reduceEqDiff, Nat.reduceAdd, Nat.reduceSub, Nat.reduceMul, Nat.reduceLeDiff, Int.reduceEq, Int.reduceLT, Int.reduceLE, Int.reduceAdd, Int.reduceMul, Int.reduceSub, Int.reduceNeg, Int.reduceToNat, reduceIte, Nat.reduceLT, g5]
  · simp only [go_sem, reduceCtorEq, Nat.reduceEqDiff, Nat.reduceAdd, Nat.reduceSub, Nat.reduceMul, Nat.reduceLeDiff, Int.reduceEq, Int.reduceLT, Int.reduceLE, Int.reduceAdd, Int.reduceMul, Int.reduceSub, Int.reduceNeg, Int.reduceToNat, reduceIte, Nat.reduceLT, g6]
  · simp only [go_sem, reduceCtorEq, Nat.reduceEqDiff, Nat.reduceAdd, Nat.reduceSub, Nat.reduceMul, Nat.reduceLeDiff, Int.reduceEq, Int.reduceLT, Int.reduceLE, Int.reduceAdd, Int.reduceMul, Int.reduceSub, Int.reduceNeg, Int.reduceToNat, reduceIte, Nat.reduceLT]
  · simp only [go_sem, reduceCtorEq, Nat.reduceEqDiff, Nat.reduceAdd, Nat.reduceSub, Nat.reduceMul, Nat.reduceLeDiff, Int.reduceEq, Int.reduceLT, Int.reduceLE, Int.reduceAdd, Int.reduceMul, Int.reduceSub, Int.reduceNeg, Int.reduceToNat, reduceIte, Nat.reduceLT]
  · simp only [go_sem, reduceCtorEq, Nat.reduceEqDiff, Nat.reduceAdd, Nat.reduceSub, Nat.reduceMul, Nat.reduceLeDiff, Int.reduceEq, Int.reduceLT, Int.reduceLE, Int.reduceAdd, Int.reduceMul, Int.reduceSub, Int.reduceNeg, Int.reduceToNat, reduceIte, Nat.reduceLT, List.length_nil, Int.natCast_zero]
  simp only [go_sem, reduceCtorEq, Nat.reduceEqDiff, Nat.reduceAdd, Nat.reduceSub, Nat.reduceMul, Nat.reduceLeDiff, Int.reduceEq, Int.reduceLT, Int.reduceLE, Int.reduceAdd, Int.reduceMul, Int.reduceSub, Int.reduceNeg, Int.reduceToNat, reduceIte, Nat.reduceLT, g5, g6, g7] at k5 k6 k7 k8 k9
  unfold l8_FactsFound_K1
  simp only [go_sem, reduceCtorEq, Nat.reduceEqDiff, Nat.reduceAdd, Nat.reduceSub, Nat.reduceMul, Nat.reduceLeDiff, Int.reduceEq, Int.reduceLT, Int.reduceLE, Int.reduceAdd, Int.reduceMul, Int.reduceSub, Int.reduceNeg, Int.reduceToNat, reduceIte, Nat.reduceLT, k9, z3, z3']
  refine run_again ?_
  conv => enter [3, 1]; unfold l8_FactsFound_L2
  simp only [go_sem, reduceCtorEq, Nat.reduceEqDiff, Nat.reduceAdd, Nat.reduceSub, Nat.reduceMul, Nat.reduceLeDiff, Int.reduceEq, Int.reduceLT, Int.reduceLE, Int.reduceAdd, Int.reduceMul, Int.reduceSub, Int.reduceNeg, Int.reduceToNat, reduceIte, Nat.reduceLT, k5, k6, k8]
  refine callW_pure find3 ?_
  simp only [go_sem, reduceCtorEq, Nat.reduceEqDiff, Nat.reduceAdd, Nat.reduceSub, Nat.reduceMul, Nat.reduceLeDiff, Int.reduceEq, Int.reduceLT, Int.reduceLE, Int.reduceAdd, Int.reduceMul, Int.reduceSub, Int.reduceNeg, Int.reduceToNat, reduceIte, Nat.reduceLT, k8, w3]
  refine inner _ 3 f3 p3 o3 l3 f3 [] _ rfl ?_ ?_ ?_ ?_ ?_ fun e3 m5 m6 m7 m8 m9 => ?_
  · simp only [go_sem, reduceCtorEq, Nat.reduceEqDiff, Nat.reduceAdd, Nat.reduceSub, Nat.reduceMul, Nat.reduceLeDiff, Int.reduceEq, Int.reduceLT, Int.reduceLE, Int.reduceAdd, Int.reduceMul, Int.reduceSub, Int.reduceNeg, Int.reduceToNat, reduceIte, Nat.reduceLT, k5]
  · simp only [go_sem, reduceCtorEq, Nat.reduceEqDiff, Nat.reduceAdd, Nat.reduceSub, Nat.reduceMul, Nat.reduceLeDiff, Int.reduceEq, Int.reduceLT, Int.reduceLE, Int.reduceAdd, Int.reduceMul, Int.reduceSub, Int.reduceNeg, Int.reduceToNat, reduceIte, Nat.reduceLT, k6]
  · simp only [go_sem, reduceCtorEq, Nat.reduceEqDiff, Nat.reduceAdd, Nat.reduceSub, Nat.reduceMul, Nat.reduceLeDiff, Int.reduceEq, Int.reduceLT, Int.reduceLE, Int.reduceAdd, Int.reduceMul, Int.reduceSub, Int.reduceNeg, Int.reduceToNat, reduceIte, Nat.reduceLT]
  · simp only [go_sem, reduceCtorEq, Nat.reduceEqDiff, Nat.reduceAdd, Nat.reduceSub, Nat.reduceMul, Nat.reduceLeDiff, Int.reduceEq, Int.reduceLT, Int.reduceLE, Int.reduceAdd, Int.reduceMul, Int.reduceSub, Int.reduceNeg, Int.reduceToNat, reduceIte, Nat.reduceLT]
  · simp only [go_sem, reduceCtorEq, Nat.reduceEqDiff, Nat.reduceAdd, Nat.reduceSub, Nat.reduceMul, Nat.reduceLeDiff, Int.reduceEq, Int.reduceLT, Int.reduceLE, Int.reduceAdd, Int.reduceMul, Int.reduceSub, Int.reduceNeg, Int.reduceToNat, reduceIte, Nat.reduceLT, List.length_nil, Int.natCast_zero]
  simp only [go_sem, reduceCtorEq, Nat.reduceEqDiff, Nat.reduceAdd, Nat.reduceSub, Nat.reduceMul, Nat.reduceLeDiff, Int.reduceEq, Int.reduceLT, Int.reduceLE, Int.reduceAdd, Int.reduceMul, Int.reduceSub, Int.reduceNeg, Int.reduceToNat, reduceIte, Nat.reduceLT, k5, k6, k7] at m5 m6 m7 m8 m9
  unfold l8_FactsFound_K1
  simp only [go_sem, reduceCtorEq, Nat.reduceEqDiff, Nat.reduceAdd, Nat.reduceSub, Nat.reduceMul, Nat.reduceLeDiff, Int.reduceEq, Int.reduceLT, Int.reduceLE, Int.reduceAdd, Int.reduceMul, Int.reduceSub, Int.reduceNeg, Int.reduceToNat, reduceIte, Nat.reduceLT, m9, z4, z4']
  refine run_again ?_
  conv => enter [3, 1]; unfold l8_FactsFound_L2
  simp only [go_sem, reduceCtorEq, Nat.reduceEqDiff, Nat.reduceAdd, Nat.reduceSub, Nat.reduceMul, Nat.reduceLeDiff, Int.reduceEq, Int.reduceLT, Int.reduceLE, Int.reduceAdd, Int.reduceMul, Int.reduceSub, Int.reduceNeg, Int.reduceToNat, reduceIte, Nat.reduceLT]
  unfold l8_FactsFound_K3
  simp only [go_sem, reduceCtorEq, Nat.reduceEqDiff, Nat.reduceAdd, Nat.reduceSub, Nat.reduceMul, Nat.reduceLeDiff, Int.reduceEq, Int.reduceLT, Int.reduceLE, Int.reduceAdd, Int.reduceMul, Int.reduceSub, Int.reduceNeg, Int.reduceToNat, reduceIte, Nat.reduceLT, m5, m6, m7, m8, eall]
  refine callW_pure find4 ?_
  simp only [go_sem, reduceCtorEq, Nat.reduceEqDiff, Nat.reduceAdd, Nat.reduceSub, Nat.reduceMul, Nat.reduceLeDiff, Int.reduceEq, Int.reduceLT, Int.reduceLE, Int.reduceAdd, Int.reduceMul, Int.reduceSub, Int.reduceNeg, Int.reduceToNat, reduceIte, Nat.reduceLT, m5]
  refine callW_pure hnone ?_
  simp only [go_sem, reduceCtorEq, Nat.reduceEqDiff, Nat.reduceAdd, Nat.reduceSub, Nat.reduceMul, Nat.reduceLeDiff, Int.reduceEq, Int.reduceLT, Int.reduceLE, Int.reduceAdd, Int.reduceMul, Int.reduceSub, Int.reduceNeg, Int.reduceToNat, reduceIte, Nat.reduceLT]
  refine callW_pure l8_awake_ok ?_
  simp only [go_sem, reduceCtorEq, Nat.reduceEqDiff, Nat.reduceAdd, Nat.reduceSub, Nat.reduceMul, Nat.reduceLeDiff, Int.reduceEq, Int.reduceLT, Int.reduceLE, Int.reduceAdd, Int.reduceMul, Int.reduceSub, Int.reduceNeg, Int.reduceToNat, reduceIte, Nat.reduceLT]
  rfl

theorem l8_FactsFound_law (ns : List Nat) (hl : ns.length ≤ maxLen) (hb : ∀ n ∈ ns, n < 256) (k : Int) (hk : IntKind.min .u8 ≤ k ∧ k ≤ IntKind.max .u8) : Pr 8 [.c (bytesC ns), .c (.int .u8 k)] (bC true) := by
  have a1 : 0 ≤ k := hk.1
  have a2 : k ≤ 255 := hk.2
  have := l8_FactsFound_ok ns hl hb k.toNat (by omega)
  rwa [Int.toNat_of_nonneg a1] at this

end Go.Proofs.Ytjjmeoeaimfiiaa.Eng
