/- Contracts of the package mutate: may, gone, made. No statement of the seat is proved here. -/
import Derived.Test.YtnccbccnjjachaaGreatDoorZFindD
import Derived.Test.YtnccbccnjjachaaGreatDoorZMutT
namespace Go.Proofs.YtnccbccnjjachaaGreatDoor.Eng
open Go
set_option linter.unusedVariables false
set_option linter.unusedSimpArgs false

def wideN (n : Int) : Bool := decide (-1099511627776 ≤ n) && decide (n ≤ 1099511627776)
theorem mutate_wide_ok (n : Int) : Pr 48 [iC n] (bC (wideN n)) := by
  refine pure_of mixed is_mutate_wide rfl fun hl T => ?_
  unfold c_mutate_wide
  have w1 : IntKind.wrap .i64 (-1099511627776) = -1099511627776 := by decide
  simp only [go_sem, reduceCtorEq, Nat.reduceEqDiff, Nat.reduceAdd, Nat.reduceSub, Nat.reduceMul, Nat.reduceLeDiff, Int.reduceEq, Int.reduceLT, Int.reduceLE, Int.reduceAdd, Int.reduceMul, Int.reduceSub, Int.reduceNeg, Int.reduceToNat, reduceIte, Nat.reduceLT, w1]
  repeat' (first | (first | refine guardW_split (fun h => ?_) (fun h => ?_) | refine condW_split (fun h => ?_) (fun h => ?_) | refine guardW_nsplit (fun h => ?_) (fun h => ?_) | refine condW_nsplit (fun h => ?_) (fun h => ?_) | refine guardW_nbool (fun h => ?_) (fun h => ?_) | refine condW_ncases (fun h => ?_) (fun h => ?_) | refine guardW_bool (fun h => ?_) (fun h => ?_) | refine condW_cases (fun h => ?_) (fun h => ?_)) | simp only [go_sem, reduceCtorEq, Nat.reduceEqDiff, Nat.reduceAdd, Nat.reduceSub, Nat.reduceMul, Nat.reduceLeDiff, Int.reduceEq, Int.reduceLT, Int.reduceLE, Int.reduceAdd, Int.reduceMul, Int.reduceSub, Int.reduceNeg, Int.reduceToNat, reduceIte, Nat.reduceLT, w1, *])
  all_goals simp [viewA, viewFn, viewC, viewFs, viewCs, viewAs, closedC, closedCs, wideN, *]
theorem mutate_gone_1_ok (f : Fact) (o : OpR) : Pr 57 [.agg f.cells, .c (.fp o.cells 0)] (bC (decide (f.item ≠ o.item))) := by
  refine pure_of mixed is_mutate_gone_1 rfl fun hl T => ?_
  unfold c_mutate_gone_1
  simp only [go_sem, reduceCtorEq, Nat.reduceEqDiff, Nat.reduceAdd, Nat.reduceSub, Nat.reduceMul, Nat.reduceLeDiff, Int.reduceEq, Int.reduceLT, Int.reduceLE, Int.reduceAdd, Int.reduceMul, Int.reduceSub, Int.reduceNeg, Int.reduceToNat, reduceIte, Nat.reduceLT]
  simp [viewA, viewFn, viewC, viewFs, viewCs, viewAs, closedC, closedCs]
theorem mutate_gone_2_ok (f : Fact) (dev : Int) : Pr 58 [.agg f.cells, .c (.fp [.int .i64 dev] 0)] (bC (decide (f.dev ≠ dev))) := by
  refine pure_of mixed is_mutate_gone_2 rfl fun hl T => ?_
  unfold c_mutate_gone_2
  simp only [go_sem, reduceCtorEq, Nat.reduceEqDiff, Nat.reduceAdd, Nat.reduceSub, Nat.reduceMul, Nat.reduceLeDiff, Int.reduceEq, Int.reduceLT, Int.reduceLE, Int.reduceAdd, Int.reduceMul, Int.reduceSub, Int.reduceNeg, Int.reduceToNat, reduceIte, Nat.reduceLT]
  simp [viewA, viewFn, viewC, viewFs, viewCs, viewAs, closedC, closedCs]

theorem mutate_may_ok (dev : Int) (o : OpR) : Pr 42 [iC dev, .agg o.cells] (bC (!badOp dev o)) := by
  refine pure_of mixed is_mutate_may rfl fun hl T => ?_
  unfold c_mutate_may
  obtain ⟨kind, key, item, n⟩ := o
  generalize hv : (!badOp dev ⟨kind, key, item, n⟩) = v
  simp only [go_sem, reduceCtorEq, Nat.reduceEqDiff, Nat.reduceAdd, Nat.reduceSub, Nat.reduceMul, Nat.reduceLeDiff, Int.reduceEq, Int.reduceLT, Int.reduceLE, Int.reduceAdd, Int.reduceMul, Int.reduceSub, Int.reduceNeg, Int.reduceToNat, reduceIte, Nat.reduceLT]
  repeat' (first | (first | refine guardW_split (fun h => ?_) (fun h => ?_) | refine condW_split (fun h => ?_) (fun h => ?_) | refine guardW_nsplit (fun h => ?_) (fun h => ?_) | refine condW_nsplit (fun h => ?_) (fun h => ?_) | refine guardW_nbool (fun h => ?_) (fun h => ?_) | refine condW_ncases (fun h => ?_) (fun h => ?_) | refine guardW_bool (fun h => ?_) (fun h => ?_) | refine condW_cases (fun h => ?_) (fun h => ?_)) | refine callW_pure (mutate_wide_ok n) ?_ | simp only [go_sem, reduceCtorEq, Nat.reduceEqDiff, Nat.reduceAdd, Nat.reduceSub, Nat.reduceMul, Nat.reduceLeDiff, Int.reduceEq, Int.reduceLT, Int.reduceLE, Int.reduceAdd, Int.reduceMul, Int.reduceSub, Int.reduceNeg, Int.reduceToNat, reduceIte, Nat.reduceLT, *])
  all_goals (subst hv; simp [viewA, viewFn, viewC, viewFs, viewCs, viewAs, closedC, closedCs, badOp, wideN, *])
  all_goals first | (rw [Bool.eq_iff_iff]; simp; done) | (rw [Bool.eq_iff_iff]; simp; omega) | omega

theorem slices_DeleteFunc_Fact_own (l : List Fact) (g : Nat) (caps : List Cell) (q : Fact → Bool) (hcc : closedCs caps = true) (hs : l.length ≤ 1000000) (hg : ∀ f : Fact, Pr g (.agg f.cells :: caps.map .c) (bC (q f))) {v : AVal} {G : Heap}
    (ha : Acc 6 (l.map Fact.cells) v G) : ∃ v' G', CallSound Tryz.prog 56 [v, .c (.fn g caps)] G v' G' ∧ Acc 6 ((l.filter fun f => !q f).map Fact.cells) v' G' := by
  rcases ha with ⟨h0, hv⟩ | ⟨b, ext, rfl, hb⟩
  · have hl : l = [] := by simpa using h0
    subst hl
    have hix := slices_IndexFunc_Fact_ok [] g caps q hcc hg
    have h1 : Pr 56 [.c .nilS, .c (.fn g caps)] (.c .nilS) := by
      refine pure_of mixed is_slices_DeleteFunc_Fact (by simp [closedAs, closedA, closedC, hcc]) fun hl T => ?_
      unfold c_slices_DeleteFunc_Fact
      simp only [go_sem, reduceCtorEq, Nat.reduceEqDiff, Nat.reduceAdd, Nat.reduceSub, Nat.reduceMul, Nat.reduceLeDiff, Int.reduceEq, Int.reduceLT, Int.reduceLE, Int.reduceAdd, Int.reduceMul, Int.reduceSub, Int.reduceNeg, Int.reduceToNat, reduceIte, Nat.reduceLT]
      refine callW_pure (hix.wk (.cons (.c (.nilS _)) (.cons (.same _) .nil))) ?_
      simp only [go_sem, reduceCtorEq, Nat.reduceEqDiff, Nat.reduceAdd, Nat.reduceSub, Nat.reduceMul, Nat.reduceLeDiff, Int.reduceEq, Int.reduceLT, Int.reduceLE, Int.reduceAdd, Int.reduceMul, Int.reduceSub, Int.reduceNeg, Int.reduceToNat, reduceIte, Nat.reduceLT, firstF, idxI]
      simp [viewA, viewFn, viewC, viewFs, viewCs, viewAs, closedC, closedCs]
    have h2 : Pr 56 [.c (.zer 6), .c (.fn g caps)] (.c (.zer 6)) := by
      refine pure_of mixed is_slices_DeleteFunc_Fact (by simp [closedAs, closedA, closedC, hcc]) fun hl T => ?_
      unfold c_slices_DeleteFunc_Fact
      simp only [go_sem, reduceCtorEq, Nat.reduceEqDiff, Nat.reduceAdd, Nat.reduceSub, Nat.reduceMul, Nat.reduceLeDiff, Int.reduceEq, Int.reduceLT, Int.reduceLE, Int.reduceAdd, Int.reduceMul, Int.reduceSub, Int.reduceNeg, Int.reduceToNat, reduceIte, Nat.reduceLT]
      refine callW_pure (hix.wk (.cons (.c (.zer _)) (.cons (.same _) .nil))) ?_
      simp only [go_sem, reduceCtorEq, Nat.reduceEqDiff, Nat.reduceAdd, Nat.reduceSub, Nat.reduceMul, Nat.reduceLeDiff, Int.reduceEq, Int.reduceLT, Int.reduceLE, Int.reduceAdd, Int.reduceMul, Int.reduceSub, Int.reduceNeg, Int.reduceToNat, reduceIte, Nat.reduceLT, firstF, idxI]
      simp [viewA, viewFn, viewC, viewFs, viewCs, viewAs, closedC, closedCs]
    rcases hv with rfl | rfl
    · exact ⟨_, _, h1 G, .inl ⟨rfl, .inl rfl⟩⟩
    · exact ⟨_, _, h2 G, .inl ⟨rfl, .inr rfl⟩⟩
  · rw [List.length_map]
    exact sound_ex mixed is_slices_DeleteFunc_Fact (R := fun v' G' => Acc 6 ((l.filter fun f => !q f).map Fact.cells) v' G') fun T => slices_DeleteFunc_Fact_run l ext b g caps q hcc hs hg hb T _ fun v G h => h

theorem filter_two {α : Type} (p q : α → Bool) (l : List α) : (l.filter p).filter q = l.filter (fun x => p x && q x) := by
  rw [List.filter_filter]
  exact List.filter_congr fun x _ => Bool.and_comm _ _

theorem mutate_gone_ok (s : State) (dev : Int) (o : OpR) (hk : 1 ≤ o.kind ∧ o.kind ≤ 5) (hs : s.facts.length ≤ 1000000) : Pr 43 [.agg s.cells, iC dev, .agg o.cells] (.c (factsC (goneL s dev o))) := by
  refine pure_ofW mixed is_mutate_gone (by simp [closedAs, closedA, closedC, State.closed, OpR.cells, closedCs]) fun hl T => ?_
  unfold c_mutate_gone
  have hfl : ∀ p : Fact → Bool, (s.facts.filter p).length ≤ 1000000 := fun p => Nat.le_trans (List.length_filter_le _ _) hs
  have gen : goneL s dev o = s.facts.filter (goesF dev o) := rfl
  rw [gen]
  obtain ⟨kind, key, item, n⟩ := o
  simp only at hk
  have hbx : ∀ H : Heap, mkF H (vBox (iC dev) H) = some (.c (.fp [.int .i64 dev] 0)) := fun H => mkF_boxc rfl
  simp only [go_sem, reduceCtorEq, Nat.reduceEqDiff, Nat.reduceAdd, Nat.reduceSub, Nat.reduceMul, Nat.reduceLeDiff, Int.reduceEq, Int.reduceLT, Int.reduceLE, Int.reduceAdd, Int.reduceMul, Int.reduceSub, Int.reduceNeg, Int.reduceToNat, reduceIte, Nat.reduceLT, closed_runs, closed_facts, hbx]
  by_cases h1 : kind = 1
  · subst h1
    simp only [go_sem, reduceCtorEq, Nat.reduceEqDiff, Nat.reduceAdd, Nat.reduceSub, Nat.reduceMul, Nat.reduceLeDiff, Int.reduceEq, Int.reduceLT, Int.reduceLE, Int.reduceAdd, Int.reduceMul, Int.reduceSub, Int.reduceNeg, Int.reduceToNat, reduceIte, Nat.reduceLT]
    refine callW_pure (facts_Find_ok s key 1 (by omega)) ?_
    simp only [go_sem, reduceCtorEq, Nat.reduceEqDiff, Nat.reduceAdd, Nat.reduceSub, Nat.reduceMul, Nat.reduceLeDiff, Int.reduceEq, Int.reduceLT, Int.reduceLE, Int.reduceAdd, Int.reduceMul, Int.reduceSub, Int.reduceNeg, Int.reduceToNat, reduceIte, Nat.reduceLT]
    have : s.facts.filter (Fact.of key 1) = s.facts.filter (goesF dev ⟨1, key, item, n⟩) := List.filter_congr fun f _ => by simp [Fact.of, goesF]
    rw [this]
    exact ⟨_, by simp [viewA, viewFn, viewC, viewFs, viewCs, viewAs, closedC, closedCs, closed_facts], .same _⟩
  by_cases h23 : kind = 2 ∨ kind = 3
  · have hgo : (s.facts.filter (Fact.of key 2)).filter (fun f => !decide (f.item ≠ item)) = s.facts.filter (goesF dev ⟨kind, key, item, n⟩) := by
      rw [filter_two]
      exact List.filter_congr fun f _ => by simp [Fact.of, goesF, h1, h23, Bool.and_assoc]
    rcases h23 with rfl | rfl
    all_goals
      simp only [go_sem, reduceCtorEq, Nat.reduceEqDiff, Nat.reduceAdd, Nat.reduceSub, Nat.reduceMul, Nat.reduceLeDiff, Int.reduceEq, Int.reduceLT, Int.reduceLE, Int.reduceAdd, Int.reduceMul, Int.reduceSub, Int.reduceNeg, Int.reduceToNat, reduceIte, Nat.reduceLT]
      obtain ⟨v, G, hc, ha⟩ := facts_Find_own s key 2 hs []
      refine callW_at hc (fun h => by cases h) ?_
      simp only [go_sem, reduceCtorEq, Nat.reduceEqDiff, Nat.reduceAdd, Nat.reduceSub, Nat.reduceMul, Nat.reduceLeDiff, Int.reduceEq, Int.reduceLT, Int.reduceLE, Int.reduceAdd, Int.reduceMul, Int.reduceSub, Int.reduceNeg, Int.reduceToNat, reduceIte, Nat.reduceLT]
      obtain ⟨v', G', hd, ha'⟩ := slices_DeleteFunc_Fact_own (s.facts.filter (Fact.of key 2)) 57 [.fp [.int .i64 _, .str key, .str item, .int .i64 n] 0] (fun f => decide (f.item ≠ item)) rfl (hfl _) (fun f => mutate_gone_1_ok f ⟨_, key, item, n⟩) ha
      refine callW_at hd (fun h => by cases h) ?_
      simp only [go_sem, reduceCtorEq, Nat.reduceEqDiff, Nat.reduceAdd, Nat.reduceSub, Nat.reduceMul, Nat.reduceLeDiff, Int.reduceEq, Int.reduceLT, Int.reduceLE, Int.reduceAdd, Int.reduceMul, Int.reduceSub, Int.reduceNeg, Int.reduceToNat, reduceIte, Nat.reduceLT]
      rw [hgo] at ha'
      exact ha'.told (closed_facts _)
  by_cases h4 : kind = 4
  · subst h4
    have hgo : (s.facts.filter (Fact.of key 3)).filter (fun f => !decide (f.dev ≠ dev)) = s.facts.filter (goesF dev ⟨4, key, item, n⟩) := by
      rw [filter_two]
      exact List.filter_congr fun f _ => by simp [Fact.of, goesF, Bool.and_assoc]
    simp only [go_sem, reduceCtorEq, Nat.reduceEqDiff, Nat.reduceAdd, Nat.reduceSub, Nat.reduceMul, Nat.reduceLeDiff, Int.reduceEq, Int.reduceLT, Int.reduceLE, Int.reduceAdd, Int.reduceMul, Int.reduceSub, Int.reduceNeg, Int.reduceToNat, reduceIte, Nat.reduceLT]
    obtain ⟨v, G, hc, ha⟩ := facts_Find_own s key 3 hs []
    refine callW_at hc (fun h => by cases h) ?_
    simp only [go_sem, reduceCtorEq, Nat.reduceEqDiff, Nat.reduceAdd, Nat.reduceSub, Nat.reduceMul, Nat.reduceLeDiff, Int.reduceEq, Int.reduceLT, Int.reduceLE, Int.reduceAdd, Int.reduceMul, Int.reduceSub, Int.reduceNeg, Int.reduceToNat, reduceIte, Nat.reduceLT]
    obtain ⟨v', G', hd, ha'⟩ := slices_DeleteFunc_Fact_own (s.facts.filter (Fact.of key 3)) 58 [.fp [.int .i64 dev] 0] (fun f => decide (f.dev ≠ dev)) rfl (hfl _) (fun f => mutate_gone_2_ok f dev) ha
    refine callW_at hd (fun h => by cases h) ?_
    simp only [go_sem, reduceCtorEq, Nat.reduceEqDiff, Nat.reduceAdd, Nat.reduceSub, Nat.reduceMul, Nat.reduceLeDiff, Int.reduceEq, Int.reduceLT, Int.reduceLE, Int.reduceAdd, Int.reduceMul, Int.reduceSub, Int.reduceNeg, Int.reduceToNat, reduceIte, Nat.reduceLT]
    rw [hgo] at ha'
    exact ha'.told (closed_facts _)
  have h5 : kind = 5 := by omega
  subst h5
  simp only [go_sem, reduceCtorEq, Nat.reduceEqDiff, Nat.reduceAdd, Nat.reduceSub, Nat.reduceMul, Nat.reduceLeDiff, Int.reduceEq, Int.reduceLT, Int.reduceLE, Int.reduceAdd, Int.reduceMul, Int.reduceSub, Int.reduceNeg, Int.reduceToNat, reduceIte, Nat.reduceLT]
  refine callW_pure (facts_Find_ok s key 0 (by omega)) ?_
  simp only [go_sem, reduceCtorEq, Nat.reduceEqDiff, Nat.reduceAdd, Nat.reduceSub, Nat.reduceMul, Nat.reduceLeDiff, Int.reduceEq, Int.reduceLT, Int.reduceLE, Int.reduceAdd, Int.reduceMul, Int.reduceSub, Int.reduceNeg, Int.reduceToNat, reduceIte, Nat.reduceLT]
  have : s.facts.filter (Fact.of key 0) = s.facts.filter (goesF dev ⟨5, key, item, n⟩) := List.filter_congr fun f _ => by simp [Fact.of, goesF]
  rw [this]
  exact ⟨_, by simp [viewA, viewFn, viewC, viewFs, viewCs, viewAs, closedC, closedCs, closed_facts], .same _⟩

/-- The fact that a deed makes, behind those that it takes away. -/
def sumUp (n : Int) (l : List Fact) : Int := l.foldl (fun n f => W (n + f.num)) n
theorem sumFrom_gone {dev : Int} {o : OpR} : ∀ {l : List Fact} {n : Int}, sumFrom dev o n l = sumUp n (l.filter (goesF dev o))
  | [], n => rfl
  | f :: l, n => by
    unfold sumFrom
    cases h : goesF dev o f with
    | true => rw [if_pos rfl, List.filter_cons_of_pos h, sumFrom_gone]; rfl
    | false => rw [if_neg (by simp), List.filter_cons_of_neg (by simp [h]), sumFrom_gone]
def madeBy (o : OpR) (d : Dot) (old : List Fact) : Fact := ⟨d.dev, d.n, o.key, if o.kind = 4 then 3 else o.kind, if o.kind = 4 then emptyB else o.item, if o.kind = 4 then sumUp o.n old else 0⟩

theorem mutate_made_ok (o : OpR) (d : Dot) (old : List Fact) (hk : 1 ≤ o.kind ∧ o.kind ≤ 5) (hs : old.length ≤ 1000000) :
    Pr 44 [.agg o.cells, .agg d.cells, .c (factsC old)] (.c (factsC (if makes o then [madeBy o d old] else []))) := by
  refine pure_ofW mixed is_mutate_made (by simp [closedAs, closedA, closedC, closed_factsC, OpR.cells, Dot.cells, closedCs]) fun hl T => ?_
  unfold c_mutate_made
  obtain ⟨kind, key, item, n⟩ := o
  obtain ⟨dev, num⟩ := d
  simp only at hk
  have none : ∀ H : Heap, viewW H (.c .nilS) (.c (.lst 6 [])) := fun H => ⟨_, rfl, .c (.nilS _)⟩
  have one : ∀ (f : Fact) (H : Heap), viewW H (.c (.lst 6 [f.cells])) (.c (.lst 6 [f.cells])) := fun f H => ⟨_, by simp [viewA, viewFn, viewC, viewFs, viewCs, viewAs, closedC, closedCs, closedR, Fact.cells], .same _⟩
  dsimp only [factsC]
  simp only [go_sem, reduceCtorEq, Nat.reduceEqDiff, Nat.reduceAdd, Nat.reduceSub, Nat.reduceMul, Nat.reduceLeDiff, Int.reduceEq, Int.reduceLT, Int.reduceLE, Int.reduceAdd, Int.reduceMul, Int.reduceSub, Int.reduceNeg, Int.reduceToNat, reduceIte, Nat.reduceLT]
  by_cases h1 : kind = 1
  · subst h1
    simp only [go_sem, reduceCtorEq, Nat.reduceEqDiff, Nat.reduceAdd, Nat.reduceSub, Nat.reduceMul, Nat.reduceLeDiff, Int.reduceEq, Int.reduceLT, Int.reduceLE, Int.reduceAdd, Int.reduceMul, Int.reduceSub, Int.reduceNeg, Int.reduceToNat, reduceIte, Nat.reduceLT]
    unfold mutate_made_K1
    simp only [go_sem, reduceCtorEq, Nat.reduceEqDiff, Nat.reduceAdd, Nat.reduceSub, Nat.reduceMul, Nat.reduceLeDiff, Int.reduceEq, Int.reduceLT, Int.reduceLE, Int.reduceAdd, Int.reduceMul, Int.reduceSub, Int.reduceNeg, Int.reduceToNat, reduceIte, Nat.reduceLT]
    exact one ⟨dev, num, key, 1, item, 0⟩ _
  by_cases h2 : kind = 2
  · subst h2
    simp only [go_sem, reduceCtorEq, Nat.reduceEqDiff, Nat.reduceAdd, Nat.reduceSub, Nat.reduceMul, Nat.reduceLeDiff, Int.reduceEq, Int.reduceLT, Int.reduceLE, Int.reduceAdd, Int.reduceMul, Int.reduceSub, Int.reduceNeg, Int.reduceToNat, reduceIte, Nat.reduceLT]
    unfold mutate_made_K1
    simp only [go_sem, reduceCtorEq, Nat.reduceEqDiff, Nat.reduceAdd, Nat.reduceSub, Nat.reduceMul, Nat.reduceLeDiff, Int.reduceEq, Int.reduceLT, Int.reduceLE, Int.reduceAdd, Int.reduceMul, Int.reduceSub, Int.reduceNeg, Int.reduceToNat, reduceIte, Nat.reduceLT]
    exact one ⟨dev, num, key, 2, item, 0⟩ _
  by_cases h4 : kind = 4
  · subst h4
    have hmk : (if makes ⟨4, key, item, n⟩ = true then [madeBy ⟨4, key, item, n⟩ ⟨dev, num⟩ old] else []) = [madeBy ⟨4, key, item, n⟩ ⟨dev, num⟩ old] := if_pos rfl
    rw [hmk]
    have hlo : old.length ≤ maxLen := by unfold maxLen; omega
    have hcl : closedR (old.map Fact.cells) = true := closed_facts old
    simp only [go_sem, reduceCtorEq, Nat.reduceEqDiff, Nat.reduceAdd, Nat.reduceSub, Nat.reduceMul, Nat.reduceLeDiff, Int.reduceEq, Int.reduceLT, Int.reduceLE, Int.reduceAdd, Int.reduceMul, Int.reduceSub, Int.reduceNeg, Int.reduceToNat, reduceIte, Nat.reduceLT, List.length_map]
    have loop : ∀ (rest pre : List Fact) (x : Int) (e : Env) (H : Heap), old = pre ++ rest → e 7 = .c (.ptr 0 0 0) → e 34 = .c (.lst 6 (old.map Fact.cells)) → e 35 = iC old.length → e 36 = iC pre.length → sumUp x rest = sumUp n old →
        Run (progT Tryz.prog T) ⟨[.tmp 6], fun u E => viewW E u (.c (.lst 6 [(madeBy ⟨4, key, item, n⟩ ⟨dev, num⟩ old).cells]))⟩ [.loop mutate_made_L0, .blk 1, .blk 0, .code mutate_made_K1] e ({ sz := 6, rows := [[.int .i64 dev, .int .i64 num, .str key, .int .i64 3, .str emptyB, .int .i64 x]] } :: H) := by
      intro rest
      induction rest with
      | nil =>
        intro pre x e H hp h7 h34 h35 h36 hm
        have hc := not_lt_at (f := Fact.cells) hp
        simp only [List.length_map] at hc
        refine run_again ?_
        conv => enter [3, 1]; unfold mutate_made_L0
        simp only [go_sem, reduceCtorEq, Nat.reduceEqDiff, Nat.reduceAdd, Nat.reduceSub, Nat.reduceMul, Nat.reduceLeDiff, Int.reduceEq, Int.reduceLT, Int.reduceLE, Int.reduceAdd, Int.reduceMul, Int.reduceSub, Int.reduceNeg, Int.reduceToNat, reduceIte, Nat.reduceLT, h7, h34, h35, h36, hc]
        unfold mutate_made_K1
        simp only [go_sem, reduceCtorEq, Nat.reduceEqDiff, Nat.reduceAdd, Nat.reduceSub, Nat.reduceMul, Nat.reduceLeDiff, Int.reduceEq, Int.reduceLT, Int.reduceLE, Int.reduceAdd, Int.reduceMul, Int.reduceSub, Int.reduceNeg, Int.reduceToNat, reduceIte, Nat.reduceLT, h7]
        have hx : x = sumUp n old := hm
        rw [hx]
        exact one (madeBy ⟨4, key, item, n⟩ ⟨dev, num⟩ old) _
      | cons r rest ih =>
        intro pre x e H hp h7 h34 h35 h36 hm
        have hc := lt_at (f := Fact.cells) hp
        simp only [List.length_map] at hc
        have hr := map_at' (f := Fact.cells) hp
        have hn := next_at hp hlo
        refine run_again ?_
        conv => enter [3, 1]; unfold mutate_made_L0
        simp only [go_sem, reduceCtorEq, Nat.reduceEqDiff, Nat.reduceAdd, Nat.reduceSub, Nat.reduceMul, Nat.reduceLeDiff, Int.reduceEq, Int.reduceLT, Int.reduceLE, Int.reduceAdd, Int.reduceMul, Int.reduceSub, Int.reduceNeg, Int.reduceToNat, reduceIte, Nat.reduceLT, h7, h34, h35, h36, hc, hr, hn]
        refine ih (pre ++ [r]) (W (x + r.num)) _ _ (by simp [hp]) ?_ ?_ ?_ ?_ ?_
        all_goals first | (simp only [go_sem, reduceCtorEq, Nat.reduceEqDiff, Nat.reduceAdd, Nat.reduceSub, Nat.reduceMul, Nat.reduceLeDiff, Int.reduceEq, Int.reduceLT, Int.reduceLE, Int.reduceAdd, Int.reduceMul, Int.reduceSub, Int.reduceNeg, Int.reduceToNat, reduceIte, Nat.reduceLT, h7, h34, h35, hn]; done) | exact hm
    refine loop old [] n _ _ rfl ?_ ?_ ?_ ?_ rfl
    all_goals simp only [go_sem, reduceCtorEq, Nat.reduceEqDiff, Nat.reduceAdd, Nat.reduceSub, Nat.reduceMul, Nat.reduceLeDiff, Int.reduceEq, Int.reduceLT, Int.reduceLE, Int.reduceAdd, Int.reduceMul, Int.reduceSub, Int.reduceNeg, Int.reduceToNat, reduceIte, Nat.reduceLT, List.length_nil, Int.natCast_zero]
  have hm : makes ⟨kind, key, item, n⟩ = false := by
    have : kind = 3 ∨ kind = 5 := by omega
    rcases this with rfl | rfl <;> rfl
  simp only [go_sem, reduceCtorEq, Nat.reduceEqDiff, Nat.reduceAdd, Nat.reduceSub, Nat.reduceMul, Nat.reduceLeDiff, Int.reduceEq, Int.reduceLT, Int.reduceLE, Int.reduceAdd, Int.reduceMul, Int.reduceSub, Int.reduceNeg, Int.reduceToNat, reduceIte, Nat.reduceLT, h1, h2, h4, hm]
  exact none _

end Go.Proofs.YtnccbccnjjachaaGreatDoor.Eng
