/- Contracts of the package join: what has a fact, what stays. No statement of the seat is proved here. -/
import Derived.Test.YtpjbjdicdjlmeaaGreatDoorZDoR
import Derived.Test.YtpjbjdicdjlmeaaGreatDoorZLitK
namespace Go.Proofs.YtpjbjdicdjlmeaaGreatDoor.Eng
open Go
set_option linter.unusedVariables false
set_option linter.unusedSimpArgs false

theorem join_has_1_ok (f : Fact) (d : Dot) : Pr 53 [.agg f.cells, .agg d.cells] (iC (cmpDot f.dot d)) := by
  refine pure_of mixed is_join_has_1 rfl fun hl T => ?_
  unfold c_join_has_1
  simp only [go_sem, reduceCtorEq, Nat.reduceEqDiff, Nat.reduceAdd, Nat.reduceSub, Nat.reduceMul, Nat.reduceLeDiff, Int.reduceEq, Int.reduceLT, Int.reduceLE, Int.reduceAdd, Int.reduceMul, Int.reduceSub, Int.reduceNeg, Int.reduceToNat, reduceIte, Nat.reduceLT]
  refine callW_pure (facts_Cmp_ok f.dot d) ?_
  simp only [go_sem, reduceCtorEq, Nat.reduceEqDiff, Nat.reduceAdd, Nat.reduceSub, Nat.reduceMul, Nat.reduceLeDiff, Int.reduceEq, Int.reduceLT, Int.reduceLE, Int.reduceAdd, Int.reduceMul, Int.reduceSub, Int.reduceNeg, Int.reduceToNat, reduceIte, Nat.reduceLT]
  simp [viewA, viewFn, viewC, viewFs, viewCs, viewAs, closedC, closedCs]

instance dotLtDec (a b : Dot) : Decidable (dotLt a b) := by unfold dotLt; infer_instance
/-- How many facts stand ahead of a dot. -/
def posD (l : List Fact) (d : Dot) : Nat := (l.filter fun f => decide (dotLt f.dot d)).length
theorem posD_of {l : List Fact} {d : Dot} {i : Nat} (hi : i ≤ l.length) (h1 : ∀ k f, k < i → l[k]? = some f → dotLt f.dot d) (h2 : ∀ k f, i ≤ k → l[k]? = some f → ¬ dotLt f.dot d) : posD l d = i := by
  unfold posD
  have e : l = l.take i ++ l.drop i := (List.take_append_drop i l).symm
  rw [e, List.filter_append]
  have a1 : (l.take i).filter (fun f => decide (dotLt f.dot d)) = l.take i := by
    rw [List.filter_eq_self]
    intro f hf
    obtain ⟨k, hk⟩ := List.mem_iff_getElem?.1 hf
    rw [List.getElem?_take] at hk
    split at hk
    · simpa using h1 k f (by omega) hk
    · cases hk
  have a2 : (l.drop i).filter (fun f => decide (dotLt f.dot d)) = [] := by
    rw [List.filter_eq_nil_iff]
    intro f hf
    obtain ⟨k, hk⟩ := List.mem_iff_getElem?.1 hf
    rw [List.getElem?_drop] at hk
    simpa using h2 (i + k) f (by omega) hk
  rw [a1, a2, List.append_nil, List.length_take]
  omega
theorem asc_get {l : List Fact} (h : l.Pairwise FLt) {i j : Nat} {f g : Fact} (hij : i < j) (hf : l[i]? = some f) (hg : l[j]? = some g) : FLt f g := by
  obtain ⟨h1, rfl⟩ := List.getElem?_eq_some_iff.1 hf
  obtain ⟨h2, rfl⟩ := List.getElem?_eq_some_iff.1 hg
  exact List.pairwise_iff_getElem.1 h i j h1 h2 hij

theorem vBin_shr1 {n : Nat} {k : IntKind} {H : Heap} : vBin .shr (.c (.int .u64 (n : Int))) (.c (.int k 1)) H = some (.c (.int .u64 ((n / 2 : Nat) : Int)), H) := by
  have : ((n : Int).fdiv 2) = ((n / 2 : Nat) : Int) := by rw [Int.fdiv_eq_ediv_of_nonneg _ (by omega)]; omega
  simp [vBin, evBin, vPure, IntKind.bits, this]
theorem wrapu64 {n : Int} (h : 0 ≤ n ∧ n ≤ 9223372036854775807) : IntKind.wrap .u64 n = n := by
  simp [IntKind.wrap, IntKind.bits, IntKind.signed]; omega

set_option maxHeartbeats 1000000 in
theorem slices_BinarySearchFunc_Fact_ok (l : List Fact) (d : Dot) (ha : l.Pairwise FLt) (hs : l.length ≤ 1000000) : Pr 52 [.c (factsC l), .agg d.cells, .c (.fn 53 [])] (.tup [iC (posD l d), bC (atD l d)]) := by
  refine pure_of mixed is_slices_BinarySearchFunc_Fact (by simp [closedAs, closedA, closedC, closedCs, closed_factsC, Dot.closed]) fun hl T => ?_
  unfold c_slices_BinarySearchFunc_Fact
  simp only [go_sem, reduceCtorEq, Nat.reduceEqDiff, Nat.reduceAdd, Nat.reduceSub, Nat.reduceMul, Nat.reduceLeDiff, Int.reduceEq, Int.reduceLT, Int.reduceLE, Int.reduceAdd, Int.reduceMul, Int.reduceSub, Int.reduceNeg, Int.reduceToNat, reduceIte, Nat.reduceLT, List.length_map]
  have loop : ∀ (n i j : Nat) (e : Env) (H : Heap), j - i ≤ n → i ≤ j → j ≤ l.length → e 0 = .c (factsC l) → e 2 = .c (.fn 53 []) → e 4 = .c (.fp d.cells 0) → e 8 = iC l.length → e 9 = iC i → e 10 = iC j →
      (∀ k f, k < i → l[k]? = some f → dotLt f.dot d) → (∀ k f, j ≤ k → l[k]? = some f → ¬ dotLt f.dot d) →
      Run (progT Tryz.prog T) ⟨[.tmp 6, .tmp 7], fun u E => viewA E u = some (.tup [iC (posD l d), bC (atD l d)])⟩ [.loop slices_BinarySearchFunc_Fact_L0, .blk 0, .code slices_BinarySearchFunc_Fact_K1] e H := by
    intro n
    induction n with
    | zero =>
      intro i j e H hn hij hj h0 h2 h4 h8 h9 h10 hlo hhi
      have hij : i = j := by omega
      subst hij
      have hc : ¬ ((i : Int) < (i : Int)) := by omega
      refine run_again ?_
      conv => enter [3, 1]; unfold slices_BinarySearchFunc_Fact_L0
      simp only [go_sem, reduceCtorEq, Nat.reduceEqDiff, Nat.reduceAdd, Nat.reduceSub, Nat.reduceMul, Nat.reduceLeDiff, Int.reduceEq, Int.reduceLT, Int.reduceLE, Int.reduceAdd, Int.reduceMul, Int.reduceSub, Int.reduceNeg, Int.reduceToNat, reduceIte, Nat.reduceLT, h0, h2, h4, h8, h9, h10, hc]
      unfold slices_BinarySearchFunc_Fact_K1
      have hp := posD_of hj hlo hhi
      by_cases hlt : i < l.length
      · have hc2 : (i : Int) < (l.length : Int) := by omega
        obtain ⟨f, hf⟩ : ∃ f, l[i]? = some f := ⟨l[i], by simp [hlt]⟩
        have hr : (l.map Fact.cells)[i]? = some f.cells := by simp [hf]
        simp only [go_sem, reduceCtorEq, Nat.reduceEqDiff, Nat.reduceAdd, Nat.reduceSub, Nat.reduceMul, Nat.reduceLeDiff, Int.reduceEq, Int.reduceLT, Int.reduceLE, Int.reduceAdd, Int.reduceMul, Int.reduceSub, Int.reduceNeg, Int.reduceToNat, reduceIte, Nat.reduceLT, h0, h2, h4, h8, h9, h10, hc2, hr]
        refine callW_pure (join_has_1_ok f d) ?_
        simp only [go_sem, reduceCtorEq, Nat.reduceEqDiff, Nat.reduceAdd, Nat.reduceSub, Nat.reduceMul, Nat.reduceLeDiff, Int.reduceEq, Int.reduceLT, Int.reduceLE, Int.reduceAdd, Int.reduceMul, Int.reduceSub, Int.reduceNeg, Int.reduceToNat, reduceIte, Nat.reduceLT]
        have hat : atD l d = decide (cmpDot f.dot d = 0) := by
          rw [Bool.eq_iff_iff, atD_iff, decide_eq_true_eq, cmpDot_eq]
          constructor
          · rintro ⟨g, hg, rfl⟩
            obtain ⟨k, hk⟩ := List.mem_iff_getElem?.1 hg
            rcases Nat.lt_trichotomy k i with h | h | h
            · exact (hlo k g h hk).irrefl.elim
            · subst h; rw [hk] at hf; injection hf with hf; rw [hf]
            · exact (hhi i f (Nat.le_refl _) hf (asc_get ha h hf hk)).elim
          · rintro rfl
            exact ⟨f, List.mem_iff_getElem?.2 ⟨i, hf⟩, rfl⟩
        rw [hp, hat]
        by_cases hz : cmpDot f.dot d = 0 <;> simp [viewA, viewFn, viewC, viewFs, viewCs, viewAs, closedC, closedCs, viewAs, hz]
      · have hc2 : ¬ (i : Int) < (l.length : Int) := by omega
        simp only [go_sem, reduceCtorEq, Nat.reduceEqDiff, Nat.reduceAdd, Nat.reduceSub, Nat.reduceMul, Nat.reduceLeDiff, Int.reduceEq, Int.reduceLT, Int.reduceLE, Int.reduceAdd, Int.reduceMul, Int.reduceSub, Int.reduceNeg, Int.reduceToNat, reduceIte, Nat.reduceLT, h0, h2, h4, h8, h9, h10, hc2]
        have hat : atD l d = false := by
          cases hat : atD l d with
          | false => rfl
          | true =>
            obtain ⟨g, hg, rfl⟩ := atD_iff.1 hat
            obtain ⟨k, hk⟩ := List.mem_iff_getElem?.1 hg
            have := (List.getElem?_eq_some_iff.1 hk).1
            exact (hlo k g (by omega) hk).irrefl.elim
        rw [hp, hat]
        simp [viewA, viewFn, viewC, viewFs, viewCs, viewAs, closedC, closedCs, viewAs]
    | succ n ih =>
      intro i j e H hn hij hj h0 h2 h4 h8 h9 h10 hlo hhi
      by_cases hlt : i < j
      case neg => exact ih i j e H (by omega) hij hj h0 h2 h4 h8 h9 h10 hlo hhi
      have hc : ((i : Int) < (j : Int)) := by omega
      have hm1 : (i + j) / 2 < j := by omega
      have hm2 : i ≤ (i + j) / 2 := by omega
      obtain ⟨f, hf⟩ : ∃ f, l[(i + j) / 2]? = some f := ⟨l[(i + j) / 2]'(by omega), by simp⟩
      have hr : (l.map Fact.cells)[(i + j) / 2]? = some f.cells := by simp [hf]
      have w1 : IntKind.wrap .i64 ((i : Int) + (j : Int)) = ((i + j : Nat) : Int) := by rw [wrap64 (by omega)]; omega
      have w2 : IntKind.wrap .u64 ((i + j : Nat) : Int) = ((i + j : Nat) : Int) := wrapu64 (by omega)
      have w3 : IntKind.wrap .i64 (((i + j) / 2 : Nat) : Int) = (((i + j) / 2 : Nat) : Int) := wrap64 (by omega)
      have w4 : IntKind.wrap .i64 ((((i + j) / 2 : Nat) : Int) + 1) = (((i + j) / 2 + 1 : Nat) : Int) := by rw [wrap64 (by omega)]; omega
      refine run_again ?_
      conv => enter [3, 1]; unfold slices_BinarySearchFunc_Fact_L0
      simp only [go_sem, reduceCtorEq, Nat.reduceEqDiff, Nat.reduceAdd, Nat.reduceSub, Nat.reduceMul, Nat.reduceLeDiff, Int.reduceEq, Int.reduceLT, Int.reduceLE, Int.reduceAdd, Int.reduceMul, Int.reduceSub, Int.reduceNeg, Int.reduceToNat, reduceIte, Nat.reduceLT, h0, h2, h4, h8, h9, h10, hc, w1, w2, vBin_shr1, w3, hr]
      refine callW_pure (join_has_1_ok f d) ?_
      by_cases hz : cmpDot f.dot d < 0
      · simp only [go_sem, reduceCtorEq, Nat.reduceEqDiff, Nat.reduceAdd, Nat.reduceSub, Nat.reduceMul, Nat.reduceLeDiff, Int.reduceEq, Int.reduceLT, Int.reduceLE, Int.reduceAdd, Int.reduceMul, Int.reduceSub, Int.reduceNeg, Int.reduceToNat, reduceIte, Nat.reduceLT, hz, w4]
        refine ih ((i + j) / 2 + 1) j _ _ (by omega) (by omega) hj ?_ ?_ ?_ ?_ ?_ ?_ ?_ hhi
        · simp only [go_sem, reduceCtorEq, Nat.reduceEqDiff, Nat.reduceAdd, Nat.reduceSub, Nat.reduceMul, Nat.reduceLeDiff, Int.reduceEq, Int.reduceLT, Int.reduceLE, Int.reduceAdd, Int.reduceMul, Int.reduceSub, Int.reduceNeg, Int.reduceToNat, reduceIte, Nat.reduceLT, h0]
        · simp only [go_sem, reduceCtorEq, Nat.reduceEqDiff, Nat.reduceAdd, Nat.reduceSub, Nat.reduceMul, Nat.reduceLeDiff, Int.reduceEq, Int.reduceLT, Int.reduceLE, Int.reduceAdd, Int.reduceMul, Int.reduceSub, Int.reduceNeg, Int.reduceToNat, reduceIte, Nat.reduceLT, h2]
        · simp only [go_sem, reduceCtorEq, Nat.reduceEqDiff, Nat.reduceAdd, Nat.reduceSub, Nat.reduceMul, Nat.reduceLeDiff, Int.reduceEq, Int.reduceLT, Int.reduceLE, Int.reduceAdd, Int.reduceMul, Int.reduceSub, Int.reduceNeg, Int.reduceToNat, reduceIte, Nat.reduceLT, h4]
        · simp only [go_sem, reduceCtorEq, Nat.reduceEqDiff, Nat.reduceAdd, Nat.reduceSub, Nat.reduceMul, Nat.reduceLeDiff, Int.reduceEq, Int.reduceLT, Int.reduceLE, Int.reduceAdd, Int.reduceMul, Int.reduceSub, Int.reduceNeg, Int.reduceToNat, reduceIte, Nat.reduceLT, h8]
        · simp only [go_sem, reduceCtorEq, Nat.reduceEqDiff, Nat.reduceAdd, Nat.reduceSub, Nat.reduceMul, Nat.reduceLeDiff, Int.reduceEq, Int.reduceLT, Int.reduceLE, Int.reduceAdd, Int.reduceMul, Int.reduceSub, Int.reduceNeg, Int.reduceToNat, reduceIte, Nat.reduceLT]
        · simp only [go_sem, reduceCtorEq, Nat.reduceEqDiff, Nat.reduceAdd, Nat.reduceSub, Nat.reduceMul, Nat.reduceLeDiff, Int.reduceEq, Int.reduceLT, Int.reduceLE, Int.reduceAdd, Int.reduceMul, Int.reduceSub, Int.reduceNeg, Int.reduceToNat, reduceIte, Nat.reduceLT, h10]
        · intro k g hk hg
          rcases Nat.lt_or_ge k ((i + j) / 2) with h | h
          · exact dotLt.trans (asc_get ha h hg hf) (cmpDot_lt.1 hz)
          · have : k = (i + j) / 2 := by omega
            subst this; rw [hf] at hg; injection hg with hg; subst hg; exact cmpDot_lt.1 hz
      · simp only [go_sem, reduceCtorEq, Nat.reduceEqDiff, Nat.reduceAdd, Nat.reduceSub, Nat.reduceMul, Nat.reduceLeDiff, Int.reduceEq, Int.reduceLT, Int.reduceLE, Int.reduceAdd, Int.reduceMul, Int.reduceSub, Int.reduceNeg, Int.reduceToNat, reduceIte, Nat.reduceLT, hz]
        refine ih i ((i + j) / 2) _ _ (by omega) (by omega) (by omega) ?_ ?_ ?_ ?_ ?_ ?_ hlo ?_
        · simp only [go_sem, reduceCtorEq, Nat.reduceEqDiff, Nat.reduceAdd, Nat.reduceSub, Nat.reduceMul, Nat.reduceLeDiff, Int.reduceEq, Int.reduceLT, Int.reduceLE, Int.reduceAdd, Int.reduceMul, Int.reduceSub, Int.reduceNeg, Int.reduceToNat, reduceIte, Nat.reduceLT, h0]
        · simp only [go_sem, reduceCtorEq, Nat.reduceEqDiff, Nat.reduceAdd, Nat.reduceSub, Nat.reduceMul, Nat.reduceLeDiff, Int.reduceEq, Int.reduceLT, Int.reduceLE, Int.reduceAdd, Int.reduceMul, Int.reduceSub, Int.reduceNeg, Int.reduceToNat, reduceIte, Nat.reduceLT, h2]
        · simp only [go_sem, reduceCtorEq, Nat.reduceEqDiff, Nat.reduceAdd, Nat.reduceSub, Nat.reduceMul, Nat.reduceLeDiff, Int.reduceEq, Int.reduceLT, Int.reduceLE, Int.reduceAdd, Int.reduceMul, Int.reduceSub, Int.reduceNeg, Int.reduceToNat, reduceIte, Nat.reduceLT, h4]
        · simp only [go_sem, reduceCtorEq, Nat.reduceEqDiff, Nat.reduceAdd, Nat.reduceSub, Nat.reduceMul, Nat.reduceLeDiff, Int.reduceEq, Int.reduceLT, Int.reduceLE, Int.reduceAdd, Int.reduceMul, Int.reduceSub, Int.reduceNeg, Int.reduceToNat, reduceIte, Nat.reduceLT, h8]
        · simp only [go_sem, reduceCtorEq, Nat.reduceEqDiff, Nat.reduceAdd, Nat.reduceSub, Nat.reduceMul, Nat.reduceLeDiff, Int.reduceEq, Int.reduceLT, Int.reduceLE, Int.reduceAdd, Int.reduceMul, Int.reduceSub, Int.reduceNeg, Int.reduceToNat, reduceIte, Nat.reduceLT, h9]
        · simp only [go_sem, reduceCtorEq, Nat.reduceEqDiff, Nat.reduceAdd, Nat.reduceSub, Nat.reduceMul, Nat.reduceLeDiff, Int.reduceEq, Int.reduceLT, Int.reduceLE, Int.reduceAdd, Int.reduceMul, Int.reduceSub, Int.reduceNeg, Int.reduceToNat, reduceIte, Nat.reduceLT]
        · intro k g hk hg hlt2
          rw [cmpDot_lt] at hz
          rcases Nat.lt_or_ge ((i + j) / 2) k with h | h
          · exact hz (dotLt.trans (asc_get ha h hf hg) hlt2)
          · have : k = (i + j) / 2 := by omega
            subst this; rw [hf] at hg; injection hg with hg; subst hg; exact hz hlt2
  refine loop l.length 0 l.length _ _ (by omega) (by omega) (Nat.le_refl _) ?_ ?_ ?_ ?_ ?_ ?_ (by intro k f h; omega) (by
    intro k f h hf
    have := (List.getElem?_eq_some_iff.1 hf).1
    omega)
  all_goals simp only [go_sem, reduceCtorEq, Nat.reduceEqDiff, Nat.reduceAdd, Nat.reduceSub, Nat.reduceMul, Nat.reduceLeDiff, Int.reduceEq, Int.reduceLT, Int.reduceLE, Int.reduceAdd, Int.reduceMul, Int.reduceSub, Int.reduceNeg, Int.reduceToNat, reduceIte, Nat.reduceLT, Int.natCast_zero]

theorem join_has_ok (s : State) (d : Dot) (ha : s.facts.Pairwise FLt) (hs : s.facts.length ≤ 1000000) : Pr 45 [.agg s.cells, .agg d.cells] (bC (atD s.facts d)) := by
  refine pure_of mixed is_join_has (by simp [closedAs, closedA, State.closed, Dot.closed]) fun hl T => ?_
  unfold c_join_has
  simp only [go_sem, reduceCtorEq, Nat.reduceEqDiff, Nat.reduceAdd, Nat.reduceSub, Nat.reduceMul, Nat.reduceLeDiff, Int.reduceEq, Int.reduceLT, Int.reduceLE, Int.reduceAdd, Int.reduceMul, Int.reduceSub, Int.reduceNeg, Int.reduceToNat, reduceIte, Nat.reduceLT]
  refine callW_pure (slices_BinarySearchFunc_Fact_ok s.facts d ha hs) ?_
  simp only [go_sem, reduceCtorEq, Nat.reduceEqDiff, Nat.reduceAdd, Nat.reduceSub, Nat.reduceMul, Nat.reduceLeDiff, Int.reduceEq, Int.reduceLT, Int.reduceLE, Int.reduceAdd, Int.reduceMul, Int.reduceSub, Int.reduceNeg, Int.reduceToNat, reduceIte, Nat.reduceLT]
  simp [viewA, viewFn, viewC, viewFs, viewCs, viewAs, closedC, closedCs]

/-- What stays of a fact beside another state. -/
def leftB (o : State) (first : Bool) (f : Fact) : Bool := if atD o.facts f.dot then first else !hasDot o.seen f.dot

theorem join_left_ok (s o : State) (first : Bool) (ha : o.facts.Pairwise FLt) (hs : s.facts.length ≤ 1000000) (ho : o.facts.length ≤ 1000000) : Pr 31 [.agg s.cells, .agg o.cells, bC first] (.c (factsC (s.facts.filter (leftB o first)))) := by
  refine pure_ofW mixed is_join_left (by simp [closedAs, closedA, closedC, State.closed]) fun hl T => ?_
  have hlen : s.facts.length ≤ maxLen := by unfold maxLen; omega
  unfold c_join_left
  generalize hv : s.facts.filter (leftB o first) = v
  simp only [go_sem, reduceCtorEq, Nat.reduceEqDiff, Nat.reduceAdd, Nat.reduceSub, Nat.reduceMul, Nat.reduceLeDiff, Int.reduceEq, Int.reduceLT, Int.reduceLE, Int.reduceAdd, Int.reduceMul, Int.reduceSub, Int.reduceNeg, Int.reduceToNat, reduceIte, Nat.reduceLT, List.length_map]
  have loop : ∀ (rest pre acc : List Fact) (e : Env) (H : Heap), s.facts = pre ++ rest → e 2 = bC first → e 4 = .c (.fp o.cells 0) → e 12 = .c (factsC s.facts) → e 13 = iC s.facts.length → e 14 = iC pre.length → Acc 6 (acc.map Fact.cells) (e 7) H → acc.length ≤ pre.length →
      acc ++ rest.filter (leftB o first) = v → Run (progT Tryz.prog T) ⟨[.tmp 6], fun u E => viewW E u (.c (factsC v))⟩ [.loop join_left_L0, .blk 0, .code join_left_K1] e H := by
    intro rest
    induction rest with
    | nil =>
      intro pre acc e H hp h2 h4 h12 h13 h14 hacc hle hm
      have hc : ¬ ((pre.length : Int) < (s.facts.length : Int)) := by rw [hp]; simp
      refine run_again ?_
      conv => enter [3, 1]; unfold join_left_L0
      simp only [go_sem, reduceCtorEq, Nat.reduceEqDiff, Nat.reduceAdd, Nat.reduceSub, Nat.reduceMul, Nat.reduceLeDiff, Int.reduceEq, Int.reduceLT, Int.reduceLE, Int.reduceAdd, Int.reduceMul, Int.reduceSub, Int.reduceNeg, Int.reduceToNat, reduceIte, Nat.reduceLT, h2, h4, h12, h13, h14, hc]
      unfold join_left_K1
      simp only [go_sem, reduceCtorEq, Nat.reduceEqDiff, Nat.reduceAdd, Nat.reduceSub, Nat.reduceMul, Nat.reduceLeDiff, Int.reduceEq, Int.reduceLT, Int.reduceLE, Int.reduceAdd, Int.reduceMul, Int.reduceSub, Int.reduceNeg, Int.reduceToNat, reduceIte, Nat.reduceLT]
      have := hacc.told (closed_facts acc)
      simp at hm
      rw [← hm]
      exact this
    | cons r rest ih =>
      intro pre acc e H hp h2 h4 h12 h13 h14 hacc hle hm
      have hc : ((pre.length : Int) < (s.facts.length : Int)) := by rw [hp]; simp; omega
      have hr := map_at' (f := Fact.cells) hp
      have hn := next_at hp hlen
      have hpl : pre.length < s.facts.length := by rw [hp]; simp
      refine run_again ?_
      conv => enter [3, 1]; unfold join_left_L0
      simp only [go_sem, reduceCtorEq, Nat.reduceEqDiff, Nat.reduceAdd, Nat.reduceSub, Nat.reduceMul, Nat.reduceLeDiff, Int.reduceEq, Int.reduceLT, Int.reduceLE, Int.reduceAdd, Int.reduceMul, Int.reduceSub, Int.reduceNeg, Int.reduceToNat, reduceIte, Nat.reduceLT, h2, h4, h12, h13, h14, hc, hr]
      refine callW_pure (join_has_ok o r.dot ha ho) ?_
      have go : ∀ (acc' : List Fact) (e' : Env) (H' : Heap), e' 2 = e 2 → e' 4 = e 4 → e' 12 = e 12 → e' 13 = e 13 → e' 14 = iC (pre ++ [r]).length → Acc 6 (acc'.map Fact.cells) (e' 7) H' → acc' = (if leftB o first r = true then acc ++ [r] else acc) →
          Run (progT Tryz.prog T) ⟨[.tmp 6], fun u E => viewW E u (.c (factsC v))⟩ [.loop join_left_L0, .blk 0, .code join_left_K1] e' H' := by
        intro acc' e' H' g2 g4 g12 g13 g14 hacc' he
        refine ih (pre ++ [r]) acc' e' H' (by rw [hp]; simp) (by rw [g2, h2]) (by rw [g4, h4]) (by rw [g12, h12]) (by rw [g13, h13]) g14 hacc' ?_ ?_
        · rw [he]; split <;> simp <;> omega
        · rw [he, ← hm]
          cases hk : leftB o first r <;> simp [hk]
      cases hat : atD o.facts r.dot with
      | true =>
        cases first with
        | true =>
          simp only [go_sem, reduceCtorEq, Nat.reduceEqDiff, Nat.reduceAdd, Nat.reduceSub, Nat.reduceMul, Nat.reduceLeDiff, Int.reduceEq, Int.reduceLT, Int.reduceLE, Int.reduceAdd, Int.reduceMul, Int.reduceSub, Int.reduceNeg, Int.reduceToNat, reduceIte, Nat.reduceLT, h2, h4, h12, h13, h14]
          refine Acc.app_step hacc.snoc (by simp; omega) fun v' H' ha' => ?_
          simp only [go_sem, reduceCtorEq, Nat.reduceEqDiff, Nat.reduceAdd, Nat.reduceSub, Nat.reduceMul, Nat.reduceLeDiff, Int.reduceEq, Int.reduceLT, Int.reduceLE, Int.reduceAdd, Int.reduceMul, Int.reduceSub, Int.reduceNeg, Int.reduceToNat, reduceIte, Nat.reduceLT, h14, hn]
          refine go (acc ++ [r]) _ _ ?_ ?_ ?_ ?_ ?_ ?_ (by simp [leftB, hat])
          · simp only [go_sem, reduceCtorEq, Nat.reduceEqDiff, Nat.reduceAdd, Nat.reduceSub, Nat.reduceMul, Nat.reduceLeDiff, Int.reduceEq, Int.reduceLT, Int.reduceLE, Int.reduceAdd, Int.reduceMul, Int.reduceSub, Int.reduceNeg, Int.reduceToNat, reduceIte, Nat.reduceLT]
          · simp only [go_sem, reduceCtorEq, Nat.reduceEqDiff, Nat.reduceAdd, Nat.reduceSub, Nat.reduceMul, Nat.reduceLeDiff, Int.reduceEq, Int.reduceLT, Int.reduceLE, Int.reduceAdd, Int.reduceMul, Int.reduceSub, Int.reduceNeg, Int.reduceToNat, reduceIte, Nat.reduceLT]
          · simp only [go_sem, reduceCtorEq, Nat.reduceEqDiff, Nat.reduceAdd, Nat.reduceSub, Nat.reduceMul, Nat.reduceLeDiff, Int.reduceEq, Int.reduceLT, Int.reduceLE, Int.reduceAdd, Int.reduceMul, Int.reduceSub, Int.reduceNeg, Int.reduceToNat, reduceIte, Nat.reduceLT]
          · simp only [go_sem, reduceCtorEq, Nat.reduceEqDiff, Nat.reduceAdd, Nat.reduceSub, Nat.reduceMul, Nat.reduceLeDiff, Int.reduceEq, Int.reduceLT, Int.reduceLE, Int.reduceAdd, Int.reduceMul, Int.reduceSub, Int.reduceNeg, Int.reduceToNat, reduceIte, Nat.reduceLT]
          · simp only [go_sem, reduceCtorEq, Nat.reduceEqDiff, Nat.reduceAdd, Nat.reduceSub, Nat.reduceMul, Nat.reduceLeDiff, Int.reduceEq, Int.reduceLT, Int.reduceLE, Int.reduceAdd, Int.reduceMul, Int.reduceSub, Int.reduceNeg, Int.reduceToNat, reduceIte, Nat.reduceLT]
          · simp only [go_sem, reduceCtorEq, Nat.reduceEqDiff, Nat.reduceAdd, Nat.reduceSub, Nat.reduceMul, Nat.reduceLeDiff, Int.reduceEq, Int.reduceLT, Int.reduceLE, Int.reduceAdd, Int.reduceMul, Int.reduceSub, Int.reduceNeg, Int.reduceToNat, reduceIte, Nat.reduceLT]; simpa [Fact.cells] using ha'
        | false =>
          simp only [go_sem, reduceCtorEq, Nat.reduceEqDiff, Nat.reduceAdd, Nat.reduceSub, Nat.reduceMul, Nat.reduceLeDiff, Int.reduceEq, Int.reduceLT, Int.reduceLE, Int.reduceAdd, Int.reduceMul, Int.reduceSub, Int.reduceNeg, Int.reduceToNat, reduceIte, Nat.reduceLT, h2, h4, h12, h13, h14, hn]
          refine go acc _ _ ?_ ?_ ?_ ?_ ?_ ?_ (by simp [leftB, hat])
          · simp only [go_sem, reduceCtorEq, Nat.reduceEqDiff, Nat.reduceAdd, Nat.reduceSub, Nat.reduceMul, Nat.reduceLeDiff, Int.reduceEq, Int.reduceLT, Int.reduceLE, Int.reduceAdd, Int.reduceMul, Int.reduceSub, Int.reduceNeg, Int.reduceToNat, reduceIte, Nat.reduceLT]
          · simp only [go_sem, reduceCtorEq, Nat.reduceEqDiff, Nat.reduceAdd, Nat.reduceSub, Nat.reduceMul, Nat.reduceLeDiff, Int.reduceEq, Int.reduceLT, Int.reduceLE, Int.reduceAdd, Int.reduceMul, Int.reduceSub, Int.reduceNeg, Int.reduceToNat, reduceIte, Nat.reduceLT]
          · simp only [go_sem, reduceCtorEq, Nat.reduceEqDiff, Nat.reduceAdd, Nat.reduceSub, Nat.reduceMul, Nat.reduceLeDiff, Int.reduceEq, Int.reduceLT, Int.reduceLE, Int.reduceAdd, Int.reduceMul, Int.reduceSub, Int.reduceNeg, Int.reduceToNat, reduceIte, Nat.reduceLT]
          · simp only [go_sem, reduceCtorEq, Nat.reduceEqDiff, Nat.reduceAdd, Nat.reduceSub, Nat.reduceMul, Nat.reduceLeDiff, Int.reduceEq, Int.reduceLT, Int.reduceLE, Int.reduceAdd, Int.reduceMul, Int.reduceSub, Int.reduceNeg, Int.reduceToNat, reduceIte, Nat.reduceLT]
          · simp only [go_sem, reduceCtorEq, Nat.reduceEqDiff, Nat.reduceAdd, Nat.reduceSub, Nat.reduceMul, Nat.reduceLeDiff, Int.reduceEq, Int.reduceLT, Int.reduceLE, Int.reduceAdd, Int.reduceMul, Int.reduceSub, Int.reduceNeg, Int.reduceToNat, reduceIte, Nat.reduceLT]
          · simp only [go_sem, reduceCtorEq, Nat.reduceEqDiff, Nat.reduceAdd, Nat.reduceSub, Nat.reduceMul, Nat.reduceLeDiff, Int.reduceEq, Int.reduceLT, Int.reduceLE, Int.reduceAdd, Int.reduceMul, Int.reduceSub, Int.reduceNeg, Int.reduceToNat, reduceIte, Nat.reduceLT]; exact hacc.snoc
      | false =>
        simp only [go_sem, reduceCtorEq, Nat.reduceEqDiff, Nat.reduceAdd, Nat.reduceSub, Nat.reduceMul, Nat.reduceLeDiff, Int.reduceEq, Int.reduceLT, Int.reduceLE, Int.reduceAdd, Int.reduceMul, Int.reduceSub, Int.reduceNeg, Int.reduceToNat, reduceIte, Nat.reduceLT, h2, h4, h12, h13, h14]
        refine callW_pure (dots_Has_ok o.seen r.dot) ?_
        cases hh : hasDot o.seen r.dot with
        | true =>
          simp only [go_sem, reduceCtorEq, Nat.reduceEqDiff, Nat.reduceAdd, Nat.reduceSub, Nat.reduceMul, Nat.reduceLeDiff, Int.reduceEq, Int.reduceLT, Int.reduceLE, Int.reduceAdd, Int.reduceMul, Int.reduceSub, Int.reduceNeg, Int.reduceToNat, reduceIte, Nat.reduceLT, h2, h4, h12, h13, h14, hn]
          refine go acc _ _ ?_ ?_ ?_ ?_ ?_ ?_ (by simp [leftB, hat, hh])
          · simp only [go_sem, reduceCtorEq, Nat.reduceEqDiff, Nat.reduceAdd, Nat.reduceSub, Nat.reduceMul, Nat.reduceLeDiff, Int.reduceEq, Int.reduceLT, Int.reduceLE, Int.reduceAdd, Int.reduceMul, Int.reduceSub, Int.reduceNeg, Int.reduceToNat, reduceIte, Nat.reduceLT]
          · simp only [go_sem, reduceCtorEq, Nat.reduceEqDiff, Nat.reduceAdd, Nat.reduceSub, Nat.reduceMul, Nat.reduceLeDiff, Int.reduceEq, Int.reduceLT, Int.reduceLE, Int.reduceAdd, Int.reduceMul, Int.reduceSub, Int.reduceNeg, Int.reduceToNat, reduceIte, Nat.reduceLT]
          · simp only [go_sem, reduceCtorEq, Nat.reduceEqDiff, Nat.reduceAdd, Nat.reduceSub, Nat.reduceMul, Nat.reduceLeDiff, Int.reduceEq, Int.reduceLT, Int.reduceLE, Int.reduceAdd, Int.reduceMul, Int.reduceSub, Int.reduceNeg, Int.reduceToNat, reduceIte, Nat.reduceLT]
          · simp only [go_sem, reduceCtorEq, Nat.reduceEqDiff, Nat.reduceAdd, Nat.reduceSub, Nat.reduceMul, Nat.reduceLeDiff, Int.reduceEq, Int.reduceLT, Int.reduceLE, Int.reduceAdd, Int.reduceMul, Int.reduceSub, Int.reduceNeg, Int.reduceToNat, reduceIte, Nat.reduceLT]
          · simp only [go_sem, reduceCtorEq, Nat.reduceEqDiff, Nat.reduceAdd, Nat.reduceSub, Nat.reduceMul, Nat.reduceLeDiff, Int.reduceEq, Int.reduceLT, Int.reduceLE, Int.reduceAdd, Int.reduceMul, Int.reduceSub, Int.reduceNeg, Int.reduceToNat, reduceIte, Nat.reduceLT]
          · simp only [go_sem, reduceCtorEq, Nat.reduceEqDiff, Nat.reduceAdd, Nat.reduceSub, Nat.reduceMul, Nat.reduceLeDiff, Int.reduceEq, Int.reduceLT, Int.reduceLE, Int.reduceAdd, Int.reduceMul, Int.reduceSub, Int.reduceNeg, Int.reduceToNat, reduceIte, Nat.reduceLT]; exact hacc.snoc
        | false =>
          simp only [go_sem, reduceCtorEq, Nat.reduceEqDiff, Nat.reduceAdd, Nat.reduceSub, Nat.reduceMul, Nat.reduceLeDiff, Int.reduceEq, Int.reduceLT, Int.reduceLE, Int.reduceAdd, Int.reduceMul, Int.reduceSub, Int.reduceNeg, Int.reduceToNat, reduceIte, Nat.reduceLT, h2, h4, h12, h13, h14]
          refine Acc.app_step hacc.snoc (by simp; omega) fun v' H' ha' => ?_
          simp only [go_sem, reduceCtorEq, Nat.reduceEqDiff, Nat.reduceAdd, Nat.reduceSub, Nat.reduceMul, Nat.reduceLeDiff, Int.reduceEq, Int.reduceLT, Int.reduceLE, Int.reduceAdd, Int.reduceMul, Int.reduceSub, Int.reduceNeg, Int.reduceToNat, reduceIte, Nat.reduceLT, h14, hn]
          refine go (acc ++ [r]) _ _ ?_ ?_ ?_ ?_ ?_ ?_ (by simp [leftB, hat, hh])
          · simp only [go_sem, reduceCtorEq, Nat.reduceEqDiff, Nat.reduceAdd, Nat.reduceSub, Nat.reduceMul, Nat.reduceLeDiff, Int.reduceEq, Int.reduceLT, Int.reduceLE, Int.reduceAdd, Int.reduceMul, Int.reduceSub, Int.reduceNeg, Int.reduceToNat, reduceIte, Nat.reduceLT]
          · simp only [go_sem, reduceCtorEq, Nat.reduceEqDiff, Nat.reduceAdd, Nat.reduceSub, Nat.reduceMul, Nat.reduceLeDiff, Int.reduceEq, Int.reduceLT, Int.reduceLE, Int.reduceAdd, Int.reduceMul, Int.reduceSub, Int.reduceNeg, Int.reduceToNat, reduceIte, Nat.reduceLT]
          · simp only [go_sem, reduceCtorEq, Nat.reduceEqDiff, Nat.reduceAdd, Nat.reduceSub, Nat.reduceMul, Nat.reduceLeDiff, Int.reduceEq, Int.reduceLT, Int.reduceLE, Int.reduceAdd, Int.reduceMul, Int.reduceSub, Int.reduceNeg, Int.reduceToNat, reduceIte, Nat.reduceLT]
          · simp only [go_sem, reduceCtorEq, Nat.reduceEqDiff, Nat.reduceAdd, Nat.reduceSub, Nat.reduceMul, Nat.reduceLeDiff, Int.reduceEq, Int.reduceLT, Int.reduceLE, Int.reduceAdd, Int.reduceMul, Int.reduceSub, Int.reduceNeg, Int.reduceToNat, reduceIte, Nat.reduceLT]
          · simp only [go_sem, reduceCtorEq, Nat.reduceEqDiff, Nat.reduceAdd, Nat.reduceSub, Nat.reduceMul, Nat.reduceLeDiff, Int.reduceEq, Int.reduceLT, Int.reduceLE, Int.reduceAdd, Int.reduceMul, Int.reduceSub, Int.reduceNeg, Int.reduceToNat, reduceIte, Nat.reduceLT]
          · simp only [go_sem, reduceCtorEq, Nat.reduceEqDiff, Nat.reduceAdd, Nat.reduceSub, Nat.reduceMul, Nat.reduceLeDiff, Int.reduceEq, Int.reduceLT, Int.reduceLE, Int.reduceAdd, Int.reduceMul, Int.reduceSub, Int.reduceNeg, Int.reduceToNat, reduceIte, Nat.reduceLT]; simpa [Fact.cells] using ha'
  refine loop s.facts [] [] _ _ rfl ?_ ?_ ?_ ?_ ?_ ?_ (Nat.le_refl _) hv
  · simp only [go_sem, reduceCtorEq, Nat.reduceEqDiff, Nat.reduceAdd, Nat.reduceSub, Nat.reduceMul, Nat.reduceLeDiff, Int.reduceEq, Int.reduceLT, Int.reduceLE, Int.reduceAdd, Int.reduceMul, Int.reduceSub, Int.reduceNeg, Int.reduceToNat, reduceIte, Nat.reduceLT]
  · simp only [go_sem, reduceCtorEq, Nat.reduceEqDiff, Nat.reduceAdd, Nat.reduceSub, Nat.reduceMul, Nat.reduceLeDiff, Int.reduceEq, Int.reduceLT, Int.reduceLE, Int.reduceAdd, Int.reduceMul, Int.reduceSub, Int.reduceNeg, Int.reduceToNat, reduceIte, Nat.reduceLT]
  · simp only [go_sem, reduceCtorEq, Nat.reduceEqDiff, Nat.reduceAdd, Nat.reduceSub, Nat.reduceMul, Nat.reduceLeDiff, Int.reduceEq, Int.reduceLT, Int.reduceLE, Int.reduceAdd, Int.reduceMul, Int.reduceSub, Int.reduceNeg, Int.reduceToNat, reduceIte, Nat.reduceLT]
  · simp only [go_sem, reduceCtorEq, Nat.reduceEqDiff, Nat.reduceAdd, Nat.reduceSub, Nat.reduceMul, Nat.reduceLeDiff, Int.reduceEq, Int.reduceLT, Int.reduceLE, Int.reduceAdd, Int.reduceMul, Int.reduceSub, Int.reduceNeg, Int.reduceToNat, reduceIte, Nat.reduceLT]
  · simp only [go_sem, reduceCtorEq, Nat.reduceEqDiff, Nat.reduceAdd, Nat.reduceSub, Nat.reduceMul, Nat.reduceLeDiff, Int.reduceEq, Int.reduceLT, Int.reduceLE, Int.reduceAdd, Int.reduceMul, Int.reduceSub, Int.reduceNeg, Int.reduceToNat, reduceIte, Nat.reduceLT, List.length_nil, Int.natCast_zero]
  · simp only [go_sem, reduceCtorEq, Nat.reduceEqDiff, Nat.reduceAdd, Nat.reduceSub, Nat.reduceMul, Nat.reduceLeDiff, Int.reduceEq, Int.reduceLT, Int.reduceLE, Int.reduceAdd, Int.reduceMul, Int.reduceSub, Int.reduceNeg, Int.reduceToNat, reduceIte, Nat.reduceLT]; exact .nil

end Go.Proofs.YtpjbjdicdjlmeaaGreatDoor.Eng
