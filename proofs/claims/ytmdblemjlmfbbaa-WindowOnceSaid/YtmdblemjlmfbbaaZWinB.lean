/- Contracts of the package window: find, Has, fresh. No statement of the seat is proved here. -/
import Derived.Test.YtmdblemjlmfbbaaZWinA
import Derived.Test.YtmdblemjlmfbbaaZErrW
namespace Go.Proofs.Ytmdblemjlmfbbaa.Eng
open Go
set_option linter.unusedVariables false
set_option linter.unusedSimpArgs false

theorem vBin_shr1G {n : Nat} {k : IntKind} {H : Heap} : vBin .shr (.c (.int .u64 (n : Int))) (.c (.int k 1)) H = some (.c (.int .u64 ((n / 2 : Nat) : Int)), H) := by
  have : ((n : Int).fdiv 2) = ((n / 2 : Nat) : Int) := by rw [Int.fdiv_eq_ediv_of_nonneg _ (by omega)]; omega
  simp [vBin, evBin, vPure, IntKind.bits, this]
theorem wrapu64G {n : Int} (h : 0 ≤ n ∧ n ≤ 9223372036854775807) : IntKind.wrap .u64 n = n := by
  simp [IntKind.wrap, IntKind.bits, IntKind.signed]; omega

theorem window_find_1_ok (g : Got) (n : Int) : Pr 36 [.agg g.cells, iC n] (iC (cmpInt g.epoch n)) := by
  refine pure_of mixed is_window_find_1 (by simp [closedAs, closedA, closedC, Got.closed]) fun hl T => ?_
  unfold c_window_find_1
  have hg := Got.closed g
  obtain ⟨e, r⟩ := g
  dsimp only [Got.cells, runsC] at hg ⊢
  simp only [go_sem, reduceCtorEq, Nat.reduceEqDiff, Nat.reduceAdd, Nat.reduceSub, Nat.reduceMul, Nat.reduceLeDiff, Int.reduceEq, Int.reduceLT, Int.reduceLE, Int.reduceAdd, Int.reduceMul, Int.reduceSub, Int.reduceNeg, Int.reduceToNat, reduceIte, Nat.reduceLT, hg, closed_runs]
  refine callW_pure (cmp_Compare_int_ok e n) ?_
  simp only [go_sem, reduceCtorEq, Nat.reduceEqDiff, Nat.reduceAdd, Nat.reduceSub, Nat.reduceMul, Nat.reduceLeDiff, Int.reduceEq, Int.reduceLT, Int.reduceLE, Int.reduceAdd, Int.reduceMul, Int.reduceSub, Int.reduceNeg, Int.reduceToNat, reduceIte, Nat.reduceLT]
  simp [viewA, viewFn, viewC, viewFs, viewCs, viewAs, closedC, closedCs]

theorem cmpInt_lt {a b : Int} : cmpInt a b < 0 ↔ a < b := by unfold cmpInt; split <;> (try split) <;> omega
theorem cmpInt_eq {a b : Int} : cmpInt a b = 0 ↔ a = b := by unfold cmpInt; split <;> (try split) <;> omega

set_option maxHeartbeats 1000000 in
theorem slices_BinarySearchFunc_Got_ok (l : List Got) (d : Int) (ha : MayG l) (hs : l.length ≤ 1000000) : Pr 35 [.c (gotsC l), iC d, .c (.fn 36 [])] (.tup [iC (posG l d), bC (atG l d)]) := by
  refine pure_of mixed is_slices_BinarySearchFunc_Got (by simp [closedAs, closedA, closedC, closedCs, closed_gotsC]) fun hl T => ?_
  unfold c_slices_BinarySearchFunc_Got
  simp only [go_sem, reduceCtorEq, Nat.reduceEqDiff, Nat.reduceAdd, Nat.reduceSub, Nat.reduceMul, Nat.reduceLeDiff, Int.reduceEq, Int.reduceLT, Int.reduceLE, Int.reduceAdd, Int.reduceMul, Int.reduceSub, Int.reduceNeg, Int.reduceToNat, reduceIte, Nat.reduceLT, List.length_map]
  have loop : ∀ (n i j : Nat) (e : Env) (H : Heap), j - i ≤ n → i ≤ j → j ≤ l.length → e 0 = .c (gotsC l) → e 1 = iC d → e 2 = .c (.fn 36 []) → e 8 = iC l.length → e 9 = iC i → e 10 = iC j →
      (∀ k f, k < i → l[k]? = some f → f.epoch < d) → (∀ k f, j ≤ k → l[k]? = some f → ¬ f.epoch < d) →
      Run (progT Try.prog T) ⟨[.tmp 6, .tmp 7], fun u E => viewA E u = some (.tup [iC (posG l d), bC (atG l d)])⟩ [.loop slices_BinarySearchFunc_Got_L0, .blk 0, .code slices_BinarySearchFunc_Got_K1] e H := by
    intro n
    induction n with
    | zero =>
      intro i j e H hn hij hj h0 h1 h2 h8 h9 h10 hlo hhi
      have hij : i = j := by omega
      subst hij
      have hc : ¬ ((i : Int) < (i : Int)) := by omega
      refine run_again ?_
      conv => enter [3, 1]; unfold slices_BinarySearchFunc_Got_L0
      simp only [go_sem, reduceCtorEq, Nat.reduceEqDiff, Nat.reduceAdd, Nat.reduceSub, Nat.reduceMul, Nat.reduceLeDiff, Int.reduceEq, Int.reduceLT, Int.reduceLE, Int.reduceAdd, Int.reduceMul, Int.reduceSub, Int.reduceNeg, Int.reduceToNat, reduceIte, Nat.reduceLT, h0, h1, h2, h8, h9, h10, hc]
      unfold slices_BinarySearchFunc_Got_K1
      have hp := posG_of hj hlo hhi
      by_cases hlt : i < l.length
      · have hc2 : (i : Int) < (l.length : Int) := by omega
        obtain ⟨f, hf⟩ : ∃ f, l[i]? = some f := ⟨l[i], by simp [hlt]⟩
        have hr : (l.map Got.cells)[i]? = some f.cells := by simp [hf]
        have hwf := window_find_1_ok f d
        obtain ⟨fe, fr⟩ := f
        dsimp only [Got.cells, runsC] at hr hwf
        dsimp only [gotsC] at h0
        simp only [go_sem, reduceCtorEq, Nat.reduceEqDiff, Nat.reduceAdd, Nat.reduceSub, Nat.reduceMul, Nat.reduceLeDiff, Int.reduceEq, Int.reduceLT, Int.reduceLE, Int.reduceAdd, Int.reduceMul, Int.reduceSub, Int.reduceNeg, Int.reduceToNat, reduceIte, Nat.reduceLT, h0, h1, h2, h8, h9, h10, hc2, hr]
        refine callW_pure hwf ?_
        simp only [go_sem, reduceCtorEq, Nat.reduceEqDiff, Nat.reduceAdd, Nat.reduceSub, Nat.reduceMul, Nat.reduceLeDiff, Int.reduceEq, Int.reduceLT, Int.reduceLE, Int.reduceAdd, Int.reduceMul, Int.reduceSub, Int.reduceNeg, Int.reduceToNat, reduceIte, Nat.reduceLT]
        have hat : atG l d = decide (cmpInt fe d = 0) := by
          rw [Bool.eq_iff_iff, atG_iff, decide_eq_true_eq, cmpInt_eq]
          constructor
          · rintro ⟨g, hg, rfl⟩
            obtain ⟨k, hk⟩ := List.mem_iff_getElem?.1 hg
            rcases Nat.lt_trichotomy k i with h | h | h
            · exact absurd (hlo k g h hk) (by omega)
            · subst h; rw [hk] at hf; injection hf with hf; rw [hf]
            · exact absurd (ascG_get ha h hf hk) (hhi i _ (Nat.le_refl _) hf)
          · rintro rfl
            exact ⟨_, List.mem_iff_getElem?.2 ⟨i, hf⟩, rfl⟩
        rw [hp, hat]
        by_cases hz : cmpInt fe d = 0 <;> simp [viewA, viewFn, viewC, viewFs, viewCs, viewAs, closedC, closedCs, viewAs, hz]
      · have hc2 : ¬ (i : Int) < (l.length : Int) := by omega
        simp only [go_sem, reduceCtorEq, Nat.reduceEqDiff, Nat.reduceAdd, Nat.reduceSub, Nat.reduceMul, Nat.reduceLeDiff, Int.reduceEq, Int.reduceLT, Int.reduceLE, Int.reduceAdd, Int.reduceMul, Int.reduceSub, Int.reduceNeg, Int.reduceToNat, reduceIte, Nat.reduceLT, h0, h2, h8, h9, h10, hc2]
        have hat : atG l d = false := by
          cases hat : atG l d with
          | false => rfl
          | true =>
            obtain ⟨g, hg, rfl⟩ := atG_iff.1 hat
            obtain ⟨k, hk⟩ := List.mem_iff_getElem?.1 hg
            have := (List.getElem?_eq_some_iff.1 hk).1
            exact absurd (hlo k g (by omega) hk) (by omega)
        rw [hp, hat]
        simp [viewA, viewFn, viewC, viewFs, viewCs, viewAs, closedC, closedCs, viewAs]
    | succ n ih =>
      intro i j e H hn hij hj h0 h1 h2 h8 h9 h10 hlo hhi
      by_cases hlt : i < j
      case neg => exact ih i j e H (by omega) hij hj h0 h1 h2 h8 h9 h10 hlo hhi
      have hc : ((i : Int) < (j : Int)) := by omega
      have hm1 : (i + j) / 2 < j := by omega
      have hm2 : i ≤ (i + j) / 2 := by omega
      obtain ⟨f, hf⟩ : ∃ f, l[(i + j) / 2]? = some f := ⟨l[(i + j) / 2]'(by omega), by simp⟩
      have hr : (l.map Got.cells)[(i + j) / 2]? = some f.cells := by simp [hf]
      have w1 : IntKind.wrap .i64 ((i : Int) + (j : Int)) = ((i + j : Nat) : Int) := by rw [wrap64 (by omega)]; omega
      have w2 : IntKind.wrap .u64 ((i + j : Nat) : Int) = ((i + j : Nat) : Int) := wrapu64G (by omega)
      have w3 : IntKind.wrap .i64 (((i + j) / 2 : Nat) : Int) = (((i + j) / 2 : Nat) : Int) := wrap64 (by omega)
      have w4 : IntKind.wrap .i64 ((((i + j) / 2 : Nat) : Int) + 1) = (((i + j) / 2 + 1 : Nat) : Int) := by rw [wrap64 (by omega)]; omega
      have hwf := window_find_1_ok f d
      obtain ⟨fe, fr⟩ := f
      dsimp only [Got.cells, runsC] at hr hwf
      have h0' := h0
      dsimp only [gotsC] at h0
      refine run_again ?_
      conv => enter [3, 1]; unfold slices_BinarySearchFunc_Got_L0
      simp only [go_sem, reduceCtorEq, Nat.reduceEqDiff, Nat.reduceAdd, Nat.reduceSub, Nat.reduceMul, Nat.reduceLeDiff, Int.reduceEq, Int.reduceLT, Int.reduceLE, Int.reduceAdd, Int.reduceMul, Int.reduceSub, Int.reduceNeg, Int.reduceToNat, reduceIte, Nat.reduceLT, h0, h1, h2, h8, h9, h10, hc, w1, w2, vBin_shr1G, w3, hr]
      refine callW_pure hwf ?_
      by_cases hz : cmpInt fe d < 0
      · simp only [go_sem, reduceCtorEq, Nat.reduceEqDiff, Nat.reduceAdd, Nat.reduceSub, Nat.reduceMul, Nat.reduceLeDiff, Int.reduceEq, Int.reduceLT, Int.reduceLE, Int.reduceAdd, Int.reduceMul, Int.reduceSub, Int.reduceNeg, Int.reduceToNat, reduceIte, Nat.reduceLT, hz, w4]
        refine ih ((i + j) / 2 + 1) j _ _ (by omega) (by omega) hj ?_ ?_ ?_ ?_ ?_ ?_ ?_ hhi
        · simp only [go_sem, reduceCtorEq, Nat.reduceEqDiff, Nat.reduceAdd, Nat.reduceSub, Nat.reduceMul, Nat.reduceLeDiff, Int.reduceEq, Int.reduceLT, Int.reduceLE, Int.reduceAdd, Int.reduceMul, Int.reduceSub, Int.reduceNeg, Int.reduceToNat, reduceIte, Nat.reduceLT, h0']
        · simp only [go_sem, reduceCtorEq, Nat.reduceEqDiff, Nat.reduceAdd, Nat.reduceSub, Nat.reduceMul, Nat.reduceLeDiff, Int.reduceEq, Int.reduceLT, Int.reduceLE, Int.reduceAdd, Int.reduceMul, Int.reduceSub, Int.reduceNeg, Int.reduceToNat, reduceIte, Nat.reduceLT, h1]
        · simp only [go_sem, reduceCtorEq, Nat.reduceEqDiff, Nat.reduceAdd, Nat.reduceSub, Nat.reduceMul, Nat.reduceLeDiff, Int.reduceEq, Int.reduceLT, Int.reduceLE, Int.reduceAdd, Int.reduceMul, Int.reduceSub, Int.reduceNeg, Int.reduceToNat, reduceIte, Nat.reduceLT, h2]
        · simp only [go_sem, reduceCtorEq, Nat.reduceEqDiff, Nat.reduceAdd, Nat.reduceSub, Nat.reduceMul, Nat.reduceLeDiff, Int.reduceEq, Int.reduceLT, Int.reduceLE, Int.reduceAdd, Int.reduceMul, Int.reduceSub, Int.reduceNeg, Int.reduceToNat, reduceIte, Nat.reduceLT, h8]
        · simp only [go_sem, reduceCtorEq, Nat.reduceEqDiff, Nat.reduceAdd, Nat.reduceSub, Nat.reduceMul, Nat.reduceLeDiff, Int.reduceEq, Int.reduceLT, Int.reduceLE, Int.reduceAdd, Int.reduceMul, Int.reduceSub, Int.reduceNeg, Int.reduceToNat, reduceIte, Nat.reduceLT]
        · simp only [go_sem, reduceCtorEq, Nat.reduceEqDiff, Nat.reduceAdd, Nat.reduceSub, Nat.reduceMul, Nat.reduceLeDiff, Int.reduceEq, Int.reduceLT, Int.reduceLE, Int.reduceAdd, Int.reduceMul, Int.reduceSub, Int.reduceNeg, Int.reduceToNat, reduceIte, Nat.reduceLT, h10]
        · intro k g hk hg
          have hz' := cmpInt_lt.1 hz
          rcases Nat.lt_or_ge k ((i + j) / 2) with h | h
          · exact Int.lt_trans (ascG_get ha h hg hf) hz'
          · have : k = (i + j) / 2 := by omega
            subst this; rw [hf] at hg; injection hg with hg; subst hg; exact hz'
      · simp only [go_sem, reduceCtorEq, Nat.reduceEqDiff, Nat.reduceAdd, Nat.reduceSub, Nat.reduceMul, Nat.reduceLeDiff, Int.reduceEq, Int.reduceLT, Int.reduceLE, Int.reduceAdd, Int.reduceMul, Int.reduceSub, Int.reduceNeg, Int.reduceToNat, reduceIte, Nat.reduceLT, hz]
        refine ih i ((i + j) / 2) _ _ (by omega) (by omega) (by omega) ?_ ?_ ?_ ?_ ?_ ?_ hlo ?_
        · simp only [go_sem, reduceCtorEq, Nat.reduceEqDiff, Nat.reduceAdd, Nat.reduceSub, Nat.reduceMul, Nat.reduceLeDiff, Int.reduceEq, Int.reduceLT, Int.reduceLE, Int.reduceAdd, Int.reduceMul, Int.reduceSub, Int.reduceNeg, Int.reduceToNat, reduceIte, Nat.reduceLT, h0']
        · simp only [go_sem, reduceCtorEq, Nat.reduceEqDiff, Nat.reduceAdd, Nat.reduceSub, Nat.reduceMul, Nat.reduceLeDiff, Int.reduceEq, Int.reduceLT, Int.reduceLE, Int.reduceAdd, Int.reduceMul, Int.reduceSub, Int.reduceNeg, Int.reduceToNat, reduceIte, Nat.reduceLT, h1]
        · simp only [go_sem, reduceCtorEq, Nat.reduceEqDiff, Nat.reduceAdd, Nat.reduceSub, Nat.reduceMul, Nat.reduceLeDiff, Int.reduceEq, Int.reduceLT, Int.reduceLE, Int.reduceAdd, Int.reduceMul, Int.reduceSub, Int.reduceNeg, Int.reduceToNat, reduceIte, Nat.reduceLT, h2]
        · simp only [go_sem, reduceCtorEq, Nat.reduceEqDiff, Nat.reduceAdd, Nat.reduceSub, Nat.reduceMul, Nat.reduceLeDiff, Int.reduceEq, Int.reduceLT, Int.reduceLE, Int.reduceAdd, Int.reduceMul, Int.reduceSub, Int.reduceNeg, Int.reduceToNat, reduceIte, Nat.reduceLT, h8]
        · simp only [go_sem, reduceCtorEq, Nat.reduceEqDiff, Nat.reduceAdd, Nat.reduceSub, Nat.reduceMul, Nat.reduceLeDiff, Int.reduceEq, Int.reduceLT, Int.reduceLE, Int.reduceAdd, Int.reduceMul, Int.reduceSub, Int.reduceNeg, Int.reduceToNat, reduceIte, Nat.reduceLT, h9]
        · simp only [go_sem, reduceCtorEq, Nat.reduceEqDiff, Nat.reduceAdd, Nat.reduceSub, Nat.reduceMul, Nat.reduceLeDiff, Int.reduceEq, Int.reduceLT, Int.reduceLE, Int.reduceAdd, Int.reduceMul, Int.reduceSub, Int.reduceNeg, Int.reduceToNat, reduceIte, Nat.reduceLT]
        · intro k g hk hg hlt2
          rw [cmpInt_lt] at hz
          rcases Nat.lt_or_ge ((i + j) / 2) k with h | h
          · exact hz (Int.lt_trans (ascG_get ha h hf hg) hlt2)
          · have : k = (i + j) / 2 := by omega
            subst this; rw [hf] at hg; injection hg with hg; subst hg; exact hz hlt2
  refine loop l.length 0 l.length _ _ (by omega) (by omega) (Nat.le_refl _) ?_ ?_ ?_ ?_ ?_ ?_ (by intro k f h; omega) (by
    intro k f h hf
    have := (List.getElem?_eq_some_iff.1 hf).1
    omega)
  all_goals simp only [go_sem, reduceCtorEq, Nat.reduceEqDiff, Nat.reduceAdd, Nat.reduceSub, Nat.reduceMul, Nat.reduceLeDiff, Int.reduceEq, Int.reduceLT, Int.reduceLE, Int.reduceAdd, Int.reduceMul, Int.reduceSub, Int.reduceNeg, Int.reduceToNat, reduceIte, Nat.reduceLT, Int.natCast_zero]

theorem window_find_ok (l : List Got) (d : Int) (ha : MayG l) (hs : l.length ≤ 1000000) : Pr 20 [.c (gotsC l), iC d] (.tup [iC (posG l d), bC (atG l d)]) := by
  refine pure_of mixed is_window_find (by simp [closedAs, closedA, closedC, closed_gotsC]) fun hl T => ?_
  unfold c_window_find
  simp only [go_sem, reduceCtorEq, Nat.reduceEqDiff, Nat.reduceAdd, Nat.reduceSub, Nat.reduceMul, Nat.reduceLeDiff, Int.reduceEq, Int.reduceLT, Int.reduceLE, Int.reduceAdd, Int.reduceMul, Int.reduceSub, Int.reduceNeg, Int.reduceToNat, reduceIte, Nat.reduceLT]
  refine callW_pure (slices_BinarySearchFunc_Got_ok l d ha hs) ?_
  simp only [go_sem, reduceCtorEq, Nat.reduceEqDiff, Nat.reduceAdd, Nat.reduceSub, Nat.reduceMul, Nat.reduceLeDiff, Int.reduceEq, Int.reduceLT, Int.reduceLE, Int.reduceAdd, Int.reduceMul, Int.reduceSub, Int.reduceNeg, Int.reduceToNat, reduceIte, Nat.reduceLT]
  simp [viewA, viewFn, viewC, viewFs, viewCs, viewAs, closedC, closedCs, viewAs]

theorem window_dot_ok (h : Hdr) : Pr 24 [.agg h.cells] (.agg h.dot.cells) := by
  obtain ⟨a, b, c⟩ := h
  refine pure_of mixed is_window_dot rfl fun hl T => ?_
  unfold c_window_dot
  dsimp only [Hdr.cells, Hdr.dot, Dot.cells]
  simp only [go_sem, reduceCtorEq, Nat.reduceEqDiff, Nat.reduceAdd, Nat.reduceSub, Nat.reduceMul, Nat.reduceLeDiff, Int.reduceEq, Int.reduceLT, Int.reduceLE, Int.reduceAdd, Int.reduceMul, Int.reduceSub, Int.reduceNeg, Int.reduceToNat, reduceIte, Nat.reduceLT]
  simp [viewA, viewFn, viewC, viewFs, viewCs, viewAs, closedC, closedCs]

/-- What the list has of an epoch. -/
theorem atG_get {l : List Got} (ha : MayG l) {d : Int} (h : atG l d = true) : ∃ g, l[posG l d]? = some g ∧ g.epoch = d := by
  obtain ⟨A, B, rfl, hp, hA, hB⟩ := ha.split d
  rcases hB with ⟨_, g, B', rfl, hg, _⟩ | ⟨h2, _⟩
  · exact ⟨g, by rw [hp]; simp, hg⟩
  · rw [h] at h2; cases h2
theorem hasG_none {l : List Got} (ha : MayG l) {h : Hdr} (hn : atG l h.epoch = false) : hasG l h = false := by
  refine hasG_ne fun g hg e => ?_
  have : atG l h.epoch = true := atG_iff.2 ⟨g, hg, e⟩
  rw [hn] at this; cases this
theorem hasG_some {l : List Got} (ha : MayG l) {h : Hdr} {g : Got} (hn : atG l h.epoch = true) (hg : l[posG l h.epoch]? = some g) : hasG l h = hasDot g.runs h.dot := by
  obtain ⟨A, B, rfl, hp, hA, hB⟩ := ha.split h.epoch
  rcases hB with ⟨_, g', B', rfl, hg', hB'⟩ | ⟨h2, _⟩
  · rw [hp] at hg
    have : g' = g := by simpa using hg
    subst this
    exact hasG_at hA hg' hB'
  · rw [hn] at h2; cases h2

theorem window_Has_ok (l : List Got) (h : Hdr) (ha : MayG l) (hs : l.length ≤ 1000000) : Pr 12 [.c (gotsC l), .agg h.cells] (bC (hasG l h)) := by
  refine pure_of mixed is_window_Has (by simp [closedAs, closedA, closed_gotsC, Hdr.closed]) fun hl T => ?_
  unfold c_window_Has
  have hf := window_find_ok l h.epoch ha hs
  have hd := window_dot_ok h
  have hn := @hasG_none l ha h
  have hsm := @hasG_some l ha h
  have hgt := @atG_get l ha h.epoch
  obtain ⟨a, b, c⟩ := h
  dsimp only [Hdr.cells, Hdr.dot, Dot.cells, gotsC] at *
  simp only [go_sem, reduceCtorEq, Nat.reduceEqDiff, Nat.reduceAdd, Nat.reduceSub, Nat.reduceMul, Nat.reduceLeDiff, Int.reduceEq, Int.reduceLT, Int.reduceLE, Int.reduceAdd, Int.reduceMul, Int.reduceSub, Int.reduceNeg, Int.reduceToNat, reduceIte, Nat.reduceLT]
  refine callW_pure hf ?_
  simp only [go_sem, reduceCtorEq, Nat.reduceEqDiff, Nat.reduceAdd, Nat.reduceSub, Nat.reduceMul, Nat.reduceLeDiff, Int.reduceEq, Int.reduceLT, Int.reduceLE, Int.reduceAdd, Int.reduceMul, Int.reduceSub, Int.reduceNeg, Int.reduceToNat, reduceIte, Nat.reduceLT]
  cases hat : atG l a with
  | false =>
    simp only [go_sem, reduceCtorEq, Nat.reduceEqDiff, Nat.reduceAdd, Nat.reduceSub, Nat.reduceMul, Nat.reduceLeDiff, Int.reduceEq, Int.reduceLT, Int.reduceLE, Int.reduceAdd, Int.reduceMul, Int.reduceSub, Int.reduceNeg, Int.reduceToNat, reduceIte, Nat.reduceLT]
    simp [viewA, viewFn, viewC, viewFs, viewCs, viewAs, closedC, closedCs, hn hat]
  | true =>
    obtain ⟨g, hg, hge⟩ := hgt hat
    have hr : (l.map Got.cells)[posG l a]? = some [.int .i64 g.epoch, .lst 3 (g.runs.map Rn.cells)] := by simp [hg, Got.cells, runsC]
    have hh := dots_Has_ok g.runs ⟨b, c⟩
    dsimp only [runsC, Dot.cells] at hh
    simp only [go_sem, reduceCtorEq, Nat.reduceEqDiff, Nat.reduceAdd, Nat.reduceSub, Nat.reduceMul, Nat.reduceLeDiff, Int.reduceEq, Int.reduceLT, Int.reduceLE, Int.reduceAdd, Int.reduceMul, Int.reduceSub, Int.reduceNeg, Int.reduceToNat, reduceIte, Nat.reduceLT, hr]
    refine callW_pure hd ?_
    simp only [go_sem, reduceCtorEq, Nat.reduceEqDiff, Nat.reduceAdd, Nat.reduceSub, Nat.reduceMul, Nat.reduceLeDiff, Int.reduceEq, Int.reduceLT, Int.reduceLE, Int.reduceAdd, Int.reduceMul, Int.reduceSub, Int.reduceNeg, Int.reduceToNat, reduceIte, Nat.reduceLT]
    refine callW_pure hh ?_
    simp only [go_sem, reduceCtorEq, Nat.reduceEqDiff, Nat.reduceAdd, Nat.reduceSub, Nat.reduceMul, Nat.reduceLeDiff, Int.reduceEq, Int.reduceLT, Int.reduceLE, Int.reduceAdd, Int.reduceMul, Int.reduceSub, Int.reduceNeg, Int.reduceToNat, reduceIte, Nat.reduceLT]
    simp [viewA, viewFn, viewC, viewFs, viewCs, viewAs, closedC, closedCs, hsm hat hg]

theorem window_fresh_ok (l : List Got) (h : Hdr) (ha : MayG l) (hs : l.length ≤ 1000000) : Pr 19 [.c (gotsC l), .agg h.cells] (.c (if hasG l h then againC h.epoch h.frm h.seq else .nilI)) := by
  refine pure_of mixed is_window_fresh (by simp [closedAs, closedA, closed_gotsC, Hdr.closed]) fun hl T => ?_
  unfold c_window_fresh
  have hh := window_Has_ok l h ha hs
  obtain ⟨a, b, c⟩ := h
  dsimp only [Hdr.cells] at *
  simp only [go_sem, reduceCtorEq, Nat.reduceEqDiff, Nat.reduceAdd, Nat.reduceSub, Nat.reduceMul, Nat.reduceLeDiff, Int.reduceEq, Int.reduceLT, Int.reduceLE, Int.reduceAdd, Int.reduceMul, Int.reduceSub, Int.reduceNeg, Int.reduceToNat, reduceIte, Nat.reduceLT]
  refine callW_pure hh ?_
  cases hg : hasG l ⟨a, b, c⟩ with
  | true =>
    simp only [go_sem, reduceCtorEq, Nat.reduceEqDiff, Nat.reduceAdd, Nat.reduceSub, Nat.reduceMul, Nat.reduceLeDiff, Int.reduceEq, Int.reduceLT, Int.reduceLE, Int.reduceAdd, Int.reduceMul, Int.reduceSub, Int.reduceNeg, Int.reduceToNat, reduceIte, Nat.reduceLT]
    rfl
  | false =>
    simp only [go_sem, reduceCtorEq, Nat.reduceEqDiff, Nat.reduceAdd, Nat.reduceSub, Nat.reduceMul, Nat.reduceLeDiff, Int.reduceEq, Int.reduceLT, Int.reduceLE, Int.reduceAdd, Int.reduceMul, Int.reduceSub, Int.reduceNeg, Int.reduceToNat, reduceIte, Nat.reduceLT]
    simp [viewA, viewFn, viewC, viewFs, viewCs, viewAs, closedC, closedCs]

end Go.Proofs.Ytmdblemjlmfbbaa.Eng
