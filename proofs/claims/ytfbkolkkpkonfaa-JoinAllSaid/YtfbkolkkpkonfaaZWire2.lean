/- Wires: whether one may be, and its bytes (that there are some). No statement of the seat is proved here. -/
import Derived.Test.YtfbkolkkpkonfaaZWire
namespace Go.Proofs.Ytfbkolkkpkonfaa.Eng
open Go
set_option linter.unusedVariables false
set_option linter.unusedSimpArgs false

/-! ### Whether a wire may be -/
mutual
def rightW : Wr → Int → Bool
  | .mk k n s l, lim =>
    if k = 1 then decide (s = emptyB) && decide ((l.length : Int) = 0)
    else if k = 2 then decide (n = 0) && decide ((l.length : Int) = 0) && decide ((s.size : Int) ≤ 1048576)
    else if k = 3 then (if n = 0 ∧ s = emptyB ∧ ¬ 65536 < (l.length : Int) ∧ ¬ lim < 1 then rightWs l (lim - 1) else false)
    else false
def rightWs : List Wr → Int → Bool
  | [], _ => true
  | w :: l, lim => rightW w lim && rightWs l lim
end

theorem r1_right_ok : ∀ (w : Wr) (lim : Int), -1 ≤ lim → lim ≤ 100 → Pr 99 [.agg w.cells, iC lim] (bC (rightW w lim))
  | .mk k n s l, lim, hl0, hl1 => by
    have ih : ∀ x ∈ l, ∀ lim', -1 ≤ lim' → lim' ≤ 100 → Pr 99 [.agg x.cells, iC lim'] (bC (rightW x lim')) := fun x hx lim' h1 h2 => r1_right_ok x lim' h1 h2
    refine pure_of mixed is_r1_right (by simp [closedAs, closedA, closedC, Wr.closed]) fun hl T => ?_
    have hlen : l.length ≤ maxLen := by
      have := hl _ (List.mem_cons_self ..) (.lst 4 (Wr.rows l)) (by simp [Wr.cells])
      simpa [lenC, Wr.rows_len] using this
    unfold c_r1_right
    simp only [Wr.cells]
    have hrl : (Wr.rows l).length = l.length := Wr.rows_len l
    generalize hv : rightW (.mk k n s l) lim = v
    have loop : ∀ (rest pre : List Wr) (e : Env) (H : Heap), l = pre ++ rest → ¬ lim < 1 → e 1 = iC lim → e 2 = .c (.fp [.int .i64 k, .int .i64 n, .str s, .lst 4 (Wr.rows l)] 0) → e 5 = iC pre.length → rightWs rest (lim - 1) = v →
        Run (progT Try.prog T) ⟨[.tmp 4], fun u E => viewA E u = some (bC v)⟩ [.loop r1_right_L0, .blk 1, .code r1_right_K1, .blk 0, .code r1_right_K2] e H := by
      intro rest
      induction rest with
      | nil =>
        intro pre e H hp hlim h1 h2 h5 hm
        have hc : ¬ ((pre.length : Int) < ((Wr.rows l).length : Int)) := by rw [hrl, hp]; simp
        refine run_again ?_
        conv => enter [3, 1]; unfold r1_right_L0
        simp only [go_sem, reduceCtorEq, Nat.reduceEqDiff, Nat.reduceAdd, Nat.reduceSub, Nat.reduceMul, Nat.reduceLeDiff, Int.reduceEq, Int.reduceLT, Int.reduceLE, Int.reduceAdd, Int.reduceMul, Int.reduceSub, Int.reduceNeg, Int.reduceToNat, reduceIte, Nat.reduceLT, h1, h2, h5, hc]
        unfold r1_right_K1
        simp only [go_sem, reduceCtorEq, Nat.reduceEqDiff, Nat.reduceAdd, Nat.reduceSub, Nat.reduceMul, Nat.reduceLeDiff, Int.reduceEq, Int.reduceLT, Int.reduceLE, Int.reduceAdd, Int.reduceMul, Int.reduceSub, Int.reduceNeg, Int.reduceToNat, reduceIte, Nat.reduceLT]
        simp [viewA, viewFn, viewC, viewFs, viewCs, viewAs, closedC, closedCs, ← hm, rightWs]
      | cons r rest ihr =>
        intro pre e H hp hlim h1 h2 h5 hm
        have hc : ((pre.length : Int) < ((Wr.rows l).length : Int)) := by rw [hrl, hp]; simp; omega
        have hr : (Wr.rows l)[pre.length]? = some r.cells := by rw [Wr.rows_map, hp]; simp
        have hn := next_at hp hlen
        have wl : IntKind.wrap .i64 (lim - 1) = lim - 1 := wrap64 (by omega)
        refine run_again ?_
        conv => enter [3, 1]; unfold r1_right_L0
        simp only [go_sem, reduceCtorEq, Nat.reduceEqDiff, Nat.reduceAdd, Nat.reduceSub, Nat.reduceMul, Nat.reduceLeDiff, Int.reduceEq, Int.reduceLT, Int.reduceLE, Int.reduceAdd, Int.reduceMul, Int.reduceSub, Int.reduceNeg, Int.reduceToNat, reduceIte, Nat.reduceLT, h1, h2, h5, hc, hr, Wr.len4, Wr.take4, wl]
        refine callW_pure (ih r (by rw [hp]; simp) (lim - 1) (by omega) (by omega)) ?_
        cases hx : rightW r (lim - 1) with
        | false =>
          simp only [go_sem, reduceCtorEq, Nat.reduceEqDiff, Nat.reduceAdd, Nat.reduceSub, Nat.reduceMul, Nat.reduceLeDiff, Int.reduceEq, Int.reduceLT, Int.reduceLE, Int.reduceAdd, Int.reduceMul, Int.reduceSub, Int.reduceNeg, Int.reduceToNat, reduceIte, Nat.reduceLT]
          simp [viewA, viewFn, viewC, viewFs, viewCs, viewAs, closedC, closedCs, ← hm, rightWs, hx]
        | true =>
          simp only [go_sem, reduceCtorEq, Nat.reduceEqDiff, Nat.reduceAdd, Nat.reduceSub, Nat.reduceMul, Nat.reduceLeDiff, Int.reduceEq, Int.reduceLT, Int.reduceLE, Int.reduceAdd, Int.reduceMul, Int.reduceSub, Int.reduceNeg, Int.reduceToNat, reduceIte, Nat.reduceLT, h5, hn]
          refine ihr (pre ++ [r]) _ _ (by rw [hp]; simp) hlim ?_ ?_ ?_ (by rw [← hm]; simp [rightWs, hx])
          all_goals simp only [go_sem, reduceCtorEq, Nat.reduceEqDiff, Nat.reduceAdd, Nat.reduceSub, Nat.reduceMul, Nat.reduceLeDiff, Int.reduceEq, Int.reduceLT, Int.reduceLE, Int.reduceAdd, Int.reduceMul, Int.reduceSub, Int.reduceNeg, Int.reduceToNat, reduceIte, Nat.reduceLT, h1, h2, hn]
    simp only [go_sem, reduceCtorEq, Nat.reduceEqDiff, Nat.reduceAdd, Nat.reduceSub, Nat.reduceMul, Nat.reduceLeDiff, Int.reduceEq, Int.reduceLT, Int.reduceLE, Int.reduceAdd, Int.reduceMul, Int.reduceSub, Int.reduceNeg, Int.reduceToNat, reduceIte, Nat.reduceLT, Wr.closedR]
    by_cases k1 : k = 1
    · subst k1
      by_cases hs : s = ⟨#[]⟩
      · simp only [go_sem, reduceCtorEq, Nat.reduceEqDiff, Nat.reduceAdd, Nat.reduceSub, Nat.reduceMul, Nat.reduceLeDiff, Int.reduceEq, Int.reduceLT, Int.reduceLE, Int.reduceAdd, Int.reduceMul, Int.reduceSub, Int.reduceNeg, Int.reduceToNat, reduceIte, Nat.reduceLT, hs, hrl]
        simp [viewA, viewFn, viewC, viewFs, viewCs, viewAs, closedC, closedCs, ← hv, rightW, hs]
      · simp only [go_sem, reduceCtorEq, Nat.reduceEqDiff, Nat.reduceAdd, Nat.reduceSub, Nat.reduceMul, Nat.reduceLeDiff, Int.reduceEq, Int.reduceLT, Int.reduceLE, Int.reduceAdd, Int.reduceMul, Int.reduceSub, Int.reduceNeg, Int.reduceToNat, reduceIte, Nat.reduceLT, hs, hrl]
        simp [viewA, viewFn, viewC, viewFs, viewCs, viewAs, closedC, closedCs, ← hv, rightW, hs]
    by_cases k2 : k = 2
    · subst k2
      by_cases h1 : n = 0 <;> by_cases h2 : (l.length : Int) = 0
      all_goals
        simp only [go_sem, reduceCtorEq, Nat.reduceEqDiff, Nat.reduceAdd, Nat.reduceSub, Nat.reduceMul, Nat.reduceLeDiff, Int.reduceEq, Int.reduceLT, Int.reduceLE, Int.reduceAdd, Int.reduceMul, Int.reduceSub, Int.reduceNeg, Int.reduceToNat, reduceIte, Nat.reduceLT, h1, h2, hrl]
        have h2' : ((l.length : Int) = 0) = (l = []) := by simp
        rw [h2'] at h2
        simp [viewA, viewFn, viewC, viewFs, viewCs, viewAs, closedC, closedCs, ← hv, rightW, h1, h2]
    by_cases k3 : k = 3
    · subst k3
      by_cases h1 : n = 0
      · by_cases h2 : s = ⟨#[]⟩
        · by_cases h3 : 65536 < (l.length : Int)
          · simp only [go_sem, reduceCtorEq, Nat.reduceEqDiff, Nat.reduceAdd, Nat.reduceSub, Nat.reduceMul, Nat.reduceLeDiff, Int.reduceEq, Int.reduceLT, Int.reduceLE, Int.reduceAdd, Int.reduceMul, Int.reduceSub, Int.reduceNeg, Int.reduceToNat, reduceIte, Nat.reduceLT, h1, h2, h3, hrl]
            simp [viewA, viewFn, viewC, viewFs, viewCs, viewAs, closedC, closedCs, ← hv, rightW, h1, h2, h3]
          · by_cases h4 : lim < 1
            · simp only [go_sem, reduceCtorEq, Nat.reduceEqDiff, Nat.reduceAdd, Nat.reduceSub, Nat.reduceMul, Nat.reduceLeDiff, Int.reduceEq, Int.reduceLT, Int.reduceLE, Int.reduceAdd, Int.reduceMul, Int.reduceSub, Int.reduceNeg, Int.reduceToNat, reduceIte, Nat.reduceLT, h1, h2, h3, h4, hrl]
              simp [viewA, viewFn, viewC, viewFs, viewCs, viewAs, closedC, closedCs, ← hv, rightW, h1, h2, h3, h4]
            · simp only [go_sem, reduceCtorEq, Nat.reduceEqDiff, Nat.reduceAdd, Nat.reduceSub, Nat.reduceMul, Nat.reduceLeDiff, Int.reduceEq, Int.reduceLT, Int.reduceLE, Int.reduceAdd, Int.reduceMul, Int.reduceSub, Int.reduceNeg, Int.reduceToNat, reduceIte, Nat.reduceLT, h1, h2, h3, h4, hrl]
              refine loop l [] _ [] rfl h4 ?_ ?_ ?_ ?_
              · simp only [go_sem, reduceCtorEq, Nat.reduceEqDiff, Nat.reduceAdd, Nat.reduceSub, Nat.reduceMul, Nat.reduceLeDiff, Int.reduceEq, Int.reduceLT, Int.reduceLE, Int.reduceAdd, Int.reduceMul, Int.reduceSub, Int.reduceNeg, Int.reduceToNat, reduceIte, Nat.reduceLT]
              · simp only [go_sem, reduceCtorEq, Nat.reduceEqDiff, Nat.reduceAdd, Nat.reduceSub, Nat.reduceMul, Nat.reduceLeDiff, Int.reduceEq, Int.reduceLT, Int.reduceLE, Int.reduceAdd, Int.reduceMul, Int.reduceSub, Int.reduceNeg, Int.reduceToNat, reduceIte, Nat.reduceLT, h1, h2]
              · simp only [go_sem, reduceCtorEq, Nat.reduceEqDiff, Nat.reduceAdd, Nat.reduceSub, Nat.reduceMul, Nat.reduceLeDiff, Int.reduceEq, Int.reduceLT, Int.reduceLE, Int.reduceAdd, Int.reduceMul, Int.reduceSub, Int.reduceNeg, Int.reduceToNat, reduceIte, Nat.reduceLT, List.length_nil, Int.natCast_zero]
              · rw [← hv]; simp [rightW, h1, h2, h3, h4]
        · simp only [go_sem, reduceCtorEq, Nat.reduceEqDiff, Nat.reduceAdd, Nat.reduceSub, Nat.reduceMul, Nat.reduceLeDiff, Int.reduceEq, Int.reduceLT, Int.reduceLE, Int.reduceAdd, Int.reduceMul, Int.reduceSub, Int.reduceNeg, Int.reduceToNat, reduceIte, Nat.reduceLT, h1, h2, hrl]
          simp [viewA, viewFn, viewC, viewFs, viewCs, viewAs, closedC, closedCs, ← hv, rightW, h1, h2]
      · simp only [go_sem, reduceCtorEq, Nat.reduceEqDiff, Nat.reduceAdd, Nat.reduceSub, Nat.reduceMul, Nat.reduceLeDiff, Int.reduceEq, Int.reduceLT, Int.reduceLE, Int.reduceAdd, Int.reduceMul, Int.reduceSub, Int.reduceNeg, Int.reduceToNat, reduceIte, Nat.reduceLT, h1, hrl]
        simp [viewA, viewFn, viewC, viewFs, viewCs, viewAs, closedC, closedCs, ← hv, rightW, h1]
    · simp only [go_sem, reduceCtorEq, Nat.reduceEqDiff, Nat.reduceAdd, Nat.reduceSub, Nat.reduceMul, Nat.reduceLeDiff, Int.reduceEq, Int.reduceLT, Int.reduceLE, Int.reduceAdd, Int.reduceMul, Int.reduceSub, Int.reduceNeg, Int.reduceToNat, reduceIte, Nat.reduceLT, k1, k2, k3]
      unfold r1_right_K2
      simp only [go_sem, reduceCtorEq, Nat.reduceEqDiff, Nat.reduceAdd, Nat.reduceSub, Nat.reduceMul, Nat.reduceLeDiff, Int.reduceEq, Int.reduceLT, Int.reduceLE, Int.reduceAdd, Int.reduceMul, Int.reduceSub, Int.reduceNeg, Int.reduceToNat, reduceIte, Nat.reduceLT]
      simp [viewA, viewFn, viewC, viewFs, viewCs, viewAs, closedC, closedCs, ← hv, rightW, k1, k2, k3]
termination_by w => SizeOf.sizeOf w
decreasing_by
  simp_wf
  have := List.sizeOf_lt_of_mem hx
  omega

/-! ### How deep a wire is -/
mutual
def deepW : Wr → Int → Int
  | .mk k _ _ l, lim => if k = 3 then deepWs l lim 1 else 0
def deepWs : List Wr → Int → Int → Int
  | [], _, n => n
  | w :: l, lim, n => if 0 < lim then deepWs l lim (if n < 1 + deepW w (lim - 1) then 1 + deepW w (lim - 1) else n) else n
end
mutual
theorem deepW_le : ∀ (w : Wr) (lim : Int), 0 ≤ lim → 0 ≤ deepW w lim ∧ deepW w lim ≤ 1 + lim
  | .mk k n s l, lim, h => by
    simp only [deepW]
    split
    · have := deepWs_le l lim 1 h (by omega) (by omega)
      omega
    · omega
theorem deepWs_le : ∀ (l : List Wr) (lim n : Int), 0 ≤ lim → 1 ≤ n → n ≤ 1 + lim → 1 ≤ deepWs l lim n ∧ deepWs l lim n ≤ 1 + lim
  | [], lim, n, _, h1, h2 => by simp only [deepWs]; omega
  | w :: l, lim, n, h0, h1, h2 => by
    simp only [deepWs]
    split
    · rename_i hl
      have := deepW_le w (lim - 1) (by omega)
      refine deepWs_le l lim _ h0 ?_ ?_ <;> split <;> omega
    · omega
end

theorem r1_deep_ok : ∀ (w : Wr) (lim : Int), 0 ≤ lim → lim ≤ 100 → Pr 100 [.agg w.cells, iC lim] (iC (deepW w lim))
  | .mk k n s l, lim, hl0, hl1 => by
    have ih : ∀ x ∈ l, ∀ lim', 0 ≤ lim' → lim' ≤ 100 → Pr 100 [.agg x.cells, iC lim'] (iC (deepW x lim')) := fun x hx lim' h1 h2 => r1_deep_ok x lim' h1 h2
    refine pure_of mixed is_r1_deep (by simp [closedAs, closedA, closedC, Wr.closed]) fun hl T => ?_
    have hlen : l.length ≤ maxLen := by
      have := hl _ (List.mem_cons_self ..) (.lst 4 (Wr.rows l)) (by simp [Wr.cells])
      simpa [lenC, Wr.rows_len] using this
    unfold c_r1_deep
    simp only [Wr.cells]
    have hrl : (Wr.rows l).length = l.length := Wr.rows_len l
    generalize hv : deepW (.mk k n s l) lim = v
    have loop : ∀ (rest pre : List Wr) (m : Int) (e : Env) (H : Heap), l = pre ++ rest → e 1 = iC lim → e 2 = .c (.fp [.int .i64 k, .int .i64 n, .str s, .lst 4 (Wr.rows l)] 0) → e 5 = iC m → e 6 = iC pre.length → deepWs rest lim m = v →
        Run (progT Try.prog T) ⟨[.tmp 4], fun u E => viewA E u = some (iC v)⟩ [.loop r1_deep_L0, .blk 0, .code r1_deep_K1] e H := by
      intro rest
      induction rest with
      | nil =>
        intro pre m e H hp h1 h2 h5 h6 hm
        have hc : ¬ ((pre.length : Int) < ((Wr.rows l).length : Int)) := by rw [hrl, hp]; simp
        refine run_again ?_
        conv => enter [3, 1]; unfold r1_deep_L0
        simp only [go_sem, reduceCtorEq, Nat.reduceEqDiff, Nat.reduceAdd, Nat.reduceSub, Nat.reduceMul, Nat.reduceLeDiff, Int.reduceEq, Int.reduceLT, Int.reduceLE, Int.reduceAdd, Int.reduceMul, Int.reduceSub, Int.reduceNeg, Int.reduceToNat, reduceIte, Nat.reduceLT, h1, h2, h5, h6, hc]
        unfold r1_deep_K1
        simp only [go_sem, reduceCtorEq, Nat.reduceEqDiff, Nat.reduceAdd, Nat.reduceSub, Nat.reduceMul, Nat.reduceLeDiff, Int.reduceEq, Int.reduceLT, Int.reduceLE, Int.reduceAdd, Int.reduceMul, Int.reduceSub, Int.reduceNeg, Int.reduceToNat, reduceIte, Nat.reduceLT, h5]
        simp [viewA, viewFn, viewC, viewFs, viewCs, viewAs, closedC, closedCs, ← hm, deepWs]
      | cons r rest ihr =>
        intro pre m e H hp h1 h2 h5 h6 hm
        have hc : ((pre.length : Int) < ((Wr.rows l).length : Int)) := by rw [hrl, hp]; simp; omega
        have hr : (Wr.rows l)[pre.length]? = some r.cells := by rw [Wr.rows_map, hp]; simp
        have hn := next_at hp hlen
        refine run_again ?_
        conv => enter [3, 1]; unfold r1_deep_L0
        by_cases hlim : 0 < lim
        · have wl : IntKind.wrap .i64 (lim - 1) = lim - 1 := wrap64 (by omega)
          have hb := deepW_le r (lim - 1) (by omega)
          have w1 : IntKind.wrap .i64 (1 + deepW r (lim - 1)) = 1 + deepW r (lim - 1) := wrap64 (by omega)
          simp only [go_sem, reduceCtorEq, Nat.reduceEqDiff, Nat.reduceAdd, Nat.reduceSub, Nat.reduceMul, Nat.reduceLeDiff, Int.reduceEq, Int.reduceLT, Int.reduceLE, Int.reduceAdd, Int.reduceMul, Int.reduceSub, Int.reduceNeg, Int.reduceToNat, reduceIte, Nat.reduceLT, h1, h2, h5, h6, hc, hr, hlim, Wr.len4, Wr.take4, wl]
          refine callW_pure (ih r (by rw [hp]; simp) (lim - 1) (by omega) (by omega)) ?_
          simp only [go_sem, reduceCtorEq, Nat.reduceEqDiff, Nat.reduceAdd, Nat.reduceSub, Nat.reduceMul, Nat.reduceLeDiff, Int.reduceEq, Int.reduceLT, Int.reduceLE, Int.reduceAdd, Int.reduceMul, Int.reduceSub, Int.reduceNeg, Int.reduceToNat, reduceIte, Nat.reduceLT, h5, h6, hn, w1]
          refine ihr (pre ++ [r]) (if m < 1 + deepW r (lim - 1) then 1 + deepW r (lim - 1) else m) _ _ (by rw [hp]; simp) ?_ ?_ ?_ ?_ (by rw [← hm]; simp [deepWs, hlim])
          all_goals simp only [go_sem, reduceCtorEq, Nat.reduceEqDiff, Nat.reduceAdd, Nat.reduceSub, Nat.reduceMul, Nat.reduceLeDiff, Int.reduceEq, Int.reduceLT, Int.reduceLE, Int.reduceAdd, Int.reduceMul, Int.reduceSub, Int.reduceNeg, Int.reduceToNat, reduceIte, Nat.reduceLT, h1, h2, hn]
        · simp only [go_sem, reduceCtorEq, Nat.reduceEqDiff, Nat.reduceAdd, Nat.reduceSub, Nat.reduceMul, Nat.reduceLeDiff, Int.reduceEq, Int.reduceLT, Int.reduceLE, Int.reduceAdd, Int.reduceMul, Int.reduceSub, Int.reduceNeg, Int.reduceToNat, reduceIte, Nat.reduceLT, h1, h2, h5, h6, hc, hlim]
          unfold r1_deep_K1
          simp only [go_sem, reduceCtorEq, Nat.reduceEqDiff, Nat.reduceAdd, Nat.reduceSub, Nat.reduceMul, Nat.reduceLeDiff, Int.reduceEq, Int.reduceLT, Int.reduceLE, Int.reduceAdd, Int.reduceMul, Int.reduceSub, Int.reduceNeg, Int.reduceToNat, reduceIte, Nat.reduceLT, h5]
          simp [viewA, viewFn, viewC, viewFs, viewCs, viewAs, closedC, closedCs, ← hm, deepWs, hlim]
    simp only [go_sem, reduceCtorEq, Nat.reduceEqDiff, Nat.reduceAdd, Nat.reduceSub, Nat.reduceMul, Nat.reduceLeDiff, Int.reduceEq, Int.reduceLT, Int.reduceLE, Int.reduceAdd, Int.reduceMul, Int.reduceSub, Int.reduceNeg, Int.reduceToNat, reduceIte, Nat.reduceLT, Wr.closedR]
    by_cases k3 : k = 3
    · simp only [go_sem, reduceCtorEq, Nat.reduceEqDiff, Nat.reduceAdd, Nat.reduceSub, Nat.reduceMul, Nat.reduceLeDiff, Int.reduceEq, Int.reduceLT, Int.reduceLE, Int.reduceAdd, Int.reduceMul, Int.reduceSub, Int.reduceNeg, Int.reduceToNat, reduceIte, Nat.reduceLT, k3]
      refine loop l [] 1 _ [] rfl ?_ ?_ ?_ ?_ ?_
      · simp only [go_sem, reduceCtorEq, Nat.reduceEqDiff, Nat.reduceAdd, Nat.reduceSub, Nat.reduceMul, Nat.reduceLeDiff, Int.reduceEq, Int.reduceLT, Int.reduceLE, Int.reduceAdd, Int.reduceMul, Int.reduceSub, Int.reduceNeg, Int.reduceToNat, reduceIte, Nat.reduceLT]
      · simp only [go_sem, reduceCtorEq, Nat.reduceEqDiff, Nat.reduceAdd, Nat.reduceSub, Nat.reduceMul, Nat.reduceLeDiff, Int.reduceEq, Int.reduceLT, Int.reduceLE, Int.reduceAdd, Int.reduceMul, Int.reduceSub, Int.reduceNeg, Int.reduceToNat, reduceIte, Nat.reduceLT, k3]
      · simp only [go_sem, reduceCtorEq, Nat.reduceEqDiff, Nat.reduceAdd, Nat.reduceSub, Nat.reduceMul, Nat.reduceLeDiff, Int.reduceEq, Int.reduceLT, Int.reduceLE, Int.reduceAdd, Int.reduceMul, Int.reduceSub, Int.reduceNeg, Int.reduceToNat, reduceIte, Nat.reduceLT]
      · simp only [go_sem, reduceCtorEq, Nat.reduceEqDiff, Nat.reduceAdd, Nat.reduceSub, Nat.reduceMul, Nat.reduceLeDiff, Int.reduceEq, Int.reduceLT, Int.reduceLE, Int.reduceAdd, Int.reduceMul, Int.reduceSub, Int.reduceNeg, Int.reduceToNat, reduceIte, Nat.reduceLT, List.length_nil, Int.natCast_zero]
      · rw [← hv]; simp [deepW, k3]
    · simp only [go_sem, reduceCtorEq, Nat.reduceEqDiff, Nat.reduceAdd, Nat.reduceSub, Nat.reduceMul, Nat.reduceLeDiff, Int.reduceEq, Int.reduceLT, Int.reduceLE, Int.reduceAdd, Int.reduceMul, Int.reduceSub, Int.reduceNeg, Int.reduceToNat, reduceIte, Nat.reduceLT, k3]
      simp [viewA, viewFn, viewC, viewFs, viewCs, viewAs, closedC, closedCs, ← hv, deepW, k3]
termination_by w => SizeOf.sizeOf w
decreasing_by
  simp_wf
  have := List.sizeOf_lt_of_mem hx
  omega

def mayWire (w : Wr) : Bool := rightW w 6 && decide (deepW w 7 ≤ 6)
theorem r1_MayWire_ok (w : Wr) : Pr 81 [.agg w.cells] (bC (mayWire w)) := by
  refine pure_of mixed is_r1_MayWire (by simp [closedAs, closedA, Wr.closed]) fun hl T => ?_
  unfold c_r1_MayWire
  simp only [go_sem, reduceCtorEq, Nat.reduceEqDiff, Nat.reduceAdd, Nat.reduceSub, Nat.reduceMul, Nat.reduceLeDiff, Int.reduceEq, Int.reduceLT, Int.reduceLE, Int.reduceAdd, Int.reduceMul, Int.reduceSub, Int.reduceNeg, Int.reduceToNat, reduceIte, Nat.reduceLT, Wr.closed, Wr.take4, Wr.len4]
  refine callW_pure (r1_right_ok w 6 (by omega) (by omega)) ?_
  cases h : rightW w 6 with
  | false =>
    simp only [go_sem, reduceCtorEq, Nat.reduceEqDiff, Nat.reduceAdd, Nat.reduceSub, Nat.reduceMul, Nat.reduceLeDiff, Int.reduceEq, Int.reduceLT, Int.reduceLE, Int.reduceAdd, Int.reduceMul, Int.reduceSub, Int.reduceNeg, Int.reduceToNat, reduceIte, Nat.reduceLT]
    simp [viewA, viewFn, viewC, viewFs, viewCs, viewAs, closedC, closedCs, mayWire, h]
  | true =>
    simp only [go_sem, reduceCtorEq, Nat.reduceEqDiff, Nat.reduceAdd, Nat.reduceSub, Nat.reduceMul, Nat.reduceLeDiff, Int.reduceEq, Int.reduceLT, Int.reduceLE, Int.reduceAdd, Int.reduceMul, Int.reduceSub, Int.reduceNeg, Int.reduceToNat, reduceIte, Nat.reduceLT, Wr.take4, Wr.len4]
    refine callW_pure (r1_deep_ok w 7 (by omega) (by omega)) ?_
    simp only [go_sem, reduceCtorEq, Nat.reduceEqDiff, Nat.reduceAdd, Nat.reduceSub, Nat.reduceMul, Nat.reduceLeDiff, Int.reduceEq, Int.reduceLT, Int.reduceLE, Int.reduceAdd, Int.reduceMul, Int.reduceSub, Int.reduceNeg, Int.reduceToNat, reduceIte, Nat.reduceLT]
    simp [viewA, viewFn, viewC, viewFs, viewCs, viewAs, closedC, closedCs, mayWire, h]

end Go.Proofs.Ytfbkolkkpkonfaa.Eng
