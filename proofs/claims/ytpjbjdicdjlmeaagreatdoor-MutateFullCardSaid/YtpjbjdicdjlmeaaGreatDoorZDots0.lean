/- Contracts of the package dots: what tells. No statement of the seat is proved here. -/
import Derived.Test.YtpjbjdicdjlmeaaGreatDoorZPartC
import Derived.Test.YtpjbjdicdjlmeaaGreatDoorZLitD
namespace Go.Proofs.YtpjbjdicdjlmeaaGreatDoor.Eng
open Go
set_option linter.unusedVariables false
set_option linter.unusedSimpArgs false

theorem dots_right_ok (r : Rn) : Pr 29 [.agg r.cells] (bC r.right) := by
  obtain ⟨d, f, t⟩ := r
  refine pure_of mixed is_dots_right rfl fun hl T => ?_
  unfold c_dots_right
  dsimp only [Rn.cells]
  simp only [go_sem, reduceCtorEq, Nat.reduceEqDiff, Nat.reduceAdd, Nat.reduceSub, Nat.reduceMul, Nat.reduceLeDiff, Int.reduceEq, Int.reduceLT, Int.reduceLE, Int.reduceAdd, Int.reduceMul, Int.reduceSub, Int.reduceNeg, Int.reduceToNat, reduceIte, Nat.reduceLT]
  repeat' (first | (first | refine guardW_split (fun h => ?_) (fun h => ?_) | refine condW_split (fun h => ?_) (fun h => ?_) | refine guardW_nsplit (fun h => ?_) (fun h => ?_) | refine condW_nsplit (fun h => ?_) (fun h => ?_) | refine guardW_nbool (fun h => ?_) (fun h => ?_) | refine condW_ncases (fun h => ?_) (fun h => ?_) | refine guardW_bool (fun h => ?_) (fun h => ?_) | refine condW_cases (fun h => ?_) (fun h => ?_)) | simp only [go_sem, reduceCtorEq, Nat.reduceEqDiff, Nat.reduceAdd, Nat.reduceSub, Nat.reduceMul, Nat.reduceLeDiff, Int.reduceEq, Int.reduceLT, Int.reduceLE, Int.reduceAdd, Int.reduceMul, Int.reduceSub, Int.reduceNeg, Int.reduceToNat, reduceIte, Nat.reduceLT, *])
  all_goals simp [viewA, viewFn, viewC, viewFs, viewCs, viewAs, closedC, closedCs, Rn.right, *]

theorem dots_Has_1_ok (r : Rn) (d : Dot) : Pr 55 [.agg r.cells, .c (.fp d.cells 0)] (bC (r.has d)) := by
  refine pure_of mixed is_dots_Has_1 rfl fun hl T => ?_
  unfold c_dots_Has_1
  simp only [go_sem, reduceCtorEq, Nat.reduceEqDiff, Nat.reduceAdd, Nat.reduceSub, Nat.reduceMul, Nat.reduceLeDiff, Int.reduceEq, Int.reduceLT, Int.reduceLE, Int.reduceAdd, Int.reduceMul, Int.reduceSub, Int.reduceNeg, Int.reduceToNat, reduceIte, Nat.reduceLT]
  repeat' (first | (first | refine guardW_split (fun h => ?_) (fun h => ?_) | refine condW_split (fun h => ?_) (fun h => ?_) | refine guardW_nsplit (fun h => ?_) (fun h => ?_) | refine condW_nsplit (fun h => ?_) (fun h => ?_) | refine guardW_nbool (fun h => ?_) (fun h => ?_) | refine condW_ncases (fun h => ?_) (fun h => ?_) | refine guardW_bool (fun h => ?_) (fun h => ?_) | refine condW_cases (fun h => ?_) (fun h => ?_)) | simp only [go_sem, reduceCtorEq, Nat.reduceEqDiff, Nat.reduceAdd, Nat.reduceSub, Nat.reduceMul, Nat.reduceLeDiff, Int.reduceEq, Int.reduceLT, Int.reduceLE, Int.reduceAdd, Int.reduceMul, Int.reduceSub, Int.reduceNeg, Int.reduceToNat, reduceIte, Nat.reduceLT, *])
  all_goals simp [viewA, viewFn, viewC, viewFs, viewCs, viewAs, closedC, closedCs, Rn.has, *]

/-- The place of the first for which 'p' holds, or -1. -/
def firstAt (p : List Cell → Bool) (n : Int) : List (List Cell) → Int
  | [] => -1
  | r :: rest => if p r then n else firstAt p (n + 1) rest
theorem firstAt_nonneg {p : List Cell → Bool} : ∀ {rows : List (List Cell)} {n : Int}, 0 ≤ n → (0 ≤ firstAt p n rows ↔ rows.any p = true)
  | [], n, hn => by simp [firstAt]
  | r :: rest, n, hn => by
    simp only [firstAt, List.any_cons, Bool.or_eq_true]
    split
    · rename_i h; simp [h, hn]
    · rename_i h; rw [firstAt_nonneg (by omega)]; simp [h]

theorem slices_IndexFunc_Run_ok (rows : List (List Cell)) (g : Nat) (caps : List Cell) (p : List Cell → Bool) (hcl : closedR rows = true) (hcc : closedCs caps = true) (h3 : ∀ r ∈ rows, r.length = 3)
    (hg : ∀ r ∈ rows, Pr g (.agg r :: caps.map .c) (bC (p r))) : Pr 75 [.c (.lst 3 rows), .c (.fn g caps)] (iC (firstAt p 0 rows)) := by
  refine pure_of mixed is_slices_IndexFunc_Run (by simp [closedAs, closedA, closedC, hcl, hcc]) fun hl T => ?_
  have hlen : rows.length ≤ maxLen := by simp [lenAs, lenA, lenC] at hl; exact hl
  unfold c_slices_IndexFunc_Run
  generalize hv : firstAt p 0 rows = v
  simp only [go_sem, reduceCtorEq, Nat.reduceEqDiff, Nat.reduceAdd, Nat.reduceSub, Nat.reduceMul, Nat.reduceLeDiff, Int.reduceEq, Int.reduceLT, Int.reduceLE, Int.reduceAdd, Int.reduceMul, Int.reduceSub, Int.reduceNeg, Int.reduceToNat, reduceIte, Nat.reduceLT]
  have loop : ∀ (rest pre : List (List Cell)) (e : Env) (H : Heap), rows = pre ++ rest → e 0 = .c (.lst 3 rows) → e 1 = .c (.fn g caps) → e 7 = iC rows.length → e 8 = iC pre.length →
      firstAt p pre.length rest = v → Run (progT Tryz.prog T) ⟨[.tmp 4], fun u E => viewA E u = some (iC v)⟩ [.loop slices_IndexFunc_Run_L0, .blk 0, .code slices_IndexFunc_Run_K1] e H := by
    intro rest
    induction rest with
    | nil =>
      intro pre e H hp h0 h1 h7 h8 hm
      have hc : ¬ ((pre.length : Int) < (rows.length : Int)) := by rw [hp]; simp
      refine run_again ?_
      conv => enter [3, 1]; unfold slices_IndexFunc_Run_L0
      simp only [go_sem, reduceCtorEq, Nat.reduceEqDiff, Nat.reduceAdd, Nat.reduceSub, Nat.reduceMul, Nat.reduceLeDiff, Int.reduceEq, Int.reduceLT, Int.reduceLE, Int.reduceAdd, Int.reduceMul, Int.reduceSub, Int.reduceNeg, Int.reduceToNat, reduceIte, Nat.reduceLT, h0, h1, h7, h8, hc]
      unfold slices_IndexFunc_Run_K1
      simp only [go_sem, reduceCtorEq, Nat.reduceEqDiff, Nat.reduceAdd, Nat.reduceSub, Nat.reduceMul, Nat.reduceLeDiff, Int.reduceEq, Int.reduceLT, Int.reduceLE, Int.reduceAdd, Int.reduceMul, Int.reduceSub, Int.reduceNeg, Int.reduceToNat, reduceIte, Nat.reduceLT]
      simp [viewA, viewFn, viewC, viewFs, viewCs, viewAs, closedC, closedCs, ← hm, firstAt]
    | cons r rest ih =>
      intro pre e H hp h0 h1 h7 h8 hm
      have hc : ((pre.length : Int) < (rows.length : Int)) := by rw [hp]; simp; omega
      have hr : rows[pre.length]? = some r := by rw [hp]; simp
      have hrm : r ∈ rows := by rw [hp]; simp
      have hr3 := h3 r hrm
      have hn := next_at hp hlen
      refine run_again ?_
      conv => enter [3, 1]; unfold slices_IndexFunc_Run_L0
      simp only [go_sem, reduceCtorEq, Nat.reduceEqDiff, Nat.reduceAdd, Nat.reduceSub, Nat.reduceMul, Nat.reduceLeDiff, Int.reduceEq, Int.reduceLT, Int.reduceLE, Int.reduceAdd, Int.reduceMul, Int.reduceSub, Int.reduceNeg, Int.reduceToNat, reduceIte, Nat.reduceLT, h0, h1, h7, h8, hc, hr, hr3, List.take_of_length_le (Nat.le_of_eq hr3)]
      refine callW_pure (hg r hrm) ?_
      simp only [go_sem, reduceCtorEq, Nat.reduceEqDiff, Nat.reduceAdd, Nat.reduceSub, Nat.reduceMul, Nat.reduceLeDiff, Int.reduceEq, Int.reduceLT, Int.reduceLE, Int.reduceAdd, Int.reduceMul, Int.reduceSub, Int.reduceNeg, Int.reduceToNat, reduceIte, Nat.reduceLT]
      cases hpr : p r with
      | true =>
        simp only [go_sem, reduceCtorEq, Nat.reduceEqDiff, Nat.reduceAdd, Nat.reduceSub, Nat.reduceMul, Nat.reduceLeDiff, Int.reduceEq, Int.reduceLT, Int.reduceLE, Int.reduceAdd, Int.reduceMul, Int.reduceSub, Int.reduceNeg, Int.reduceToNat, reduceIte, Nat.reduceLT]
        simp [viewA, viewFn, viewC, viewFs, viewCs, viewAs, closedC, closedCs, ← hm, firstAt, hpr]
      | false =>
        simp only [go_sem, reduceCtorEq, Nat.reduceEqDiff, Nat.reduceAdd, Nat.reduceSub, Nat.reduceMul, Nat.reduceLeDiff, Int.reduceEq, Int.reduceLT, Int.reduceLE, Int.reduceAdd, Int.reduceMul, Int.reduceSub, Int.reduceNeg, Int.reduceToNat, reduceIte, Nat.reduceLT, h8, hn]
        refine ih (pre ++ [r]) _ _ (by simp [hp]) ?_ ?_ ?_ ?_ ?_
        all_goals first | (simp only [go_sem, reduceCtorEq, Nat.reduceEqDiff, Nat.reduceAdd, Nat.reduceSub, Nat.reduceMul, Nat.reduceLeDiff, Int.reduceEq, Int.reduceLT, Int.reduceLE, Int.reduceAdd, Int.reduceMul, Int.reduceSub, Int.reduceNeg, Int.reduceToNat, reduceIte, Nat.reduceLT, h0, h1, h7]; done) | (simp [← hm, firstAt, hpr]; done)
  exact loop rows [] _ _ rfl rfl rfl rfl rfl hv

theorem slices_ContainsFunc_Run_ok (rows : List (List Cell)) (g : Nat) (caps : List Cell) (p : List Cell → Bool) (hcl : closedR rows = true) (hcc : closedCs caps = true) (h3 : ∀ r ∈ rows, r.length = 3)
    (hg : ∀ r ∈ rows, Pr g (.agg r :: caps.map .c) (bC (p r))) : Pr 54 [.c (.lst 3 rows), .c (.fn g caps)] (bC (rows.any p)) := by
  refine pure_of mixed is_slices_ContainsFunc_Run (by simp [closedAs, closedA, closedC, hcl, hcc]) fun hl T => ?_
  unfold c_slices_ContainsFunc_Run
  simp only [go_sem, reduceCtorEq, Nat.reduceEqDiff, Nat.reduceAdd, Nat.reduceSub, Nat.reduceMul, Nat.reduceLeDiff, Int.reduceEq, Int.reduceLT, Int.reduceLE, Int.reduceAdd, Int.reduceMul, Int.reduceSub, Int.reduceNeg, Int.reduceToNat, reduceIte, Nat.reduceLT]
  refine callW_pure (slices_IndexFunc_Run_ok rows g caps p hcl hcc h3 hg) ?_
  simp only [go_sem, reduceCtorEq, Nat.reduceEqDiff, Nat.reduceAdd, Nat.reduceSub, Nat.reduceMul, Nat.reduceLeDiff, Int.reduceEq, Int.reduceLT, Int.reduceLE, Int.reduceAdd, Int.reduceMul, Int.reduceSub, Int.reduceNeg, Int.reduceToNat, reduceIte, Nat.reduceLT]
  have := firstAt_nonneg (p := p) (rows := rows) (n := 0) (by omega)
  by_cases h : rows.any p = true
  · simp [viewA, viewFn, viewC, viewFs, viewCs, viewAs, closedC, closedCs, h, this]
  · simp [viewA, viewFn, viewC, viewFs, viewCs, viewAs, closedC, closedCs, h, this]

theorem dots_Has_ok (l : List Rn) (d : Dot) : Pr 46 [.c (runsC l), .agg d.cells] (bC (hasDot l d)) := by
  refine pure_of mixed is_dots_Has (by simp [closedAs, closedA, closed_runsC, Dot.closed]) fun hl T => ?_
  unfold c_dots_Has
  dsimp only [runsC]
  simp only [go_sem, reduceCtorEq, Nat.reduceEqDiff, Nat.reduceAdd, Nat.reduceSub, Nat.reduceMul, Nat.reduceLeDiff, Int.reduceEq, Int.reduceLT, Int.reduceLE, Int.reduceAdd, Int.reduceMul, Int.reduceSub, Int.reduceNeg, Int.reduceToNat, reduceIte, Nat.reduceLT]
  have hc := slices_ContainsFunc_Run_ok (l.map Rn.cells) 55 [.fp d.cells 0] (fun r => match r with | [.int _ a, .int _ b, .int _ c] => Rn.has ⟨a, b, c⟩ d | _ => false) (closed_runs l) rfl (by simp [Rn.cells])
    (by intro r hr; simp at hr; obtain ⟨q, hq, rfl⟩ := hr; exact dots_Has_1_ok q d)
  refine callW_pure hc ?_
  simp only [go_sem, reduceCtorEq, Nat.reduceEqDiff, Nat.reduceAdd, Nat.reduceSub, Nat.reduceMul, Nat.reduceLeDiff, Int.reduceEq, Int.reduceLT, Int.reduceLE, Int.reduceAdd, Int.reduceMul, Int.reduceSub, Int.reduceNeg, Int.reduceToNat, reduceIte, Nat.reduceLT]
  simp [viewA, viewFn, viewC, viewFs, viewCs, viewAs, closedC, closedCs, hasDot, List.any_map, Function.comp_def, Rn.cells]

end Go.Proofs.YtpjbjdicdjlmeaaGreatDoor.Eng
