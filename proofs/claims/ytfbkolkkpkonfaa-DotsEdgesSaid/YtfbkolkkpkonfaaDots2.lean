/- Contracts of the package dots: runs are put in order. No statement of the seat is proved here. -/
import Derived.Test.YtfbkolkkpkonfaaMerge
import Derived.Test.YtfbkolkkpkonfaaLitN
import Derived.Test.YtfbkolkkpkonfaaLayS
namespace Go.Proofs.Ytfbkolkkpkonfaa.Eng
open Go Go.Sort Go.Shelf
set_option linter.unusedVariables false
set_option linter.unusedSimpArgs false

theorem dots_norm_1_ok (a b : Rn) : Pr 70 [.agg a.cells, .agg b.cells] (iC (cmpRun a b)) := by
  refine pure_of mixed is_dots_norm_1 rfl fun hl T => ?_
  unfold c_dots_norm_1
  simp only [go_sem, reduceCtorEq, Nat.reduceEqDiff, Nat.reduceAdd, Nat.reduceSub, Nat.reduceMul, Nat.reduceLeDiff, Int.reduceEq, Int.reduceLT, Int.reduceLE, Int.reduceAdd, Int.reduceMul, Int.reduceSub, Int.reduceNeg, Int.reduceToNat, reduceIte, Nat.reduceLT]
  refine callW_pure (cmp_Compare_int_ok a.dev b.dev) ?_
  simp only [go_sem, reduceCtorEq, Nat.reduceEqDiff, Nat.reduceAdd, Nat.reduceSub, Nat.reduceMul, Nat.reduceLeDiff, Int.reduceEq, Int.reduceLT, Int.reduceLE, Int.reduceAdd, Int.reduceMul, Int.reduceSub, Int.reduceNeg, Int.reduceToNat, reduceIte, Nat.reduceLT]
  refine callW_pure (cmp_Compare_int_ok a.frm b.frm) ?_
  simp only [go_sem, reduceCtorEq, Nat.reduceEqDiff, Nat.reduceAdd, Nat.reduceSub, Nat.reduceMul, Nat.reduceLeDiff, Int.reduceEq, Int.reduceLT, Int.reduceLE, Int.reduceAdd, Int.reduceMul, Int.reduceSub, Int.reduceNeg, Int.reduceToNat, reduceIte, Nat.reduceLT]
  refine callW_pure (cmp_Or_int2_ok (cmpInt a.dev b.dev) (cmpInt a.frm b.frm)) ?_
  simp only [go_sem, reduceCtorEq, Nat.reduceEqDiff, Nat.reduceAdd, Nat.reduceSub, Nat.reduceMul, Nat.reduceLeDiff, Int.reduceEq, Int.reduceLT, Int.reduceLE, Int.reduceAdd, Int.reduceMul, Int.reduceSub, Int.reduceNeg, Int.reduceToNat, reduceIte, Nat.reduceLT]
  simp [viewA, viewFn, viewC, viewFs, viewCs, viewAs, closedC, closedCs, cmpRun]

/-- A clone: a block of its own. -/
theorem slices_Clone_Run_own (l : List Rn) (hs : Sm l) (h0 : l ≠ []) (H : Heap) : CallSound Try.prog 49 [.c (runsC l)] H (.c (.slc H.length 0 l.length 3 false)) (H ++ [{ sz := 3, rows := l.map Rn.cells, own := true, live := true }]) := by
  refine sound_of mixed is_slices_Clone_Run fun T => ?_
  unfold c_slices_Clone_Run
  dsimp only [runsC]
  have hn : (l.map Rn.cells).length = l.length := by simp
  have h1 : l.map Rn.cells ≠ [] := by simpa using h0
  rw [← hn]
  have hs' : (l.map Rn.cells).length ≤ 1000000 := by rw [hn]; exact hs
  generalize l.map Rn.cells = rows at h1 hs'
  cases rows with
  | nil => exact absurd rfl h1
  | cons x rows =>
    have ha : vAppZ 3 24 (.c (.zer 3)) (.c (.lst 3 (x :: rows))) H = some (.c (.slc H.length 0 (x :: rows).length 3 false), H ++ [{ sz := 3, rows := x :: rows }]) := by
      simp only [vAppZ, evApp, Heap.rowsOf, fitsSz, beq_self_eq_true, if_true]
      rw [if_neg (by simp), if_pos (by omega)]
    simp only [go_sem, reduceCtorEq, Nat.reduceEqDiff, Nat.reduceAdd, Nat.reduceSub, Nat.reduceMul, Nat.reduceLeDiff, Int.reduceEq, Int.reduceLT, Int.reduceLE, Int.reduceAdd, Int.reduceMul, Int.reduceSub, Int.reduceNeg, Int.reduceToNat, reduceIte, Nat.reduceLT, bne_self_eq_false, ha]

theorem slices_Clone_Run_ok (l : List Rn) (hs : Sm l) : Pr 49 [.c (runsC l)] (.c (runsC l)) := by
  by_cases h0 : l = []
  · subst h0
    intro H
    refine CallSound.empty (pre := []) (post := []) ?_ ?_
    · refine Pure.wkr (v := .c .nilS) (pure_of mixed is_slices_Clone_Run rfl fun hl T => ?_) (.c (.nilS _)) H
      unfold c_slices_Clone_Run
      simp only [go_sem, reduceCtorEq, Nat.reduceEqDiff, Nat.reduceAdd, Nat.reduceSub, Nat.reduceMul, Nat.reduceLeDiff, Int.reduceEq, Int.reduceLT, Int.reduceLE, Int.reduceAdd, Int.reduceMul, Int.reduceSub, Int.reduceNeg, Int.reduceToNat, reduceIte, Nat.reduceLT, bne_self_eq_false]
      refine condW_true ?_
      simp only [go_sem, reduceCtorEq, Nat.reduceEqDiff, Nat.reduceAdd, Nat.reduceSub, Nat.reduceMul, Nat.reduceLeDiff, Int.reduceEq, Int.reduceLT, Int.reduceLE, Int.reduceAdd, Int.reduceMul, Int.reduceSub, Int.reduceNeg, Int.reduceToNat, reduceIte, Nat.reduceLT]
      simp [viewA, viewFn, viewC, viewFs, viewCs, viewAs, closedC, closedCs]
    · refine Pure.wkr (v := .c (.zer 3)) (pure_of mixed is_slices_Clone_Run rfl fun hl T => ?_) (.c (.zer _)) H
      unfold c_slices_Clone_Run
      have ha : vAppZ 3 24 (.c (.zer 3)) (.c (.emp 3)) [] = some (.c (.zer 3), []) := rfl
      simp only [go_sem, reduceCtorEq, Nat.reduceEqDiff, Nat.reduceAdd, Nat.reduceSub, Nat.reduceMul, Nat.reduceLeDiff, Int.reduceEq, Int.reduceLT, Int.reduceLE, Int.reduceAdd, Int.reduceMul, Int.reduceSub, Int.reduceNeg, Int.reduceToNat, reduceIte, Nat.reduceLT, bne_self_eq_false, ha]
      simp [viewA, viewFn, viewC, viewFs, viewCs, viewAs, closedC, closedCs]
  · refine (slices_Clone_Run_own l hs h0 []).pure (by simp [closedAs, closedA, closed_runsC]) ?_
    simp only [viewA, viewFn, viewC]
    have ht : (l.map Rn.cells).take l.length = l.map Rn.cells := List.take_of_length_le (by simp)
    simp [closed_runs, h0, runsC, ht]

theorem Rn.cells_det (x : Rn) (m : LMap) (σ : Mem) (vs : List Value) (h : All2 (VR m σ) x.cells vs) : vs = [.int .i64 x.dev, .int .i64 x.frm, .int .i64 x.to] := by
  unfold Rn.cells at h
  cases h with
  | cons a h => cases h with
    | cons b h => cases h with
      | cons c h => cases h; cases a; cases b; cases c; rfl

theorem SortFunc_Run_own {l : List Rn} {H : Heap} {b : Nat} (hs : Sm l) (h0 : l ≠ []) (hb : H[b]? = some { sz := 3, rows := l.map Rn.cells, own := true, live := true }) :
    CallSound Try.prog 69 [.c (.slc b 0 l.length 3 false), .c (.fn 70 [])] H (.tup []) (H.set b { sz := 3, rows := (sortL cmpRun l).map Rn.cells, own := true, live := true }) :=
  sort_sound (P := Try.prog) laySortRun (k := 3) (by kernel_rfl) (by kernel_rfl) (by omega) (f := Rn.cells) (enc := fun x => [.int .i64 x.dev, .int .i64 x.frm, .int .i64 x.to]) (fun _ => rfl)
    (fun x m σ => .cons (.int _ _) (.cons (.int _ _) (.cons (.int _ _) .nil))) Rn.cells_det cmpRun_swo dots_norm_1_ok hb (by omega) h0

end Go.Proofs.Ytfbkolkkpkonfaa.Eng
