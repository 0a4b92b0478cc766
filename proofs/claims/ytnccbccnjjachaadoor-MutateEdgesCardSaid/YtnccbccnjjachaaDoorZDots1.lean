/- Contracts of the package dots and of the document's answer: what tells two lists apart. No statement of the seat is proved here. -/
import Derived.Test.YtnccbccnjjachaaDoorZDots0
namespace Go.Proofs.YtnccbccnjjachaaDoor.Eng
open Go
set_option linter.unusedVariables false
set_option linter.unusedSimpArgs false

theorem eqS_run {neg : Bool} {r q : Rn} {H : Heap} : vEqS neg [0, 0, 0] (.agg [.int .i64 r.dev, .int .i64 r.frm, .int .i64 r.to]) (.agg [.int .i64 q.dev, .int .i64 q.frm, .int .i64 q.to]) H = some (bC (neg != decide (r = q)), H) := by
  obtain ⟨a, b, c⟩ := r
  obtain ⟨a', b', c'⟩ := q
  simp [vEqS, evEqCells, evEqCell, Bool.and_assoc, Bool.decide_and]

theorem cmp_isNaN_int_ok (n : Int) : Pr 48 [iC n] (bC false) := by
  refine pure_of mixed is_cmp_isNaN_int rfl fun hl T => ?_
  unfold c_cmp_isNaN_int
  simp only [go_sem, reduceCtorEq, Nat.reduceEqDiff, Nat.reduceAdd, Nat.reduceSub, Nat.reduceMul, Nat.reduceLeDiff, Int.reduceEq, Int.reduceLT, Int.reduceLE, Int.reduceAdd, Int.reduceMul, Int.reduceSub, Int.reduceNeg, Int.reduceToNat, reduceIte, Nat.reduceLT]
  simp [viewA, viewFn, viewC, viewFs, viewCs, viewAs, closedC, closedCs]

def cmpInt (a b : Int) : Int := if a < b then -1 else if b < a then 1 else 0

theorem cmp_Compare_int_ok (a b : Int) : Pr 41 [iC a, iC b] (iC (cmpInt a b)) := by
  refine pure_of mixed is_cmp_Compare_int rfl fun hl T => ?_
  unfold c_cmp_Compare_int
  simp only [go_sem, reduceCtorEq, Nat.reduceEqDiff, Nat.reduceAdd, Nat.reduceSub, Nat.reduceMul, Nat.reduceLeDiff, Int.reduceEq, Int.reduceLT, Int.reduceLE, Int.reduceAdd, Int.reduceMul, Int.reduceSub, Int.reduceNeg, Int.reduceToNat, reduceIte, Nat.reduceLT]
  refine callW_pure (cmp_isNaN_int_ok a) ?_
  simp only [go_sem, reduceCtorEq, Nat.reduceEqDiff, Nat.reduceAdd, Nat.reduceSub, Nat.reduceMul, Nat.reduceLeDiff, Int.reduceEq, Int.reduceLT, Int.reduceLE, Int.reduceAdd, Int.reduceMul, Int.reduceSub, Int.reduceNeg, Int.reduceToNat, reduceIte, Nat.reduceLT]
  refine callW_pure (cmp_isNaN_int_ok b) ?_
  simp only [go_sem, reduceCtorEq, Nat.reduceEqDiff, Nat.reduceAdd, Nat.reduceSub, Nat.reduceMul, Nat.reduceLeDiff, Int.reduceEq, Int.reduceLT, Int.reduceLE, Int.reduceAdd, Int.reduceMul, Int.reduceSub, Int.reduceNeg, Int.reduceToNat, reduceIte, Nat.reduceLT]
  repeat' (first | (first | refine guardW_split (fun h => ?_) (fun h => ?_) | refine condW_split (fun h => ?_) (fun h => ?_) | refine guardW_nsplit (fun h => ?_) (fun h => ?_) | refine condW_nsplit (fun h => ?_) (fun h => ?_) | refine guardW_nbool (fun h => ?_) (fun h => ?_) | refine condW_ncases (fun h => ?_) (fun h => ?_) | refine guardW_bool (fun h => ?_) (fun h => ?_) | refine condW_cases (fun h => ?_) (fun h => ?_)) | simp only [go_sem, reduceCtorEq, Nat.reduceEqDiff, Nat.reduceAdd, Nat.reduceSub, Nat.reduceMul, Nat.reduceLeDiff, Int.reduceEq, Int.reduceLT, Int.reduceLE, Int.reduceAdd, Int.reduceMul, Int.reduceSub, Int.reduceNeg, Int.reduceToNat, reduceIte, Nat.reduceLT, *])
  all_goals simp [viewA, viewFn, viewC, viewFs, viewCs, viewAs, closedC, closedCs, cmpInt, *]

theorem cmp_Or_int2_ok (a b : Int) : Pr 40 [.c (.lst 1 [[.int .i64 a], [.int .i64 b]])] (iC (if a = 0 then b else a)) := by
  refine pure_of mixed is_cmp_Or_int rfl fun hl T => ?_
  unfold c_cmp_Or_int
  have i0 : ∀ H : Heap, vIx 1 (.c (.lst 1 [[.int .i64 a], [.int .i64 b]])) (iC 0) H = some (.c (.fp [.int .i64 a] 0), H) := fun _ => rfl
  have i1 : ∀ H : Heap, vIx 1 (.c (.lst 1 [[.int .i64 a], [.int .i64 b]])) (iC 1) H = some (.c (.fp [.int .i64 b] 0), H) := fun _ => rfl
  have w1 : IntKind.wrap .i64 1 = 1 := by decide
  have w2 : IntKind.wrap .i64 2 = 2 := by decide
  have n2 : ((2 : Nat) : Int) = 2 := rfl
  simp only [go_sem, reduceCtorEq, Nat.reduceEqDiff, Nat.reduceAdd, Nat.reduceSub, Nat.reduceMul, Nat.reduceLeDiff, Int.reduceEq, Int.reduceLT, Int.reduceLE, Int.reduceAdd, Int.reduceMul, Int.reduceSub, Int.reduceNeg, Int.reduceToNat, reduceIte, Nat.reduceLT]
  refine run_again ?_
  conv => enter [3, 1]; unfold cmp_Or_int_L0
  simp only [go_sem, reduceCtorEq, Nat.reduceEqDiff, Nat.reduceAdd, Nat.reduceSub, Nat.reduceMul, Nat.reduceLeDiff, Int.reduceEq, Int.reduceLT, Int.reduceLE, Int.reduceAdd, Int.reduceMul, Int.reduceSub, Int.reduceNeg, Int.reduceToNat, reduceIte, Nat.reduceLT, n2, i0]
  by_cases ha : a = 0
  · simp only [go_sem, reduceCtorEq, Nat.reduceEqDiff, Nat.reduceAdd, Nat.reduceSub, Nat.reduceMul, Nat.reduceLeDiff, Int.reduceEq, Int.reduceLT, Int.reduceLE, Int.reduceAdd, Int.reduceMul, Int.reduceSub, Int.reduceNeg, Int.reduceToNat, reduceIte, Nat.reduceLT, ha, w1]
    refine run_again ?_
    conv => enter [3, 1]; unfold cmp_Or_int_L0
    simp only [ha] at i1
    simp only [go_sem, reduceCtorEq, Nat.reduceEqDiff, Nat.reduceAdd, Nat.reduceSub, Nat.reduceMul, Nat.reduceLeDiff, Int.reduceEq, Int.reduceLT, Int.reduceLE, Int.reduceAdd, Int.reduceMul, Int.reduceSub, Int.reduceNeg, Int.reduceToNat, reduceIte, Nat.reduceLT, n2, i1]
    by_cases hb : b = 0
    · simp only [go_sem, reduceCtorEq, Nat.reduceEqDiff, Nat.reduceAdd, Nat.reduceSub, Nat.reduceMul, Nat.reduceLeDiff, Int.reduceEq, Int.reduceLT, Int.reduceLE, Int.reduceAdd, Int.reduceMul, Int.reduceSub, Int.reduceNeg, Int.reduceToNat, reduceIte, Nat.reduceLT, hb, w2]
      refine run_again ?_
      conv => enter [3, 1]; unfold cmp_Or_int_L0
      simp only [go_sem, reduceCtorEq, Nat.reduceEqDiff, Nat.reduceAdd, Nat.reduceSub, Nat.reduceMul, Nat.reduceLeDiff, Int.reduceEq, Int.reduceLT, Int.reduceLE, Int.reduceAdd, Int.reduceMul, Int.reduceSub, Int.reduceNeg, Int.reduceToNat, reduceIte, Nat.reduceLT, n2]
      unfold cmp_Or_int_K1
      simp only [go_sem, reduceCtorEq, Nat.reduceEqDiff, Nat.reduceAdd, Nat.reduceSub, Nat.reduceMul, Nat.reduceLeDiff, Int.reduceEq, Int.reduceLT, Int.reduceLE, Int.reduceAdd, Int.reduceMul, Int.reduceSub, Int.reduceNeg, Int.reduceToNat, reduceIte, Nat.reduceLT]
      simp [viewA, viewFn, viewC, viewFs, viewCs, viewAs, closedC, closedCs]
    · simp only [go_sem, reduceCtorEq, Nat.reduceEqDiff, Nat.reduceAdd, Nat.reduceSub, Nat.reduceMul, Nat.reduceLeDiff, Int.reduceEq, Int.reduceLT, Int.reduceLE, Int.reduceAdd, Int.reduceMul, Int.reduceSub, Int.reduceNeg, Int.reduceToNat, reduceIte, Nat.reduceLT, hb]
      simp [viewA, viewFn, viewC, viewFs, viewCs, viewAs, closedC, closedCs]
  · simp only [go_sem, reduceCtorEq, Nat.reduceEqDiff, Nat.reduceAdd, Nat.reduceSub, Nat.reduceMul, Nat.reduceLeDiff, Int.reduceEq, Int.reduceLT, Int.reduceLE, Int.reduceAdd, Int.reduceMul, Int.reduceSub, Int.reduceNeg, Int.reduceToNat, reduceIte, Nat.reduceLT, ha]
    simp [viewA, viewFn, viewC, viewFs, viewCs, viewAs, closedC, closedCs, ha]

end Go.Proofs.YtnccbccnjjachaaDoor.Eng
