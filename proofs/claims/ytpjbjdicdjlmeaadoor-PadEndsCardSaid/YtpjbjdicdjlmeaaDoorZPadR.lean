/- Contracts of the package pad: Bucket, Pad. No statement of the seat is proved here. -/
import Derived.Test.YtpjbjdicdjlmeaaDoorZRepS
import Derived.Test.YtpjbjdicdjlmeaaDoorZLitP
namespace Go.Proofs.YtpjbjdicdjlmeaaDoor.Eng
open Go
set_option linter.unusedVariables false
set_option linter.unusedSimpArgs false

/-- The bucket of a length. -/
def bucketI (n : Int) : Int :=
  if n < 0 ∨ 16384 ≤ n then 0 else if 4096 ≤ n then 16384 else if 1024 ≤ n then 4096 else if 256 ≤ n then 1024 else if 64 ≤ n then 256 else 64

theorem pad_Bucket_ok (n : Int) : Pr 7 [iC n] (iC (bucketI n)) := by
  refine pure_of mixed is_pad_Bucket rfl fun hl T => ?_
  unfold c_pad_Bucket
  unfold bucketI
  simp only [go_sem, reduceCtorEq, Nat.reduceEqDiff, Nat.reduceAdd, Nat.reduceSub, Nat.reduceMul, Nat.reduceLeDiff, Int.reduceEq, Int.reduceLT, Int.reduceLE, Int.reduceAdd, Int.reduceMul, Int.reduceSub, Int.reduceNeg, Int.reduceToNat, reduceIte, Nat.reduceLT]
  by_cases h0 : n < 0
  · simp [go_sem, reduceCtorEq, Nat.reduceEqDiff, Nat.reduceAdd, Nat.reduceSub, Nat.reduceMul, Nat.reduceLeDiff, Int.reduceEq, Int.reduceLT, Int.reduceLE, Int.reduceAdd, Int.reduceMul, Int.reduceSub, Int.reduceNeg, Int.reduceToNat, reduceIte, Nat.reduceLT, h0, viewA, viewFn, viewC, viewFs, viewCs, viewAs, closedC, closedCs]
  by_cases h1 : 16384 ≤ n
  · simp [go_sem, reduceCtorEq, Nat.reduceEqDiff, Nat.reduceAdd, Nat.reduceSub, Nat.reduceMul, Nat.reduceLeDiff, Int.reduceEq, Int.reduceLT, Int.reduceLE, Int.reduceAdd, Int.reduceMul, Int.reduceSub, Int.reduceNeg, Int.reduceToNat, reduceIte, Nat.reduceLT, h0, h1, viewA, viewFn, viewC, viewFs, viewCs, viewAs, closedC, closedCs]
  by_cases h2 : 4096 ≤ n
  · simp [go_sem, reduceCtorEq, Nat.reduceEqDiff, Nat.reduceAdd, Nat.reduceSub, Nat.reduceMul, Nat.reduceLeDiff, Int.reduceEq, Int.reduceLT, Int.reduceLE, Int.reduceAdd, Int.reduceMul, Int.reduceSub, Int.reduceNeg, Int.reduceToNat, reduceIte, Nat.reduceLT, h0, h1, h2, viewA, viewFn, viewC, viewFs, viewCs, viewAs, closedC, closedCs]
    rfl
  by_cases h3 : 1024 ≤ n
  · simp [go_sem, reduceCtorEq, Nat.reduceEqDiff, Nat.reduceAdd, Nat.reduceSub, Nat.reduceMul, Nat.reduceLeDiff, Int.reduceEq, Int.reduceLT, Int.reduceLE, Int.reduceAdd, Int.reduceMul, Int.reduceSub, Int.reduceNeg, Int.reduceToNat, reduceIte, Nat.reduceLT, h0, h1, h2, h3, viewA, viewFn, viewC, viewFs, viewCs, viewAs, closedC, closedCs]
    rfl
  by_cases h4 : 256 ≤ n
  · simp [go_sem, reduceCtorEq, Nat.reduceEqDiff, Nat.reduceAdd, Nat.reduceSub, Nat.reduceMul, Nat.reduceLeDiff, Int.reduceEq, Int.reduceLT, Int.reduceLE, Int.reduceAdd, Int.reduceMul, Int.reduceSub, Int.reduceNeg, Int.reduceToNat, reduceIte, Nat.reduceLT, h0, h1, h2, h3, h4, viewA, viewFn, viewC, viewFs, viewCs, viewAs, closedC, closedCs]
    rfl
  by_cases h5 : 64 ≤ n
  · simp [go_sem, reduceCtorEq, Nat.reduceEqDiff, Nat.reduceAdd, Nat.reduceSub, Nat.reduceMul, Nat.reduceLeDiff, Int.reduceEq, Int.reduceLT, Int.reduceLE, Int.reduceAdd, Int.reduceMul, Int.reduceSub, Int.reduceNeg, Int.reduceToNat, reduceIte, Nat.reduceLT, h0, h1, h2, h3, h4, h5, viewA, viewFn, viewC, viewFs, viewCs, viewAs, closedC, closedCs]
    rfl
  · simp [go_sem, reduceCtorEq, Nat.reduceEqDiff, Nat.reduceAdd, Nat.reduceSub, Nat.reduceMul, Nat.reduceLeDiff, Int.reduceEq, Int.reduceLT, Int.reduceLE, Int.reduceAdd, Int.reduceMul, Int.reduceSub, Int.reduceNeg, Int.reduceToNat, reduceIte, Nat.reduceLT, h0, h1, h2, h3, h4, h5, viewA, viewFn, viewC, viewFs, viewCs, viewAs, closedC, closedCs]

theorem bucketI_cases (n : Int) : bucketI n = 0 ∨ (n < bucketI n ∧ 0 ≤ n ∧ bucketI n ≤ 16384) := by
  unfold bucketI
  repeat' split
  all_goals omega

/-- A text that is padded. -/
def padS (s : ByteArray) : ByteArray := s ++ ⟨#[128]⟩ ++ repS ⟨#[0]⟩ ((bucketI s.size).toNat - s.size - 1)

theorem padS_size {s : ByteArray} (h : bucketI s.size ≠ 0) : ((padS s).size : Int) = bucketI s.size := by
  obtain ⟨h1, h2, h3⟩ := (bucketI_cases s.size).resolve_left h
  simp only [padS, ByteArray.size_append, repS_size]
  show ((s.size + 1 + (_ - s.size - 1) * 1 : Nat) : Int) = _
  omega

theorem l5_awake_ok : Pr 4 [] (bC true) := by
  refine pure_of mixed is_l5_awake rfl fun hl T => ?_
  unfold c_l5_awake
  simp only [go_sem, reduceCtorEq, Nat.reduceEqDiff, Nat.reduceAdd, Nat.reduceSub, Nat.reduceMul, Nat.reduceLeDiff, Int.reduceEq, Int.reduceLT, Int.reduceLE, Int.reduceAdd, Int.reduceMul, Int.reduceSub, Int.reduceNeg, Int.reduceToNat, reduceIte, Nat.reduceLT]
  refine callW_pure (pad_Bucket_ok 63) ?_
  have h1 : bucketI 63 = 64 := rfl
  have h2 : bucketI 64 = 256 := rfl
  simp only [go_sem, reduceCtorEq, Nat.reduceEqDiff, Nat.reduceAdd, Nat.reduceSub, Nat.reduceMul, Nat.reduceLeDiff, Int.reduceEq, Int.reduceLT, Int.reduceLE, Int.reduceAdd, Int.reduceMul, Int.reduceSub, Int.reduceNeg, Int.reduceToNat, reduceIte, Nat.reduceLT, h1]
  refine callW_pure (pad_Bucket_ok 64) ?_
  simp [go_sem, reduceCtorEq, Nat.reduceEqDiff, Nat.reduceAdd, Nat.reduceSub, Nat.reduceMul, Nat.reduceLeDiff, Int.reduceEq, Int.reduceLT, Int.reduceLE, Int.reduceAdd, Int.reduceMul, Int.reduceSub, Int.reduceNeg, Int.reduceToNat, reduceIte, Nat.reduceLT, h2, viewA, viewFn, viewC, viewFs, viewCs, viewAs, closedC, closedCs]

end Go.Proofs.YtpjbjdicdjlmeaaDoor.Eng
