/- Contracts of the laws' own lists of dots. No statement of the seat is proved here. -/
import Derived.Test.YtfbkolkkpkonfaaZLawDA0
import Derived.Test.YtfbkolkkpkonfaaZListD
namespace Go.Proofs.Ytfbkolkkpkonfaa.Eng
open Go
set_option linter.unusedVariables false
set_option linter.unusedSimpArgs false

def makeL (l : List Nat) : List Rn := dotsL (listD l)
theorem makeL_ok (l : List Nat) : Norm (makeL l) ∧ (makeL l).length ≤ l.length ∧ ∀ d, hasDot (makeL l) d = decide (d ∈ listD l) := by
  obtain ⟨h1, h2⟩ := dotsL_ok (listD l)
  have h3 := dotsL_len (listD l)
  refine ⟨h1, by simpa [listD, makeL] using h3, fun d => ?_⟩
  unfold makeL
  rw [h2]
  by_cases hd : d ∈ listD l
  · obtain ⟨n, _, rfl⟩ := List.mem_map.1 hd
    simp [hd, bDot_right]
  · simp [hd]

theorem l7_Make_ok (l : List Nat) (hs : l.length ≤ 100000) (hb : ∀ n ∈ l, n < 256) : Pr 22 [.c (bytesC l)] (.c (runsC (makeL l))) := by
  refine pure_ofW mixed is_l7_Make (by simp [closedAs, closedA, closedC, bytesC, closed_bytes]) fun hl T => ?_
  unfold c_l7_Make
  simp only [go_sem, reduceCtorEq, Nat.reduceEqDiff, Nat.reduceAdd, Nat.reduceSub, Nat.reduceMul, Nat.reduceLeDiff, Int.reduceEq, Int.reduceLT, Int.reduceLE, Int.reduceAdd, Int.reduceMul, Int.reduceSub, Int.reduceNeg, Int.reduceToNat, reduceIte, Nat.reduceLT]
  refine callW_pure (l7_List_ok l (by unfold Sm; omega) hb) ?_
  simp only [go_sem, reduceCtorEq, Nat.reduceEqDiff, Nat.reduceAdd, Nat.reduceSub, Nat.reduceMul, Nat.reduceLeDiff, Int.reduceEq, Int.reduceLT, Int.reduceLE, Int.reduceAdd, Int.reduceMul, Int.reduceSub, Int.reduceNeg, Int.reduceToNat, reduceIte, Nat.reduceLT]
  refine callW_pure (r7_Of_ok (listD l) (by simpa [listD] using hs)) ?_
  simp only [go_sem, reduceCtorEq, Nat.reduceEqDiff, Nat.reduceAdd, Nat.reduceSub, Nat.reduceMul, Nat.reduceLeDiff, Int.reduceEq, Int.reduceLT, Int.reduceLE, Int.reduceAdd, Int.reduceMul, Int.reduceSub, Int.reduceNeg, Int.reduceToNat, reduceIte, Nat.reduceLT]
  exact told_runs _ _

end Go.Proofs.Ytfbkolkkpkonfaa.Eng
