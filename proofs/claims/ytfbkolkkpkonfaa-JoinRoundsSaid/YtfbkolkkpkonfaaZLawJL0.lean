/- The law JoinLaws: its call comes to true. -/
import Derived.Test.YtfbkolkkpkonfaaZLawJ0
namespace Go.Proofs.Ytfbkolkkpkonfaa.Eng
open Go
set_option linter.unusedVariables false
set_option linter.unusedSimpArgs false

theorem four_of {l : List State} (h : l.length = 4) : ∃ a b c d, l = [a, b, c, d] := by
  match l, h with
  | [a, b, c, d], _ => exact ⟨a, b, c, d, rfl⟩
section
variable {x y z w : List Cell} {H : Heap}
theorem ixs0 : vIx 2 (.c (.lst 2 [x, y, z, w])) (iC 0) H = some (.c (.fp x 0), H) := rfl
theorem ixs1 : vIx 2 (.c (.lst 2 [x, y, z, w])) (iC 1) H = some (.c (.fp y 0), H) := rfl
theorem ixs2 : vIx 2 (.c (.lst 2 [x, y, z, w])) (iC 2) H = some (.c (.fp z 0), H) := rfl
end

set_option maxHeartbeats 4000000 in
theorem l9_JoinLaws_ok (ns : List Nat) (hb : ∀ n ∈ ns, n < 256) : Pr 7 [.c (bytesC ns)] (bC true) := by
  refine pure_of mixed is_l9_JoinLaws (by simp [closedAs, closedA, closedC, bytesC, closed_bytes]) fun hl T => ?_
  unfold c_l9_JoinLaws
  simp only [go_sem, reduceCtorEq, Nat.reduceEqDiff, Nat.reduceAdd, Nat.reduceSub, Nat.reduceMul, Nat.reduceLeDiff, Int.reduceEq, Int.reduceLT, Int.reduceLE, Int.reduceAdd, Int.reduceMul, Int.reduceSub, Int.reduceNeg, Int.reduceToNat, reduceIte, Nat.reduceLT]
  refine callW_pure (l9_Apart_ok ns hb) ?_
  have hg := apartS_group ns
  obtain ⟨a, b, c, d, he⟩ := four_of hg.len
  rw [he] at hg ⊢
  have ma : a ∈ [a, b, c, d] := by simp
  have mb : b ∈ [a, b, c, d] := by simp
  have mc : c ∈ [a, b, c, d] := by simp
  have ga := hg.good ma
  have gb := hg.good mb
  have gc := hg.good mc
  have sa := hg.sizes (by omega) (by omega) ma
  have sb := hg.sizes (by omega) (by omega) mb
  have sc := hg.sizes (by omega) (by omega) mc
  have ab := hg.agree a ma b mb
  have ac := hg.agree a ma c mc
  have bc := hg.agree b mb c mc
  have j1 := join_Join_ok a b ga gb (by omega) (by omega)
  have j2 := join_Join_ok b a gb ga (by omega) (by omega)
  rw [← join_comm ga gb ab] at j2
  have gj := joinL_good ga gb
  have lj := joinL_len (a := a) (b := b)
  have j3 := join_Join_ok (joinL a b) c gj gc (by omega) (by omega)
  have j4 := join_Join_ok b c gb gc (by omega) (by omega)
  have gk := joinL_good gb gc
  have lk := joinL_len (a := b) (b := c)
  have j5 := join_Join_ok a (joinL b c) ga gk (by omega) (by omega)
  rw [← join_assoc ga gb gc ab ac bc] at j5
  have j6 := join_Join_ok (joinL a b) a gj ga (by omega) (by omega)
  rw [join_absorb ga gb ab] at j6
  have j7 := join_Join_ok a a ga ga (by omega) (by omega)
  rw [join_idem ga] at j7
  generalize joinL (joinL a b) c = p at *
  generalize joinL b c = q at *
  generalize joinL a b = r at *
  simp only [go_sem, reduceCtorEq, Nat.reduceEqDiff, Nat.reduceAdd, Nat.reduceSub, Nat.reduceMul, Nat.reduceLeDiff, Int.reduceEq, Int.reduceLT, Int.reduceLE, Int.reduceAdd, Int.reduceMul, Int.reduceSub, Int.reduceNeg, Int.reduceToNat, reduceIte, Nat.reduceLT, ixs0, ixs1, ixs2]
  refine callW_pure j1 ?_
  simp only [go_sem, reduceCtorEq, Nat.reduceEqDiff, Nat.reduceAdd, Nat.reduceSub, Nat.reduceMul, Nat.reduceLeDiff, Int.reduceEq, Int.reduceLT, Int.reduceLE, Int.reduceAdd, Int.reduceMul, Int.reduceSub, Int.reduceNeg, Int.reduceToNat, reduceIte, Nat.reduceLT]
  refine callW_pure j2 ?_
  simp only [go_sem, reduceCtorEq, Nat.reduceEqDiff, Nat.reduceAdd, Nat.reduceSub, Nat.reduceMul, Nat.reduceLeDiff, Int.reduceEq, Int.reduceLT, Int.reduceLE, Int.reduceAdd, Int.reduceMul, Int.reduceSub, Int.reduceNeg, Int.reduceToNat, reduceIte, Nat.reduceLT]
  refine callW_pure (r7_Same_ok r r) ?_
  simp only [go_sem, reduceCtorEq, Nat.reduceEqDiff, Nat.reduceAdd, Nat.reduceSub, Nat.reduceMul, Nat.reduceLeDiff, Int.reduceEq, Int.reduceLT, Int.reduceLE, Int.reduceAdd, Int.reduceMul, Int.reduceSub, Int.reduceNeg, Int.reduceToNat, reduceIte, Nat.reduceLT]
  refine callW_pure j3 ?_
  simp only [go_sem, reduceCtorEq, Nat.reduceEqDiff, Nat.reduceAdd, Nat.reduceSub, Nat.reduceMul, Nat.reduceLeDiff, Int.reduceEq, Int.reduceLT, Int.reduceLE, Int.reduceAdd, Int.reduceMul, Int.reduceSub, Int.reduceNeg, Int.reduceToNat, reduceIte, Nat.reduceLT]
  refine callW_pure j4 ?_
  simp only [go_sem, reduceCtorEq, Nat.reduceEqDiff, Nat.reduceAdd, Nat.reduceSub, Nat.reduceMul, Nat.reduceLeDiff, Int.reduceEq, Int.reduceLT, Int.reduceLE, Int.reduceAdd, Int.reduceMul, Int.reduceSub, Int.reduceNeg, Int.reduceToNat, reduceIte, Nat.reduceLT]
  refine callW_pure j5 ?_
  simp only [go_sem, reduceCtorEq, Nat.reduceEqDiff, Nat.reduceAdd, Nat.reduceSub, Nat.reduceMul, Nat.reduceLeDiff, Int.reduceEq, Int.reduceLT, Int.reduceLE, Int.reduceAdd, Int.reduceMul, Int.reduceSub, Int.reduceNeg, Int.reduceToNat, reduceIte, Nat.reduceLT]
  refine callW_pure (r7_Same_ok p p) ?_
  simp only [go_sem, reduceCtorEq, Nat.reduceEqDiff, Nat.reduceAdd, Nat.reduceSub, Nat.reduceMul, Nat.reduceLeDiff, Int.reduceEq, Int.reduceLT, Int.reduceLE, Int.reduceAdd, Int.reduceMul, Int.reduceSub, Int.reduceNeg, Int.reduceToNat, reduceIte, Nat.reduceLT]
  refine callW_pure j6 ?_
  simp only [go_sem, reduceCtorEq, Nat.reduceEqDiff, Nat.reduceAdd, Nat.reduceSub, Nat.reduceMul, Nat.reduceLeDiff, Int.reduceEq, Int.reduceLT, Int.reduceLE, Int.reduceAdd, Int.reduceMul, Int.reduceSub, Int.reduceNeg, Int.reduceToNat, reduceIte, Nat.reduceLT]
  refine callW_pure (r7_Same_ok r r) ?_
  simp only [go_sem, reduceCtorEq, Nat.reduceEqDiff, Nat.reduceAdd, Nat.reduceSub, Nat.reduceMul, Nat.reduceLeDiff, Int.reduceEq, Int.reduceLT, Int.reduceLE, Int.reduceAdd, Int.reduceMul, Int.reduceSub, Int.reduceNeg, Int.reduceToNat, reduceIte, Nat.reduceLT]
  refine callW_pure j7 ?_
  simp only [go_sem, reduceCtorEq, Nat.reduceEqDiff, Nat.reduceAdd, Nat.reduceSub, Nat.reduceMul, Nat.reduceLeDiff, Int.reduceEq, Int.reduceLT, Int.reduceLE, Int.reduceAdd, Int.reduceMul, Int.reduceSub, Int.reduceNeg, Int.reduceToNat, reduceIte, Nat.reduceLT]
  refine callW_pure (r7_Same_ok a a) ?_
  simp only [go_sem, reduceCtorEq, Nat.reduceEqDiff, Nat.reduceAdd, Nat.reduceSub, Nat.reduceMul, Nat.reduceLeDiff, Int.reduceEq, Int.reduceLT, Int.reduceLE, Int.reduceAdd, Int.reduceMul, Int.reduceSub, Int.reduceNeg, Int.reduceToNat, reduceIte, Nat.reduceLT]
  refine callW_pure l9_awake_ok ?_
  simp only [go_sem, reduceCtorEq, Nat.reduceEqDiff, Nat.reduceAdd, Nat.reduceSub, Nat.reduceMul, Nat.reduceLeDiff, Int.reduceEq, Int.reduceLT, Int.reduceLE, Int.reduceAdd, Int.reduceMul, Int.reduceSub, Int.reduceNeg, Int.reduceToNat, reduceIte, Nat.reduceLT]
  rfl

theorem l9_JoinLaws_law (a : List Nat) (_ : a.length ≤ maxLen) (ha : ∀ n ∈ a, n < 256) : Pr 7 [.c (bytesC a)] (bC true) := l9_JoinLaws_ok a ha

end Go.Proofs.Ytfbkolkkpkonfaa.Eng
