/- The law FactsOrder: its call comes to true. -/
import Derived.Test.YtjjmeoeaimfiiaaZFactC
import Derived.Test.YtjjmeoeaimfiiaaZJoinT
import Derived.Test.YtjjmeoeaimfiiaaZListD
import Derived.Test.YtjjmeoeaimfiiaaZLitH
namespace Go.Proofs.Ytjjmeoeaimfiiaa.Eng
open Go
set_option linter.unusedVariables false
set_option linter.unusedSimpArgs false

theorem cmpDot_neg (x y : Dot) : IntKind.wrap .i64 (0 - cmpDot y x) = cmpDot x y := by
  have h : 0 - cmpDot y x = cmpDot x y ∧ -1 ≤ cmpDot x y ∧ cmpDot x y ≤ 1 := by
    unfold cmpDot cmpInt; repeat' split
    all_goals omega
  rw [h.1, wrap64 (by omega)]

set_option maxHeartbeats 1000000 in
theorem l8_FactsOrder_ok (a b c : Nat) (ha : a < 256) (hb : b < 256) (hc : c < 256) : Pr 7 [.c (.int .u8 (a : Int)), .c (.int .u8 (b : Int)), .c (.int .u8 (c : Int))] (bC true) := by
  refine pure_of mixed is_l8_FactsOrder rfl fun hl T => ?_
  unfold c_l8_FactsOrder
  have hlist : Pr 27 [.c (bytesC [a, b, c])] (.c (dotsC [bDot a, bDot b, bDot c])) := l7_List_ok [a, b, c] (by simp) (by intro n hn; simp at hn; omega)
  simp only [go_sem, reduceCtorEq, Nat.reduceEqDiff, Nat.reduceAdd, Nat.reduceSub, Nat.reduceMul, Nat.reduceLeDiff, Int.reduceEq, Int.reduceLT, Int.reduceLE, Int.reduceAdd, Int.reduceMul, Int.reduceSub, Int.reduceNeg, Int.reduceToNat, reduceIte, Nat.reduceLT]
  refine callW_pure hlist ?_
  generalize bDot a = x
  generalize bDot b = y
  generalize bDot c = z
  have i0 : ∀ (p q r : List Cell) (H : Heap), vIx 2 (.c (.lst 2 [p, q, r])) (iC 0) H = some (.c (.fp p 0), H) := fun _ _ _ _ => rfl
  have i1 : ∀ (p q r : List Cell) (H : Heap), vIx 2 (.c (.lst 2 [p, q, r])) (iC 1) H = some (.c (.fp q 0), H) := fun _ _ _ _ => rfl
  have i2 : ∀ (p q r : List Cell) (H : Heap), vIx 2 (.c (.lst 2 [p, q, r])) (iC 2) H = some (.c (.fp r 0), H) := fun _ _ _ _ => rfl
  have cxy := facts_Cmp_ok x y
  have cyx := facts_Cmp_ok y x
  have cyz := facts_Cmp_ok y z
  have cxz := facts_Cmp_ok x z
  have hneg := cmpDot_neg x y
  have heq : decide (cmpDot x y = 0) = decide (x = y) := decide_eq_decide.2 cmpDot_eq
  have tr : cmpDot x y < 0 → cmpDot y z < 0 → ¬ 0 ≤ cmpDot x z := by
    rw [cmpDot_lt, cmpDot_lt]
    intro h1 h2 h3
    have := cmpDot_lt.2 (dotLt.trans h1 h2)
    omega
  simp only [go_sem, reduceCtorEq, Nat.reduceEqDiff, Nat.reduceAdd, Nat.reduceSub, Nat.reduceMul, Nat.reduceLeDiff, Int.reduceEq, Int.reduceLT, Int.reduceLE, Int.reduceAdd, Int.reduceMul, Int.reduceSub, Int.reduceNeg, Int.reduceToNat, reduceIte, Nat.reduceLT, i0, i1, i2]
  refine callW_pure cxy ?_
  simp only [go_sem, reduceCtorEq, Nat.reduceEqDiff, Nat.reduceAdd, Nat.reduceSub, Nat.reduceMul, Nat.reduceLeDiff, Int.reduceEq, Int.reduceLT, Int.reduceLE, Int.reduceAdd, Int.reduceMul, Int.reduceSub, Int.reduceNeg, Int.reduceToNat, reduceIte, Nat.reduceLT]
  refine callW_pure cyx ?_
  simp only [go_sem, reduceCtorEq, Nat.reduceEqDiff, Nat.reduceAdd, Nat.reduceSub, Nat.reduceMul, Nat.reduceLeDiff, Int.reduceEq, Int.reduceLT, Int.reduceLE, Int.reduceAdd, Int.reduceMul, Int.reduceSub, Int.reduceNeg, Int.reduceToNat, reduceIte, Nat.reduceLT, hneg]
  refine callW_pure cxy ?_
  simp only [go_sem, reduceCtorEq, Nat.reduceEqDiff, Nat.reduceAdd, Nat.reduceSub, Nat.reduceMul, Nat.reduceLeDiff, Int.reduceEq, Int.reduceLT, Int.reduceLE, Int.reduceAdd, Int.reduceMul, Int.reduceSub, Int.reduceNeg, Int.reduceToNat, reduceIte, Nat.reduceLT, step_eqS, eqS_dot, heq, Bool.false_bne, beq_self_eq_true]
  refine callW_pure cxy ?_
  by_cases h1 : cmpDot x y < 0
  · simp only [go_sem, reduceCtorEq, Nat.reduceEqDiff, Nat.reduceAdd, Nat.reduceSub, Nat.reduceMul, Nat.reduceLeDiff, Int.reduceEq, Int.reduceLT, Int.reduceLE, Int.reduceAdd, Int.reduceMul, Int.reduceSub, Int.reduceNeg, Int.reduceToNat, reduceIte, Nat.reduceLT, h1]
    refine callW_pure cyz ?_
    by_cases h2 : cmpDot y z < 0
    · simp only [go_sem, reduceCtorEq, Nat.reduceEqDiff, Nat.reduceAdd, Nat.reduceSub, Nat.reduceMul, Nat.reduceLeDiff, Int.reduceEq, Int.reduceLT, Int.reduceLE, Int.reduceAdd, Int.reduceMul, Int.reduceSub, Int.reduceNeg, Int.reduceToNat, reduceIte, Nat.reduceLT, h2]
      refine callW_pure cxz ?_
      simp only [go_sem, reduceCtorEq, Nat.reduceEqDiff, Nat.reduceAdd, Nat.reduceSub, Nat.reduceMul, Nat.reduceLeDiff, Int.reduceEq, Int.reduceLT, Int.reduceLE, Int.reduceAdd, Int.reduceMul, Int.reduceSub, Int.reduceNeg, Int.reduceToNat, reduceIte, Nat.reduceLT, tr h1 h2]
      refine callW_pure l8_awake_ok ?_
      simp only [go_sem, reduceCtorEq, Nat.reduceEqDiff, Nat.reduceAdd, Nat.reduceSub, Nat.reduceMul, Nat.reduceLeDiff, Int.reduceEq, Int.reduceLT, Int.reduceLE, Int.reduceAdd, Int.reduceMul, Int.reduceSub, Int.reduceNeg, Int.reduceToNat, reduceIte, Nat.reduceLT]
      rfl
    · simp only [go_sem, reduceCtorEq, Nat.reduceEqDiff, Nat.reduceAdd, Nat.reduceSub, Nat.reduceMul, Nat.reduceLeDiff, Int.reduceEq, Int.reduceLT, Int.reduceLE, Int.reduceAdd, Int.reduceMul, Int.reduceSub, Int.reduceNeg, Int.reduceToNat, reduceIte, Nat.reduceLT, h2]
      refine callW_pure l8_awake_ok ?_
      simp only [go_sem, reduceCtorEq, Nat.reduceEqDiff, Nat.reduceAdd, Nat.reduceSub, Nat.reduceMul, Nat.reduceLeDiff, Int.reduceEq, Int.reduceLT, Int.reduceLE, Int.reduceAdd, Int.reduceMul, Int.reduceSub, Int.reduceNeg, Int.reduceToNat, reduceIte, Nat.reduceLT]
      rfl
  · simp only [go_sem, reduceCtorEq, Nat.reduceEqDiff, Nat.reduceAdd, Nat.reduceSub, Nat.reduceMul, Nat.reduceLeDiff, Int.reduceEq, Int.reduceLT, Int.reduceLE, Int.reduceAdd, Int.reduceMul, Int.reduceSub, Int.reduceNeg, Int.reduceToNat, reduceIte, Nat.reduceLT, h1]
    refine callW_pure l8_awake_ok ?_
    simp only [go_sem, reduceCtorEq, Nat.reduceEqDiff, Nat.reduceAdd, Nat.reduceSub, Nat.reduceMul, Nat.reduceLeDiff, Int.reduceEq, Int.reduceLT, Int.reduceLE, Int.reduceAdd, Int.reduceMul, Int.reduceSub, Int.reduceNeg, Int.reduceToNat, reduceIte, Nat.reduceLT]
    rfl

theorem l8_FactsOrder_law (a : Int) (ha : IntKind.min .u8 ≤ a ∧ a ≤ IntKind.max .u8) (b : Int) (hb : IntKind.min .u8 ≤ b ∧ b ≤ IntKind.max .u8) (c : Int) (hc : IntKind.min .u8 ≤ c ∧ c ≤ IntKind.max .u8) :
    Pr 7 [.c (.int .u8 a), .c (.int .u8 b), .c (.int .u8 c)] (bC true) := by
  have a1 : 0 ≤ a := ha.1
  have a2 : a ≤ 255 := ha.2
  have b1 : 0 ≤ b := hb.1
  have b2 : b ≤ 255 := hb.2
  have c1 : 0 ≤ c := hc.1
  have c2 : c ≤ 255 := hc.2
  have := l8_FactsOrder_ok a.toNat b.toNat c.toNat (by omega) (by omega) (by omega)
  rwa [Int.toNat_of_nonneg a1, Int.toNat_of_nonneg b1, Int.toNat_of_nonneg c1] at this

end Go.Proofs.Ytjjmeoeaimfiiaa.Eng
