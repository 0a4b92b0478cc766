/- The law DotsOne: its call comes to true. -/
import Derived.Test.YtfbkolkkpkonfaaSets
namespace Go.Proofs.Ytfbkolkkpkonfaa.Eng
open Go
set_option linter.unusedVariables false
set_option linter.unusedSimpArgs false

theorem l7_DotsOne_ok (l : List Nat) (hb : ∀ n ∈ l, n < 256) (n : Nat) (hn : n < 256) : Pr 6 [.c (bytesC l), .c (.int .u8 (n : Int))] (bC true) := by
  refine pure_of mixed is_l7_DotsOne (by simp [closedAs, closedA, closedC, bytesC, closed_bytes]) fun hl T => ?_
  unfold c_l7_DotsOne
  simp only [go_sem, reduceCtorEq, Nat.reduceEqDiff, Nat.reduceAdd, Nat.reduceSub, Nat.reduceMul, Nat.reduceLeDiff, Int.reduceEq, Int.reduceLT, Int.reduceLE, Int.reduceAdd, Int.reduceMul, Int.reduceSub, Int.reduceNeg, Int.reduceToNat, reduceIte, Nat.reduceLT]
  by_cases hla : (60 : Int) < ((l.map byteC).length : Int)
  · simp only [go_sem, reduceCtorEq, Nat.reduceEqDiff, Nat.reduceAdd, Nat.reduceSub, Nat.reduceMul, Nat.reduceLeDiff, Int.reduceEq, Int.reduceLT, Int.reduceLE, Int.reduceAdd, Int.reduceMul, Int.reduceSub, Int.reduceNeg, Int.reduceToNat, reduceIte, Nat.reduceLT, hla]
    refine callW_pure l7_awake_ok ?_
    simp only [go_sem, reduceCtorEq, Nat.reduceEqDiff, Nat.reduceAdd, Nat.reduceSub, Nat.reduceMul, Nat.reduceLeDiff, Int.reduceEq, Int.reduceLT, Int.reduceLE, Int.reduceAdd, Int.reduceMul, Int.reduceSub, Int.reduceNeg, Int.reduceToNat, reduceIte, Nat.reduceLT]
    rfl
  have ka : l.length ≤ 60 := by simp at hla; omega
  simp only [go_sem, reduceCtorEq, Nat.reduceEqDiff, Nat.reduceAdd, Nat.reduceSub, Nat.reduceMul, Nat.reduceLeDiff, Int.reduceEq, Int.reduceLT, Int.reduceLE, Int.reduceAdd, Int.reduceMul, Int.reduceSub, Int.reduceNeg, Int.reduceToNat, reduceIte, Nat.reduceLT, hla]
  refine callW_pure (l7_Make_ok l (by omega) hb) ?_
  simp only [go_sem, reduceCtorEq, Nat.reduceEqDiff, Nat.reduceAdd, Nat.reduceSub, Nat.reduceMul, Nat.reduceLeDiff, Int.reduceEq, Int.reduceLT, Int.reduceLE, Int.reduceAdd, Int.reduceMul, Int.reduceSub, Int.reduceNeg, Int.reduceToNat, reduceIte, Nat.reduceLT]
  have hlist : Pr 17 [.c (bytesC [n])] (.c (dotsC [bDot n])) := l7_List_ok [n] (by unfold Sm; simp) (by simpa using hn)
  refine callW_pure hlist ?_
  have hR := bDot_right n
  generalize bDot n = d at hR
  obtain ⟨hx, hxl, _⟩ := makeL_ok l
  generalize makeL l = x at hx hxl
  simp only [go_sem, reduceCtorEq, Nat.reduceEqDiff, Nat.reduceAdd, Nat.reduceSub, Nat.reduceMul, Nat.reduceLeDiff, Int.reduceEq, Int.reduceLT, Int.reduceLE, Int.reduceAdd, Int.reduceMul, Int.reduceSub, Int.reduceNeg, Int.reduceToNat, reduceIte, Nat.reduceLT, ix_one2, row_only, mine_only, put_only]
  refine callW_pure (dots_Of_is [d] (by unfold Sm; simp)) ?_
  have hs := (dotsL_ok [d]).1
  have hsl := dotsL_len [d]
  have hsh : ∀ z, hasDot (dotsL [d]) z = decide (z = d) := fun z => hasDot_one hR
  generalize dotsL [d] = s at hs hsl hsh
  simp at hsl
  simp only [go_sem, reduceCtorEq, Nat.reduceEqDiff, Nat.reduceAdd, Nat.reduceSub, Nat.reduceMul, Nat.reduceLeDiff, Int.reduceEq, Int.reduceLT, Int.reduceLE, Int.reduceAdd, Int.reduceMul, Int.reduceSub, Int.reduceNeg, Int.reduceToNat, reduceIte, Nat.reduceLT, row_only]
  refine callW_pure (dots_Union_is x s (by omega) hx.right hs.right) ?_
  obtain ⟨hu, huh⟩ := unionL_ok hx.right hs.right
  have hul := unionL_len (a := x) (b := s)
  have hu0 : ∀ z, hasDot (unionL x s) z = (hasDot x z || decide (z = d)) := fun z => by rw [huh, hsh]
  generalize unionL x s = u at hu hul hu0
  simp only [go_sem, reduceCtorEq, Nat.reduceEqDiff, Nat.reduceAdd, Nat.reduceSub, Nat.reduceMul, Nat.reduceLeDiff, Int.reduceEq, Int.reduceLT, Int.reduceLE, Int.reduceAdd, Int.reduceMul, Int.reduceSub, Int.reduceNeg, Int.reduceToNat, reduceIte, Nat.reduceLT, row_only]
  refine callW_pure (dots_Minus_is u s (by omega) hu hs.right) ?_
  obtain ⟨hw, hwl, hwh⟩ := diffL_ok hu hs.right
  have hw0 : ∀ z, hasDot (diffL u s) z = ((hasDot x z || decide (z = d)) && !decide (z = d)) := fun z => by rw [hwh, hu0, hsh]
  generalize diffL u s = w at hw hwl hw0
  simp only [go_sem, reduceCtorEq, Nat.reduceEqDiff, Nat.reduceAdd, Nat.reduceSub, Nat.reduceMul, Nat.reduceLeDiff, Int.reduceEq, Int.reduceLT, Int.reduceLE, Int.reduceAdd, Int.reduceMul, Int.reduceSub, Int.reduceNeg, Int.reduceToNat, reduceIte, Nat.reduceLT, row_only]
  have hud : hasDot u d = true := by rw [hu0]; simp
  have hwd : hasDot w d = false := by rw [hw0]; simp
  refine callW_pure (dots_Has_ok u d) ?_
  rw [hud]
  simp only [go_sem, reduceCtorEq, Nat.reduceEqDiff, Nat.reduceAdd, Nat.reduceSub, Nat.reduceMul, Nat.reduceLeDiff, Int.reduceEq, Int.reduceLT, Int.reduceLE, Int.reduceAdd, Int.reduceMul, Int.reduceSub, Int.reduceNeg, Int.reduceToNat, reduceIte, Nat.reduceLT, row_only]
  refine callW_pure (dots_Has_ok w d) ?_
  rw [hwd]
  simp only [go_sem, reduceCtorEq, Nat.reduceEqDiff, Nat.reduceAdd, Nat.reduceSub, Nat.reduceMul, Nat.reduceLeDiff, Int.reduceEq, Int.reduceLT, Int.reduceLE, Int.reduceAdd, Int.reduceMul, Int.reduceSub, Int.reduceNeg, Int.reduceToNat, reduceIte, Nat.reduceLT, row_only]
  refine callW_pure (dots_Le_is x u (by omega) hx hu.right) ?_
  have e1 : diffL x u = [] := (diffL_ok hx hu.right).1.empty fun z => by rw [(diffL_ok hx hu.right).2.2, hu0]; cases hasDot x z <;> simp
  rw [e1]
  simp only [go_sem, reduceCtorEq, Nat.reduceEqDiff, Nat.reduceAdd, Nat.reduceSub, Nat.reduceMul, Nat.reduceLeDiff, Int.reduceEq, Int.reduceLT, Int.reduceLE, Int.reduceAdd, Int.reduceMul, Int.reduceSub, Int.reduceNeg, Int.reduceToNat, reduceIte, Nat.reduceLT, row_only]
  refine callW_pure (dots_Le_is w x (by omega) hw hx.right) ?_
  have e2 : diffL w x = [] := (diffL_ok hw hx.right).1.empty fun z => by rw [(diffL_ok hw hx.right).2.2, hw0]; by_cases hz : z = d <;> cases hasDot x z <;> simp [hz]
  rw [e2]
  simp only [go_sem, reduceCtorEq, Nat.reduceEqDiff, Nat.reduceAdd, Nat.reduceSub, Nat.reduceMul, Nat.reduceLeDiff, Int.reduceEq, Int.reduceLT, Int.reduceLE, Int.reduceAdd, Int.reduceMul, Int.reduceSub, Int.reduceNeg, Int.reduceToNat, reduceIte, Nat.reduceLT, row_only]
  refine callW_pure (r7_Has_ok x d) ?_
  cases hxd : hasDot x d with
  | false =>
    simp only [go_sem, reduceCtorEq, Nat.reduceEqDiff, Nat.reduceAdd, Nat.reduceSub, Nat.reduceMul, Nat.reduceLeDiff, Int.reduceEq, Int.reduceLT, Int.reduceLE, Int.reduceAdd, Int.reduceMul, Int.reduceSub, Int.reduceNeg, Int.reduceToNat, reduceIte, Nat.reduceLT, row_only]
    refine callW_pure (r7_SameRuns_ok w x) ?_
    have e3 : w = x := hw.ext hx fun z => by
      rw [hw0]
      by_cases hz : z = d
      · subst hz; simp [hxd]
      · simp [hz]
    rw [e3]
    simp only [go_sem, reduceCtorEq, Nat.reduceEqDiff, Nat.reduceAdd, Nat.reduceSub, Nat.reduceMul, Nat.reduceLeDiff, Int.reduceEq, Int.reduceLT, Int.reduceLE, Int.reduceAdd, Int.reduceMul, Int.reduceSub, Int.reduceNeg, Int.reduceToNat, reduceIte, Nat.reduceLT, row_only]
    refine callW_pure (r7_Has_ok x d) ?_
    rw [hxd]
    simp only [go_sem, reduceCtorEq, Nat.reduceEqDiff, Nat.reduceAdd, Nat.reduceSub, Nat.reduceMul, Nat.reduceLeDiff, Int.reduceEq, Int.reduceLT, Int.reduceLE, Int.reduceAdd, Int.reduceMul, Int.reduceSub, Int.reduceNeg, Int.reduceToNat, reduceIte, Nat.reduceLT, row_only]
    refine callW_pure l7_awake_ok ?_
    simp only [go_sem, reduceCtorEq, Nat.reduceEqDiff, Nat.reduceAdd, Nat.reduceSub, Nat.reduceMul, Nat.reduceLeDiff, Int.reduceEq, Int.reduceLT, Int.reduceLE, Int.reduceAdd, Int.reduceMul, Int.reduceSub, Int.reduceNeg, Int.reduceToNat, reduceIte, Nat.reduceLT, row_only]
    rfl
  | true =>
    simp only [go_sem, reduceCtorEq, Nat.reduceEqDiff, Nat.reduceAdd, Nat.reduceSub, Nat.reduceMul, Nat.reduceLeDiff, Int.reduceEq, Int.reduceLT, Int.reduceLE, Int.reduceAdd, Int.reduceMul, Int.reduceSub, Int.reduceNeg, Int.reduceToNat, reduceIte, Nat.reduceLT, row_only]
    refine callW_pure (r7_Has_ok x d) ?_
    rw [hxd]
    simp only [go_sem, reduceCtorEq, Nat.reduceEqDiff, Nat.reduceAdd, Nat.reduceSub, Nat.reduceMul, Nat.reduceLeDiff, Int.reduceEq, Int.reduceLT, Int.reduceLE, Int.reduceAdd, Int.reduceMul, Int.reduceSub, Int.reduceNeg, Int.reduceToNat, reduceIte, Nat.reduceLT, row_only]
    refine callW_pure (r7_SameRuns_ok u x) ?_
    have e3 : u = x := hu.ext hx fun z => by
      rw [hu0]
      by_cases hz : z = d
      · subst hz; simp [hxd]
      · simp [hz]
    rw [e3]
    simp only [go_sem, reduceCtorEq, Nat.reduceEqDiff, Nat.reduceAdd, Nat.reduceSub, Nat.reduceMul, Nat.reduceLeDiff, Int.reduceEq, Int.reduceLT, Int.reduceLE, Int.reduceAdd, Int.reduceMul, Int.reduceSub, Int.reduceNeg, Int.reduceToNat, reduceIte, Nat.reduceLT, row_only]
    refine callW_pure l7_awake_ok ?_
    simp only [go_sem, reduceCtorEq, Nat.reduceEqDiff, Nat.reduceAdd, Nat.reduceSub, Nat.reduceMul, Nat.reduceLeDiff, Int.reduceEq, Int.reduceLT, Int.reduceLE, Int.reduceAdd, Int.reduceMul, Int.reduceSub, Int.reduceNeg, Int.reduceToNat, reduceIte, Nat.reduceLT, row_only]
    rfl

theorem l7_DotsOne_law (l : List Nat) (_ : l.length ≤ maxLen) (hb : ∀ n ∈ l, n < 256) (n : Int) (hn : IntKind.min .u8 ≤ n ∧ n ≤ IntKind.max .u8) : Pr 6 [.c (bytesC l), .c (.int .u8 n)] (bC true) := by
  have h1 : 0 ≤ n := hn.1
  have h2 : n ≤ 255 := hn.2
  have := l7_DotsOne_ok l hb n.toNat (by omega)
  rwa [Int.toNat_of_nonneg h1] at this

end Go.Proofs.Ytfbkolkkpkonfaa.Eng
