/- The law DotsLaws: its call comes to true. -/
import Derived.Test.YtfbkolkkpkonfaaSets
namespace Go.Proofs.Ytfbkolkkpkonfaa.Eng
open Go
set_option linter.unusedVariables false
set_option linter.unusedSimpArgs false

theorem l7_DotsLaws_ok (a b c : List Nat) (ha : ∀ n ∈ a, n < 256) (hb : ∀ n ∈ b, n < 256) (hc : ∀ n ∈ c, n < 256) : Pr 5 [.c (bytesC a), .c (bytesC b), .c (bytesC c)] (bC true) := by
  refine pure_of mixed is_l7_DotsLaws (by simp [closedAs, closedA, closedC, bytesC, closed_bytes]) fun hl T => ?_
  unfold c_l7_DotsLaws
  simp only [go_sem, reduceCtorEq, Nat.reduceEqDiff, Nat.reduceAdd, Nat.reduceSub, Nat.reduceMul, Nat.reduceLeDiff, Int.reduceEq, Int.reduceLT, Int.reduceLE, Int.reduceAdd, Int.reduceMul, Int.reduceSub, Int.reduceNeg, Int.reduceToNat, reduceIte, Nat.reduceLT]
  by_cases hla : (60 : Int) < ((a.map byteC).length : Int)
  · simp only [go_sem, reduceCtorEq, Nat.reduceEqDiff, Nat.reduceAdd, Nat.reduceSub, Nat.reduceMul, Nat.reduceLeDiff, Int.reduceEq, Int.reduceLT, Int.reduceLE, Int.reduceAdd, Int.reduceMul, Int.reduceSub, Int.reduceNeg, Int.reduceToNat, reduceIte, Nat.reduceLT, hla]
    refine callW_pure l7_awake_ok ?_
    simp only [go_sem, reduceCtorEq, Nat.reduceEqDiff, Nat.reduceAdd, Nat.reduceSub, Nat.reduceMul, Nat.reduceLeDiff, Int.reduceEq, Int.reduceLT, Int.reduceLE, Int.reduceAdd, Int.reduceMul, Int.reduceSub, Int.reduceNeg, Int.reduceToNat, reduceIte, Nat.reduceLT]
    rfl
  by_cases hlb : (60 : Int) < ((b.map byteC).length : Int)
  · simp only [go_sem, reduceCtorEq, Nat.reduceEqDiff, Nat.reduceAdd, Nat.reduceSub, Nat.reduceMul, Nat.reduceLeDiff, Int.reduceEq, Int.reduceLT, Int.reduceLE, Int.reduceAdd, Int.reduceMul, Int.reduceSub, Int.reduceNeg, Int.reduceToNat, reduceIte, Nat.reduceLT, hla, hlb]
    refine callW_pure l7_awake_ok ?_
    simp only [go_sem, reduceCtorEq, Nat.reduceEqDiff, Nat.reduceAdd, Nat.reduceSub, Nat.reduceMul, Nat.reduceLeDiff, Int.reduceEq, Int.reduceLT, Int.reduceLE, Int.reduceAdd, Int.reduceMul, Int.reduceSub, Int.reduceNeg, Int.reduceToNat, reduceIte, Nat.reduceLT]
    rfl
  by_cases hlc : (60 : Int) < ((c.map byteC).length : Int)
  · simp only [go_sem, reduceCtorEq, Nat.reduceEqDiff, Nat.reduceAdd, Nat.reduceSub, Nat.reduceMul, Nat.reduceLeDiff, Int.reduceEq, Int.reduceLT, Int.reduceLE, Int.reduceAdd, Int.reduceMul, Int.reduceSub, Int.reduceNeg, Int.reduceToNat, reduceIte, Nat.reduceLT, hla, hlb, hlc]
    refine callW_pure l7_awake_ok ?_
    simp only [go_sem, reduceCtorEq, Nat.reduceEqDiff, Nat.reduceAdd, Nat.reduceSub, Nat.reduceMul, Nat.reduceLeDiff, Int.reduceEq, Int.reduceLT, Int.reduceLE, Int.reduceAdd, Int.reduceMul, Int.reduceSub, Int.reduceNeg, Int.reduceToNat, reduceIte, Nat.reduceLT]
    rfl
  have ka : a.length ≤ 60 := by simp at hla; omega
  have kb : b.length ≤ 60 := by simp at hlb; omega
  have kc : c.length ≤ 60 := by simp at hlc; omega
  simp only [go_sem, reduceCtorEq, Nat.reduceEqDiff, Nat.reduceAdd, Nat.reduceSub, Nat.reduceMul, Nat.reduceLeDiff, Int.reduceEq, Int.reduceLT, Int.reduceLE, Int.reduceAdd, Int.reduceMul, Int.reduceSub, Int.reduceNeg, Int.reduceToNat, reduceIte, Nat.reduceLT, hla, hlb, hlc]
  refine callW_pure (l7_Make_ok a (by omega) ha) ?_
  simp only [go_sem, reduceCtorEq, Nat.reduceEqDiff, Nat.reduceAdd, Nat.reduceSub, Nat.reduceMul, Nat.reduceLeDiff, Int.reduceEq, Int.reduceLT, Int.reduceLE, Int.reduceAdd, Int.reduceMul, Int.reduceSub, Int.reduceNeg, Int.reduceToNat, reduceIte, Nat.reduceLT]
  refine callW_pure (l7_Make_ok b (by omega) hb) ?_
  simp only [go_sem, reduceCtorEq, Nat.reduceEqDiff, Nat.reduceAdd, Nat.reduceSub, Nat.reduceMul, Nat.reduceLeDiff, Int.reduceEq, Int.reduceLT, Int.reduceLE, Int.reduceAdd, Int.reduceMul, Int.reduceSub, Int.reduceNeg, Int.reduceToNat, reduceIte, Nat.reduceLT]
  refine callW_pure (l7_Make_ok c (by omega) hc) ?_
  obtain ⟨hx, hxl, _⟩ := makeL_ok a
  obtain ⟨hy, hyl, _⟩ := makeL_ok b
  obtain ⟨hz, hzl, _⟩ := makeL_ok c
  generalize makeL a = x at hx hxl
  generalize makeL b = y at hy hyl
  generalize makeL c = z at hz hzl
  simp only [go_sem, reduceCtorEq, Nat.reduceEqDiff, Nat.reduceAdd, Nat.reduceSub, Nat.reduceMul, Nat.reduceLeDiff, Int.reduceEq, Int.reduceLT, Int.reduceLE, Int.reduceAdd, Int.reduceMul, Int.reduceSub, Int.reduceNeg, Int.reduceToNat, reduceIte, Nat.reduceLT]
  refine callW_pure (dots_Union_is x y (by omega) hx.right hy.right) ?_
  obtain ⟨hu, huh⟩ := unionL_ok hx.right hy.right
  have hul := unionL_len (a := x) (b := y)
  simp only [go_sem, reduceCtorEq, Nat.reduceEqDiff, Nat.reduceAdd, Nat.reduceSub, Nat.reduceMul, Nat.reduceLeDiff, Int.reduceEq, Int.reduceLT, Int.reduceLE, Int.reduceAdd, Int.reduceMul, Int.reduceSub, Int.reduceNeg, Int.reduceToNat, reduceIte, Nat.reduceLT]
  refine callW_pure (dots_Minus_is x y (by omega) hx hy.right) ?_
  obtain ⟨hm, hml, hmh⟩ := diffL_ok hx hy.right
  simp only [go_sem, reduceCtorEq, Nat.reduceEqDiff, Nat.reduceAdd, Nat.reduceSub, Nat.reduceMul, Nat.reduceLeDiff, Int.reduceEq, Int.reduceLT, Int.reduceLE, Int.reduceAdd, Int.reduceMul, Int.reduceSub, Int.reduceNeg, Int.reduceToNat, reduceIte, Nat.reduceLT]
  generalize hmm : diffL x y = m at hm hml hmh
  refine callW_pure (dots_Minus_is x m (by omega) hx hm.right) ?_
  obtain ⟨hk, hkl, hkh⟩ := diffL_ok hx hm.right
  generalize diffL x m = k at hk hkl hkh
  simp only [go_sem, reduceCtorEq, Nat.reduceEqDiff, Nat.reduceAdd, Nat.reduceSub, Nat.reduceMul, Nat.reduceLeDiff, Int.reduceEq, Int.reduceLT, Int.reduceLE, Int.reduceAdd, Int.reduceMul, Int.reduceSub, Int.reduceNeg, Int.reduceToNat, reduceIte, Nat.reduceLT]
  -- together, in whatever order
  refine callW_pure (dots_Union_is y x (by omega) hy.right hx.right) ?_
  have e1 : unionL y x = unionL x y := (unionL_ok hy.right hx.right).1.ext hu fun d => by rw [(unionL_ok hy.right hx.right).2, huh, Bool.or_comm]
  rw [e1]
  generalize unionL x y = u at hu huh hul
  simp only [go_sem, reduceCtorEq, Nat.reduceEqDiff, Nat.reduceAdd, Nat.reduceSub, Nat.reduceMul, Nat.reduceLeDiff, Int.reduceEq, Int.reduceLT, Int.reduceLE, Int.reduceAdd, Int.reduceMul, Int.reduceSub, Int.reduceNeg, Int.reduceToNat, reduceIte, Nat.reduceLT]
  refine callW_pure (r7_SameRuns_ok u u) ?_
  simp only [go_sem, reduceCtorEq, Nat.reduceEqDiff, Nat.reduceAdd, Nat.reduceSub, Nat.reduceMul, Nat.reduceLeDiff, Int.reduceEq, Int.reduceLT, Int.reduceLE, Int.reduceAdd, Int.reduceMul, Int.reduceSub, Int.reduceNeg, Int.reduceToNat, reduceIte, Nat.reduceLT]
  refine callW_pure (dots_Union_is u z (by omega) hu.right hz.right) ?_
  simp only [go_sem, reduceCtorEq, Nat.reduceEqDiff, Nat.reduceAdd, Nat.reduceSub, Nat.reduceMul, Nat.reduceLeDiff, Int.reduceEq, Int.reduceLT, Int.reduceLE, Int.reduceAdd, Int.reduceMul, Int.reduceSub, Int.reduceNeg, Int.reduceToNat, reduceIte, Nat.reduceLT]
  refine callW_pure (dots_Union_is y z (by omega) hy.right hz.right) ?_
  obtain ⟨hv, hvh⟩ := unionL_ok hy.right hz.right
  have hvl := unionL_len (a := y) (b := z)
  generalize unionL y z = v at hv hvh hvl
  simp only [go_sem, reduceCtorEq, Nat.reduceEqDiff, Nat.reduceAdd, Nat.reduceSub, Nat.reduceMul, Nat.reduceLeDiff, Int.reduceEq, Int.reduceLT, Int.reduceLE, Int.reduceAdd, Int.reduceMul, Int.reduceSub, Int.reduceNeg, Int.reduceToNat, reduceIte, Nat.reduceLT]
  refine callW_pure (dots_Union_is x v (by omega) hx.right hv.right) ?_
  have e2 : unionL x v = unionL u z := (unionL_ok hx.right hv.right).1.ext (unionL_ok hu.right hz.right).1 fun d => by rw [(unionL_ok hx.right hv.right).2, (unionL_ok hu.right hz.right).2, huh, hvh, Bool.or_assoc]
  rw [e2]
  simp only [go_sem, reduceCtorEq, Nat.reduceEqDiff, Nat.reduceAdd, Nat.reduceSub, Nat.reduceMul, Nat.reduceLeDiff, Int.reduceEq, Int.reduceLT, Int.reduceLE, Int.reduceAdd, Int.reduceMul, Int.reduceSub, Int.reduceNeg, Int.reduceToNat, reduceIte, Nat.reduceLT]
  refine callW_pure (r7_SameRuns_ok (unionL u z) (unionL u z)) ?_
  simp only [go_sem, reduceCtorEq, Nat.reduceEqDiff, Nat.reduceAdd, Nat.reduceSub, Nat.reduceMul, Nat.reduceLeDiff, Int.reduceEq, Int.reduceLT, Int.reduceLE, Int.reduceAdd, Int.reduceMul, Int.reduceSub, Int.reduceNeg, Int.reduceToNat, reduceIte, Nat.reduceLT]
  refine callW_pure (dots_Union_is x x (by omega) hx.right hx.right) ?_
  have e3 : unionL x x = x := (unionL_ok hx.right hx.right).1.ext hx fun d => by rw [(unionL_ok hx.right hx.right).2, Bool.or_self]
  rw [e3]
  simp only [go_sem, reduceCtorEq, Nat.reduceEqDiff, Nat.reduceAdd, Nat.reduceSub, Nat.reduceMul, Nat.reduceLeDiff, Int.reduceEq, Int.reduceLT, Int.reduceLE, Int.reduceAdd, Int.reduceMul, Int.reduceSub, Int.reduceNeg, Int.reduceToNat, reduceIte, Nat.reduceLT]
  refine callW_pure (r7_SameRuns_ok x x) ?_
  simp only [go_sem, reduceCtorEq, Nat.reduceEqDiff, Nat.reduceAdd, Nat.reduceSub, Nat.reduceMul, Nat.reduceLeDiff, Int.reduceEq, Int.reduceLT, Int.reduceLE, Int.reduceAdd, Int.reduceMul, Int.reduceSub, Int.reduceNeg, Int.reduceToNat, reduceIte, Nat.reduceLT]
  refine callW_pure (dots_Union_is m k (by omega) hm.right hk.right) ?_
  have e4 : unionL m k = x := (unionL_ok hm.right hk.right).1.ext hx fun d => by
    rw [(unionL_ok hm.right hk.right).2, hkh, hmh]
    cases hasDot x d <;> cases hasDot y d <;> rfl
  rw [e4]
  simp only [go_sem, reduceCtorEq, Nat.reduceEqDiff, Nat.reduceAdd, Nat.reduceSub, Nat.reduceMul, Nat.reduceLeDiff, Int.reduceEq, Int.reduceLT, Int.reduceLE, Int.reduceAdd, Int.reduceMul, Int.reduceSub, Int.reduceNeg, Int.reduceToNat, reduceIte, Nat.reduceLT]
  refine callW_pure (r7_SameRuns_ok x x) ?_
  simp only [go_sem, reduceCtorEq, Nat.reduceEqDiff, Nat.reduceAdd, Nat.reduceSub, Nat.reduceMul, Nat.reduceLeDiff, Int.reduceEq, Int.reduceLT, Int.reduceLE, Int.reduceAdd, Int.reduceMul, Int.reduceSub, Int.reduceNeg, Int.reduceToNat, reduceIte, Nat.reduceLT]
  refine callW_pure (dots_Le_is k y (by omega) hk hy.right) ?_
  have e5 : diffL k y = [] := (diffL_ok hk hy.right).1.empty fun d => by
    rw [(diffL_ok hk hy.right).2.2, hkh, hmh]
    cases hasDot x d <;> cases hasDot y d <;> rfl
  rw [e5]
  simp only [go_sem, reduceCtorEq, Nat.reduceEqDiff, Nat.reduceAdd, Nat.reduceSub, Nat.reduceMul, Nat.reduceLeDiff, Int.reduceEq, Int.reduceLT, Int.reduceLE, Int.reduceAdd, Int.reduceMul, Int.reduceSub, Int.reduceNeg, Int.reduceToNat, reduceIte, Nat.reduceLT]
  refine callW_pure (dots_Le_is m x (by omega) hm hx.right) ?_
  have e6 : diffL m x = [] := (diffL_ok hm hx.right).1.empty fun d => by
    rw [(diffL_ok hm hx.right).2.2, hmh]
    cases hasDot x d <;> cases hasDot y d <;> rfl
  rw [e6]
  simp only [go_sem, reduceCtorEq, Nat.reduceEqDiff, Nat.reduceAdd, Nat.reduceSub, Nat.reduceMul, Nat.reduceLeDiff, Int.reduceEq, Int.reduceLT, Int.reduceLE, Int.reduceAdd, Int.reduceMul, Int.reduceSub, Int.reduceNeg, Int.reduceToNat, reduceIte, Nat.reduceLT]
  refine callW_pure (dots_Le_is x u (by omega) hx hu.right) ?_
  have e7 : diffL x u = [] := (diffL_ok hx hu.right).1.empty fun d => by
    rw [(diffL_ok hx hu.right).2.2, huh]
    cases hasDot x d <;> cases hasDot y d <;> rfl
  rw [e7]
  simp only [go_sem, reduceCtorEq, Nat.reduceEqDiff, Nat.reduceAdd, Nat.reduceSub, Nat.reduceMul, Nat.reduceLeDiff, Int.reduceEq, Int.reduceLT, Int.reduceLE, Int.reduceAdd, Int.reduceMul, Int.reduceSub, Int.reduceNeg, Int.reduceToNat, reduceIte, Nat.reduceLT]
  refine callW_pure (dots_Le_is x y (by omega) hx hy.right) ?_
  rw [hmm]
  have hz0 : ((((m.map Rn.cells).length : Nat) : Int) = 0) = (m.length = 0) := by simp
  simp only [go_sem, reduceCtorEq, Nat.reduceEqDiff, Nat.reduceAdd, Nat.reduceSub, Nat.reduceMul, Nat.reduceLeDiff, Int.reduceEq, Int.reduceLT, Int.reduceLE, Int.reduceAdd, Int.reduceMul, Int.reduceSub, Int.reduceNeg, Int.reduceToNat, reduceIte, Nat.reduceLT, hz0, beq_self_eq_true]
  refine callW_pure (dots_Minus_is m x (by omega) hm hx.right) ?_
  rw [e6]
  simp only [go_sem, reduceCtorEq, Nat.reduceEqDiff, Nat.reduceAdd, Nat.reduceSub, Nat.reduceMul, Nat.reduceLeDiff, Int.reduceEq, Int.reduceLT, Int.reduceLE, Int.reduceAdd, Int.reduceMul, Int.reduceSub, Int.reduceNeg, Int.reduceToNat, reduceIte, Nat.reduceLT]
  refine callW_pure l7_awake_ok ?_
  simp only [go_sem, reduceCtorEq, Nat.reduceEqDiff, Nat.reduceAdd, Nat.reduceSub, Nat.reduceMul, Nat.reduceLeDiff, Int.reduceEq, Int.reduceLT, Int.reduceLE, Int.reduceAdd, Int.reduceMul, Int.reduceSub, Int.reduceNeg, Int.reduceToNat, reduceIte, Nat.reduceLT]
  rfl

theorem l7_DotsLaws_law (a : List Nat) (_ : a.length ≤ maxLen) (ha : ∀ n ∈ a, n < 256) (b : List Nat) (_ : b.length ≤ maxLen) (hb : ∀ n ∈ b, n < 256) (c : List Nat) (_ : c.length ≤ maxLen) (hc : ∀ n ∈ c, n < 256) : Pr 5 [.c (bytesC a), .c (bytesC b), .c (bytesC c)] (bC true) := l7_DotsLaws_ok a b c ha hb hc

end Go.Proofs.Ytfbkolkkpkonfaa.Eng
