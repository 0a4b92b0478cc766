/- The law DotsMade: its call comes to true. -/
import Derived.Test.YtfbkolkkpkonfaaSets
namespace Go.Proofs.Ytfbkolkkpkonfaa.Eng
open Go
set_option linter.unusedVariables false
set_option linter.unusedSimpArgs false

set_option maxHeartbeats 4000000 in
theorem l7_DotsMade_ok (a b : List Nat) (ha : ∀ n ∈ a, n < 256) (hb : ∀ n ∈ b, n < 256) (n : Nat) (hn : n < 256) : Pr 10 [.c (bytesC a), .c (bytesC b), .c (.int .u8 (n : Int))] (bC true) := by
  refine pure_of mixed is_l7_DotsMade (by simp [closedAs, closedA, closedC, bytesC, closed_bytes]) fun hl T => ?_
  unfold c_l7_DotsMade
  simp only [go_sem, reduceCtorEq, Nat.reduceEqDiff, Nat.reduceAdd, Nat.reduceSub, Nat.reduceMul, Nat.reduceLeDiff, Int.reduceEq, Int.reduceLT, Int.reduceLE, Int.reduceAdd, Int.reduceMul, Int.reduceSub, Int.reduceNeg, Int.reduceToNat, reduceIte, Nat.reduceLT]
  by_cases hla : (60 : Int) < ((a.map byteC).length : Int)
  · simp only [go_sem, reduceCtorEq, Nat.reduceEqDiff, Nat.reduceAdd, Nat.reduceSub, Nat.reduceMul, Nat.reduceLeDiff, Int.reduceEq, Int.reduceLT, Int.reduceLE, Int.reduceAdd, Int.reduceMul, Int.reduceSub, Int.reduceNeg, Int.reduceToNat, reduceIte, Nat.reduceLT, hla]
    refine callW_pure l7_awake_ok ?_
    simp only [go_sem, reduceCtorEq, Nat.reduceEqDiff, Nat.reduceAdd, Nat.reduceSub, Nat.reduceMul, Nat.reduceLeDiff, Int.reduceEq, Int.reduceLT, Int.reduceLE, Int.reduceAdd, Int.reduceMul, Int.reduceSub, Int.reduceNeg, Int.reduceToNat, reduceIte, Nat.reduceLT]
    rfl
  by_cases hlb : (60 : Int) < ((b.map byteC).length : Int)
  · simp only [go_sem, reduceCtorEq, Nat.reduceEqDiff, Nat.reduceAdd, Nat.reduceSub, Nat.reduceMul, Nat.reduceLeDiff, Int.reduceEq, Int.reduceLT, Int.reduceLE, Int.reduceAdd, Int.reduceMul, Int.reduceSub, Int.reduceNeg, Int.reduceToNat, reduceIte, Nat.reduceLT, hla, hlb]
    refine callW_pure l7_awake_ok ?_
    simp only [go_sem, reduceCtorEq, Nat.reduceEqDiff, Nat.reduceAdd, Nat.reduceSub, Nat.reduceMul, Nat.reduceLeDiff, Int.reduceEq, Int.reduceLT, Int.reduceLE, Int.reduceAdd, Int.reduceMul, Int.reduceSub, Int.reduceNeg, Int.reduceToNat, reduceIte, Nat.reduceLT]
    rfl
  have ka : a.length ≤ 60 := by simp at hla; omega
  have kb : b.length ≤ 60 := by simp at hlb; omega
  simp only [go_sem, reduceCtorEq, Nat.reduceEqDiff, Nat.reduceAdd, Nat.reduceSub, Nat.reduceMul, Nat.reduceLeDiff, Int.reduceEq, Int.reduceLT, Int.reduceLE, Int.reduceAdd, Int.reduceMul, Int.reduceSub, Int.reduceNeg, Int.reduceToNat, reduceIte, Nat.reduceLT, hla, hlb]
  refine callW_pure (l7_Make_ok a (by omega) ha) ?_
  simp only [go_sem, reduceCtorEq, Nat.reduceEqDiff, Nat.reduceAdd, Nat.reduceSub, Nat.reduceMul, Nat.reduceLeDiff, Int.reduceEq, Int.reduceLT, Int.reduceLE, Int.reduceAdd, Int.reduceMul, Int.reduceSub, Int.reduceNeg, Int.reduceToNat, reduceIte, Nat.reduceLT]
  refine callW_pure (l7_Make_ok b (by omega) hb) ?_
  obtain ⟨hx, hxl, _⟩ := makeL_ok a
  obtain ⟨hy, hyl, _⟩ := makeL_ok b
  have hxd : dotsL (listD a) = makeL a := rfl
  generalize makeL a = x at hx hxl hxd
  generalize makeL b = y at hy hyl
  simp only [go_sem, reduceCtorEq, Nat.reduceEqDiff, Nat.reduceAdd, Nat.reduceSub, Nat.reduceMul, Nat.reduceLeDiff, Int.reduceEq, Int.reduceLT, Int.reduceLE, Int.reduceAdd, Int.reduceMul, Int.reduceSub, Int.reduceNeg, Int.reduceToNat, reduceIte, Nat.reduceLT]
  have hlist : Pr 17 [.c (bytesC [n])] (.c (dotsC [bDot n])) := l7_List_ok [n] (by unfold Sm; simp) (by simpa using hn)
  refine callW_pure hlist ?_
  generalize bDot n = d
  simp only [go_sem, reduceCtorEq, Nat.reduceEqDiff, Nat.reduceAdd, Nat.reduceSub, Nat.reduceMul, Nat.reduceLeDiff, Int.reduceEq, Int.reduceLT, Int.reduceLE, Int.reduceAdd, Int.reduceMul, Int.reduceSub, Int.reduceNeg, Int.reduceToNat, reduceIte, Nat.reduceLT, ix_one2, row_only, mine_only, put_only]
  refine callW_pure (dots_Union_is x y (by omega) hx.right hy.right) ?_
  obtain ⟨hu, huh⟩ := unionL_ok hx.right hy.right
  have hr1 := r7_Union_is x y (by omega) hx.right hy.right
  generalize unionL x y = u at hu huh hr1
  simp only [go_sem, reduceCtorEq, Nat.reduceEqDiff, Nat.reduceAdd, Nat.reduceSub, Nat.reduceMul, Nat.reduceLeDiff, Int.reduceEq, Int.reduceLT, Int.reduceLE, Int.reduceAdd, Int.reduceMul, Int.reduceSub, Int.reduceNeg, Int.reduceToNat, reduceIte, Nat.reduceLT, row_only]
  refine callW_pure (dots_Minus_is x y (by omega) hx hy.right) ?_
  obtain ⟨hm, _, hmh⟩ := diffL_ok hx hy.right
  have hr2 := r7_Minus_is x y (by omega) hx hy.right
  generalize diffL x y = m at hm hmh hr2
  simp only [go_sem, reduceCtorEq, Nat.reduceEqDiff, Nat.reduceAdd, Nat.reduceSub, Nat.reduceMul, Nat.reduceLeDiff, Int.reduceEq, Int.reduceLT, Int.reduceLE, Int.reduceAdd, Int.reduceMul, Int.reduceSub, Int.reduceNeg, Int.reduceToNat, reduceIte, Nat.reduceLT, row_only]
  refine callW_pure (l7_List_ok a (by unfold Sm; omega) ha) ?_
  simp only [go_sem, reduceCtorEq, Nat.reduceEqDiff, Nat.reduceAdd, Nat.reduceSub, Nat.reduceMul, Nat.reduceLeDiff, Int.reduceEq, Int.reduceLT, Int.reduceLE, Int.reduceAdd, Int.reduceMul, Int.reduceSub, Int.reduceNeg, Int.reduceToNat, reduceIte, Nat.reduceLT, row_only]
  refine callW_pure (dots_Of_is (listD a) (by unfold Sm; simp [listD]; omega)) ?_
  rw [hxd]
  simp only [go_sem, reduceCtorEq, Nat.reduceEqDiff, Nat.reduceAdd, Nat.reduceSub, Nat.reduceMul, Nat.reduceLeDiff, Int.reduceEq, Int.reduceLT, Int.reduceLE, Int.reduceAdd, Int.reduceMul, Int.reduceSub, Int.reduceNeg, Int.reduceToNat, reduceIte, Nat.reduceLT, row_only]
  refine callW_pure (r7_SameRuns_ok x x) ?_
  simp only [go_sem, reduceCtorEq, Nat.reduceEqDiff, Nat.reduceAdd, Nat.reduceSub, Nat.reduceMul, Nat.reduceLeDiff, Int.reduceEq, Int.reduceLT, Int.reduceLE, Int.reduceAdd, Int.reduceMul, Int.reduceSub, Int.reduceNeg, Int.reduceToNat, reduceIte, Nat.reduceLT, row_only]
  refine callW_pure (dots_May_ok x) ?_
  rw [mayRuns_iff.2 hx]
  simp only [go_sem, reduceCtorEq, Nat.reduceEqDiff, Nat.reduceAdd, Nat.reduceSub, Nat.reduceMul, Nat.reduceLeDiff, Int.reduceEq, Int.reduceLT, Int.reduceLE, Int.reduceAdd, Int.reduceMul, Int.reduceSub, Int.reduceNeg, Int.reduceToNat, reduceIte, Nat.reduceLT, row_only]
  refine callW_pure hr1 ?_
  simp only [go_sem, reduceCtorEq, Nat.reduceEqDiff, Nat.reduceAdd, Nat.reduceSub, Nat.reduceMul, Nat.reduceLeDiff, Int.reduceEq, Int.reduceLT, Int.reduceLE, Int.reduceAdd, Int.reduceMul, Int.reduceSub, Int.reduceNeg, Int.reduceToNat, reduceIte, Nat.reduceLT, row_only]
  refine callW_pure (r7_SameRuns_ok u u) ?_
  simp only [go_sem, reduceCtorEq, Nat.reduceEqDiff, Nat.reduceAdd, Nat.reduceSub, Nat.reduceMul, Nat.reduceLeDiff, Int.reduceEq, Int.reduceLT, Int.reduceLE, Int.reduceAdd, Int.reduceMul, Int.reduceSub, Int.reduceNeg, Int.reduceToNat, reduceIte, Nat.reduceLT, row_only]
  refine callW_pure hr2 ?_
  simp only [go_sem, reduceCtorEq, Nat.reduceEqDiff, Nat.reduceAdd, Nat.reduceSub, Nat.reduceMul, Nat.reduceLeDiff, Int.reduceEq, Int.reduceLT, Int.reduceLE, Int.reduceAdd, Int.reduceMul, Int.reduceSub, Int.reduceNeg, Int.reduceToNat, reduceIte, Nat.reduceLT, row_only]
  refine callW_pure (r7_SameRuns_ok m m) ?_
  simp only [go_sem, reduceCtorEq, Nat.reduceEqDiff, Nat.reduceAdd, Nat.reduceSub, Nat.reduceMul, Nat.reduceLeDiff, Int.reduceEq, Int.reduceLT, Int.reduceLE, Int.reduceAdd, Int.reduceMul, Int.reduceSub, Int.reduceNeg, Int.reduceToNat, reduceIte, Nat.reduceLT, row_only]
  refine callW_pure (dots_May_ok u) ?_
  rw [mayRuns_iff.2 hu]
  simp only [go_sem, reduceCtorEq, Nat.reduceEqDiff, Nat.reduceAdd, Nat.reduceSub, Nat.reduceMul, Nat.reduceLeDiff, Int.reduceEq, Int.reduceLT, Int.reduceLE, Int.reduceAdd, Int.reduceMul, Int.reduceSub, Int.reduceNeg, Int.reduceToNat, reduceIte, Nat.reduceLT, row_only]
  refine callW_pure (dots_May_ok m) ?_
  rw [mayRuns_iff.2 hm]
  simp only [go_sem, reduceCtorEq, Nat.reduceEqDiff, Nat.reduceAdd, Nat.reduceSub, Nat.reduceMul, Nat.reduceLeDiff, Int.reduceEq, Int.reduceLT, Int.reduceLE, Int.reduceAdd, Int.reduceMul, Int.reduceSub, Int.reduceNeg, Int.reduceToNat, reduceIte, Nat.reduceLT, row_only]
  refine callW_pure (dots_Has_ok u d) ?_
  have h1 := huh d
  have h2 := hmh d
  cases hxx : hasDot x d <;> cases hyy : hasDot y d <;> rw [hxx, hyy] at h1 h2 <;> simp only [Bool.or_self, Bool.or_true, Bool.true_or, Bool.or_false, Bool.false_or, Bool.and_self, Bool.and_true, Bool.and_false, Bool.false_and, Bool.true_and, Bool.not_true, Bool.not_false] at h1 h2 <;> rw [h1] <;> simp only [go_sem, reduceCtorEq, Nat.reduceEqDiff, Nat.reduceAdd, Nat.reduceSub, Nat.reduceMul, Nat.reduceLeDiff, Int.reduceEq, Int.reduceLT, Int.reduceLE, Int.reduceAdd, Int.reduceMul, Int.reduceSub, Int.reduceNeg, Int.reduceToNat, reduceIte, Nat.reduceLT, row_only] <;> refine callW_pure (r7_Has_ok x d) ?_ <;> rw [hxx] <;> simp only [go_sem, reduceCtorEq, Nat.reduceEqDiff, Nat.reduceAdd, Nat.reduceSub, Nat.reduceMul, Nat.reduceLeDiff, Int.reduceEq, Int.reduceLT, Int.reduceLE, Int.reduceAdd, Int.reduceMul, Int.reduceSub, Int.reduceNeg, Int.reduceToNat, reduceIte, Nat.reduceLT, row_only]
  all_goals repeat' (first
    | (refine callW_pure (r7_Has_ok y d) ?_; rw [hyy])
    | (refine callW_pure (dots_Has_ok m d) ?_; rw [h2])
    | (refine callW_pure (r7_Has_ok x d) ?_; rw [hxx])
    | (refine callW_pure (dots_Last_ok x d.dev) ?_)
    | (refine callW_pure (r7_Last_ok x d.dev) ?_)
    | (refine callW_pure l7_awake_ok ?_)
    | (simp only [go_sem, reduceCtorEq, Nat.reduceEqDiff, Nat.reduceAdd, Nat.reduceSub, Nat.reduceMul, Nat.reduceLeDiff, Int.reduceEq, Int.reduceLT, Int.reduceLE, Int.reduceAdd, Int.reduceMul, Int.reduceSub, Int.reduceNeg, Int.reduceToNat, reduceIte, Nat.reduceLT, row_only, beq_self_eq_true])
    | rfl)

theorem l7_DotsMade_law (a : List Nat) (_ : a.length ≤ maxLen) (ha : ∀ n ∈ a, n < 256) (b : List Nat) (_ : b.length ≤ maxLen) (hb : ∀ n ∈ b, n < 256) (n : Int) (hn : IntKind.min .u8 ≤ n ∧ n ≤ IntKind.max .u8) : Pr 10 [.c (bytesC a), .c (bytesC b), .c (.int .u8 n)] (bC true) := by
  have h1 : 0 ≤ n := hn.1
  have h2 : n ≤ 255 := hn.2
  have := l7_DotsMade_ok a b ha hb n.toNat (by omega)
  rwa [Int.toNat_of_nonneg h1] at this

end Go.Proofs.Ytfbkolkkpkonfaa.Eng
