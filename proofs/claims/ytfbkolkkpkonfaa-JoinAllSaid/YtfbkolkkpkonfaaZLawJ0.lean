/- The laws' own example of join, and what the laws need of groups. No statement of the seat is proved here. -/
import Derived.Test.YtfbkolkkpkonfaaZApartR
import Derived.Test.YtfbkolkkpkonfaaZJoinV
namespace Go.Proofs.Ytfbkolkkpkonfaa.Eng
open Go Go.Sort
set_option linter.unusedVariables false
set_option linter.unusedSimpArgs false

theorem join_nil_r {a : State} (ha : Good a) : joinL a ⟨[], []⟩ = a := by
  refine (joinL_good ha .nil).ext ha (fun d => ?_) fun f => ?_
  · rw [joinL_seen ha.norm .nil]; simp [hasDot]
  · show f ∈ joinF a _ ↔ _
    rw [mem_joinF]; simp [keepA, hasDot]
theorem join_nil_l {a : State} (ha : Good a) : joinL ⟨[], []⟩ a = a := by
  refine (joinL_good .nil ha).ext ha (fun d => ?_) fun f => ?_
  · rw [joinL_seen .nil ha.norm]; simp [hasDot]
  · show f ∈ joinF _ a ↔ _
    rw [mem_joinF]; simp [keepB, hasDot]

theorem make_one : (makeS [0, 1]).facts.length = 1 ∧ (makeS [0, 1]).seen.length ≤ 1 := by
  have h1 : makeS [0, 1] = stepS ⟨[], []⟩ 0 (opOf 0 1) := rfl
  have hb : badOp 0 (opOf 0 1) = false := by decide
  have hm : makes (opOf 0 1) = true := by decide
  have hl : largeF (madeF ⟨[], []⟩ 0 (opOf 0 1)) = false := by decide
  have hd : deltaL ⟨[], []⟩ 0 (opOf 0 1) = ⟨dotsL ((goneL ⟨[], []⟩ 0 (opOf 0 1)).map Fact.dot ++ [(madeF ⟨[], []⟩ 0 (opOf 0 1)).dot]), [madeF ⟨[], []⟩ 0 (opOf 0 1)]⟩ := by unfold deltaL; rw [hm]; rfl
  have hj : (joinL ⟨[], []⟩ (deltaL ⟨[], []⟩ 0 (opOf 0 1))).facts.length = 1 := by
    show (joinF _ _).length = 1
    rw [hd]
    unfold joinF
    rw [(sortL_spec cmpFact_swo _).1.length_eq]
    simp [keepB, hasDot]
  have hdo : doL ⟨[], []⟩ 0 (opOf 0 1) = (deltaL ⟨[], []⟩ 0 (opOf 0 1), 0) := by
    unfold doL
    rw [if_neg (by simp [hb]), if_neg (fun h => by rw [hm] at h; cases h.2), if_neg (by simp [hl]), if_neg (by rw [hj]; omega)]
  rw [h1]
  unfold stepS
  rw [hdo, if_pos rfl]
  refine ⟨hj, ?_⟩
  have h2 := (delta_len (s := ⟨[], []⟩) (dev := 0) (o := opOf 0 1)).1
  have h3 := unionL_len (a := []) (b := (deltaL ⟨[], []⟩ 0 (opOf 0 1)).seen)
  simp only [List.length_nil] at h2 h3
  exact Nat.le_trans h3 (by omega)

theorem l9_awake_ok : Pr 30 [] (bC true) := by
  refine pure_of mixed is_l9_awake rfl fun hl T => ?_
  unfold c_l9_awake
  simp only [go_sem, reduceCtorEq, Nat.reduceEqDiff, Nat.reduceAdd, Nat.reduceSub, Nat.reduceMul, Nat.reduceLeDiff, Int.reduceEq, Int.reduceLT, Int.reduceLE, Int.reduceAdd, Int.reduceMul, Int.reduceSub, Int.reduceNeg, Int.reduceToNat, reduceIte, Nat.reduceLT]
  refine callW_pure (l8_Make_ok [0, 1] (by simp [maxLen]) (by simp)) ?_
  obtain ⟨hf, h1, h2⟩ := makeS_fine [0, 1]
  obtain ⟨hone, hsn⟩ := make_one
  generalize makeS [0, 1] = s at *
  have e1 : ((s.facts.map Fact.cells).length : Int) = 1 := by simp [hone]
  have hg := hf.toGood
  simp only [go_sem, reduceCtorEq, Nat.reduceEqDiff, Nat.reduceAdd, Nat.reduceSub, Nat.reduceMul, Nat.reduceLeDiff, Int.reduceEq, Int.reduceLT, Int.reduceLE, Int.reduceAdd, Int.reduceMul, Int.reduceSub, Int.reduceNeg, Int.reduceToNat, reduceIte, Nat.reduceLT, e1]
  refine callW_pure ((join_Join_ok s ⟨[], []⟩ hg .nil (by simp; omega) (by simp; omega)).wk (.cons (.same _) (.cons SC.nil.wk .nil))) ?_
  rw [join_nil_r hg]
  simp only [go_sem, reduceCtorEq, Nat.reduceEqDiff, Nat.reduceAdd, Nat.reduceSub, Nat.reduceMul, Nat.reduceLeDiff, Int.reduceEq, Int.reduceLT, Int.reduceLE, Int.reduceAdd, Int.reduceMul, Int.reduceSub, Int.reduceNeg, Int.reduceToNat, reduceIte, Nat.reduceLT]
  refine callW_pure (r7_Same_ok s s) ?_
  have hc : closedCs [Cell.lst 3 (s.seen.map Rn.cells), Cell.lst 6 (s.facts.map Fact.cells)] = true := s.closed
  simp only [go_sem, reduceCtorEq, Nat.reduceEqDiff, Nat.reduceAdd, Nat.reduceSub, Nat.reduceMul, Nat.reduceLeDiff, Int.reduceEq, Int.reduceLT, Int.reduceLE, Int.reduceAdd, Int.reduceMul, Int.reduceSub, Int.reduceNeg, Int.reduceToNat, reduceIte, Nat.reduceLT, hc, beq_self_eq_true]
  have ha : allL [s, s] = s := by
    show joinL (joinL ⟨[], []⟩ s) s = s
    rw [join_nil_l hg, join_idem hg]
  refine callW_pure (join_All_ok [s, s] (by intro x hx; simp at hx; subst hx; exact hg) (by intro x hx; simp at hx; subst hx; exact ⟨by omega, by omega⟩) (by simp)) ?_
  rw [ha]
  simp only [go_sem, reduceCtorEq, Nat.reduceEqDiff, Nat.reduceAdd, Nat.reduceSub, Nat.reduceMul, Nat.reduceLeDiff, Int.reduceEq, Int.reduceLT, Int.reduceLE, Int.reduceAdd, Int.reduceMul, Int.reduceSub, Int.reduceNeg, Int.reduceToNat, reduceIte, Nat.reduceLT]
  refine callW_pure (r7_Same_ok s s) ?_
  simp only [go_sem, reduceCtorEq, Nat.reduceEqDiff, Nat.reduceAdd, Nat.reduceSub, Nat.reduceMul, Nat.reduceLeDiff, Int.reduceEq, Int.reduceLT, Int.reduceLE, Int.reduceAdd, Int.reduceMul, Int.reduceSub, Int.reduceNeg, Int.reduceToNat, reduceIte, Nat.reduceLT]
  simp [viewA, viewFn, viewC, viewFs, viewCs, viewAs, closedC, closedCs]

end Go.Proofs.Ytfbkolkkpkonfaa.Eng
