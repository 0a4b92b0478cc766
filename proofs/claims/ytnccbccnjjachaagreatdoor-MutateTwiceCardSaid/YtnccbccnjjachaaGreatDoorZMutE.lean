/- The contracts of mutate.delta and mutate.Do. No statement of the seat is proved here. -/
import Derived.Test.YtnccbccnjjachaaGreatDoorZMutD
namespace Go.Proofs.YtnccbccnjjachaaGreatDoor.Eng
open Go
set_option linter.unusedVariables false
set_option linter.unusedSimpArgs false

theorem mutate_delta_ok (s : State) (dev : Int) (o : OpR) (hg : Good s) (hs1 : s.seen.length ≤ 100000) (hs2 : s.facts.length ≤ 1000) :
    Pr 35 [.agg s.cells, iC dev, .agg o.cells] (.tup [.agg (doL s dev o).1.cells, .c (errC (doL s dev o).2)]) := by
  refine pure_ofW mixed is_mutate_delta (by simp [closedAs, closedA, closedC, State.closed, OpR.cells, closedCs]) fun _ T => ?_
  have hmay := mutate_may_ok dev o
  have hlast := dots_Last_ok s.seen dev
  have hln := lastL_le (d := dev) hg.norm.right
  have hgl : (goneL s dev o).length ≤ 1000 := Nat.le_trans (List.length_filter_le _ _) hs2
  have hml : (madeL s dev o).length ≤ 1 := by unfold madeL; split <;> simp
  generalize hv : doL s dev o = v
  unfold doL at hv
  unfold c_mutate_delta
  have w1 : IntKind.wrap .i64 (lastL s.seen dev + 1) = lastL s.seen dev + 1 := wrap64 (by omega)
  have ho : closedCs o.cells = true := rfl
  simp only [go_sem, reduceCtorEq, Nat.reduceEqDiff, Nat.reduceAdd, Nat.reduceSub, Nat.reduceMul, Nat.reduceLeDiff, Int.reduceEq, Int.reduceLT, Int.reduceLE, Int.reduceAdd, Int.reduceMul, Int.reduceSub, Int.reduceNeg, Int.reduceToNat, reduceIte, Nat.reduceLT, closed_runs, closed_facts]
  refine callW_pure hmay ?_
  cases hb : badOp dev o with
  | true =>
    rw [hb, if_pos rfl] at hv
    subst hv
    simp only [go_sem, reduceCtorEq, Nat.reduceEqDiff, Nat.reduceAdd, Nat.reduceSub, Nat.reduceMul, Nat.reduceLeDiff, Int.reduceEq, Int.reduceLT, Int.reduceLE, Int.reduceAdd, Int.reduceMul, Int.reduceSub, Int.reduceNeg, Int.reduceToNat, reduceIte, Nat.reduceLT]
    exact told_err (by omega)
  | false =>
    obtain ⟨_, _, hk1, hk5⟩ := badOp_dev hb
    rw [hb, if_neg (by simp)] at hv
    have hmade := mutate_made_ok o ⟨dev, lastL s.seen dev + 1⟩ (goneL s dev o) ⟨hk1, hk5⟩ (by omega)
    rw [madeBy_is] at hmade
    have hmade' : Pr 44 [.agg o.cells, .agg (Dot.cells ⟨dev, lastL s.seen dev + 1⟩), .c (factsC (goneL s dev o))] (.c (factsC (madeL s dev o))) := hmade
    simp only [go_sem, reduceCtorEq, Nat.reduceEqDiff, Nat.reduceAdd, Nat.reduceSub, Nat.reduceMul, Nat.reduceLeDiff, Int.reduceEq, Int.reduceLT, Int.reduceLE, Int.reduceAdd, Int.reduceMul, Int.reduceSub, Int.reduceNeg, Int.reduceToNat, reduceIte, Nat.reduceLT]
    refine callW_pure (mutate_gone_ok s dev o ⟨hk1, hk5⟩ (by omega)) ?_
    simp only [go_sem, reduceCtorEq, Nat.reduceEqDiff, Nat.reduceAdd, Nat.reduceSub, Nat.reduceMul, Nat.reduceLeDiff, Int.reduceEq, Int.reduceLT, Int.reduceLE, Int.reduceAdd, Int.reduceMul, Int.reduceSub, Int.reduceNeg, Int.reduceToNat, reduceIte, Nat.reduceLT]
    refine callW_pure hlast ?_
    simp only [go_sem, reduceCtorEq, Nat.reduceEqDiff, Nat.reduceAdd, Nat.reduceSub, Nat.reduceMul, Nat.reduceLeDiff, Int.reduceEq, Int.reduceLT, Int.reduceLE, Int.reduceAdd, Int.reduceMul, Int.reduceSub, Int.reduceNeg, Int.reduceToNat, reduceIte, Nat.reduceLT, w1]
    refine callW_pure hmade' ?_
    have hz : ((madeL s dev o).length : Int) + ((goneL s dev o).length : Int) = 0 ↔ (goneL s dev o = [] ∧ makes o = false) := by
      constructor
      · intro h
        refine ⟨List.eq_nil_of_length_eq_zero (by omega), ?_⟩
        cases hm : makes o with
        | false => rfl
        | true =>
          have : (madeL s dev o).length = 1 := by unfold madeL; rw [hm]; rfl
          omega
      · rintro ⟨h1, h2⟩
        unfold madeL
        rw [h1, h2]
        rfl
    have w2 : IntKind.wrap .i64 (((madeL s dev o).length : Int) + ((goneL s dev o).length : Int)) = ((madeL s dev o).length : Int) + ((goneL s dev o).length : Int) := wrap64 (by omega)
    by_cases h0 : goneL s dev o = [] ∧ makes o = false
    · rw [if_pos h0] at hv
      subst hv
      have hz' : (((madeL s dev o).length : Int) + ((goneL s dev o).length : Int) = 0) = True := eq_true (hz.2 h0)
      simp only [go_sem, reduceCtorEq, Nat.reduceEqDiff, Nat.reduceAdd, Nat.reduceSub, Nat.reduceMul, Nat.reduceLeDiff, Int.reduceEq, Int.reduceLT, Int.reduceLE, Int.reduceAdd, Int.reduceMul, Int.reduceSub, Int.reduceNeg, Int.reduceToNat, reduceIte, Nat.reduceLT, List.length_map, w2, hz']
      exact told_err (q := 2) (by omega)
    · rw [if_neg h0] at hv
      have hz' : ¬ (((madeL s dev o).length : Int) + ((goneL s dev o).length : Int) = 0) := fun h => h0 (hz.1 h)
      have hne : goneL s dev o ++ madeL s dev o ≠ [] := by
        intro h
        obtain ⟨h1, h2⟩ := List.append_eq_nil_iff.1 h
        exact hz' (by rw [h1, h2]; rfl)
      have hcat := slices_Concat_Fact_ok (goneL s dev o) (madeL s dev o) (by omega) hne
      have loop := mutate_delta_loop T hg hb hs1 hs2 (goneL s dev o ++ madeL s dev o) rfl (by simp; omega) hv
      simp only [go_sem, reduceCtorEq, Nat.reduceEqDiff, Nat.reduceAdd, Nat.reduceSub, Nat.reduceMul, Nat.reduceLeDiff, Int.reduceEq, Int.reduceLT, Int.reduceLE, Int.reduceAdd, Int.reduceMul, Int.reduceSub, Int.reduceNeg, Int.reduceToNat, reduceIte, Nat.reduceLT, List.length_map, w2, hz', closed_facts]
      refine callW_pure hcat ?_
      simp only [go_sem, reduceCtorEq, Nat.reduceEqDiff, Nat.reduceAdd, Nat.reduceSub, Nat.reduceMul, Nat.reduceLeDiff, Int.reduceEq, Int.reduceLT, Int.reduceLE, Int.reduceAdd, Int.reduceMul, Int.reduceSub, Int.reduceNeg, Int.reduceToNat, reduceIte, Nat.reduceLT, List.length_map]
      refine loop (goneL s dev o ++ madeL s dev o) [] _ _ rfl ?_ ?_ ?_ ?_ ?_ ?_ rfl rfl ?_ ?_ ?_
      any_goals simp only [go_sem, reduceCtorEq, Nat.reduceEqDiff, Nat.reduceAdd, Nat.reduceSub, Nat.reduceMul, Nat.reduceLeDiff, Int.reduceEq, Int.reduceLT, Int.reduceLE, Int.reduceAdd, Int.reduceMul, Int.reduceSub, Int.reduceNeg, Int.reduceToNat, reduceIte, Nat.reduceLT, List.length_nil, Int.natCast_zero, State.cells]
      · intro n s q z e; cases e
      · intro n s q z e; cases e
      · exact .nil

theorem mutate_Do_ok (s : State) (dev : Int) (o : OpR) (hg : Good s) (hs1 : s.seen.length ≤ 100000) (hs2 : s.facts.length ≤ 1000) :
    Pr 13 [.agg s.cells, iC dev, .agg o.cells] (.tup [.agg (doL s dev o).1.cells, iC (doL s dev o).2]) := by
  refine pure_ofW mixed is_mutate_Do (by simp [closedAs, closedA, closedC, State.closed, OpR.cells, closedCs]) fun _ T => ?_
  have hdel := mutate_delta_ok s dev o hg hs1 hs2
  have hnone : (doL s dev o).2 ≠ 0 → (doL s dev o).1 = ⟨[], []⟩ := by
    unfold doL
    intro h
    split
    · rfl
    split
    · rfl
    split
    · rfl
    split
    · rfl
    · exfalso; simp_all
  generalize doL s dev o = v at *
  obtain ⟨d, q⟩ := v
  obtain ⟨kind, key, item, n⟩ := o
  unfold c_mutate_Do
  simp only [go_sem, reduceCtorEq, Nat.reduceEqDiff, Nat.reduceAdd, Nat.reduceSub, Nat.reduceMul, Nat.reduceLeDiff, Int.reduceEq, Int.reduceLT, Int.reduceLE, Int.reduceAdd, Int.reduceMul, Int.reduceSub, Int.reduceNeg, Int.reduceToNat, reduceIte, Nat.reduceLT, closed_runs, closed_facts]
  refine callW_pure hdel ?_
  by_cases hq : q = 0
  · subst hq
    have he : errC 0 = .nilI := rfl
    simp only [go_sem, reduceCtorEq, Nat.reduceEqDiff, Nat.reduceAdd, Nat.reduceSub, Nat.reduceMul, Nat.reduceLeDiff, Int.reduceEq, Int.reduceLT, Int.reduceLE, Int.reduceAdd, Int.reduceMul, Int.reduceSub, Int.reduceNeg, Int.reduceToNat, reduceIte, Nat.reduceLT, he, bne_self_eq_false]
    refine callW_at (errors_As_nil _ _) (fun h => by cases h) ?_
    simp only [go_sem, reduceCtorEq, Nat.reduceEqDiff, Nat.reduceAdd, Nat.reduceSub, Nat.reduceMul, Nat.reduceLeDiff, Int.reduceEq, Int.reduceLT, Int.reduceLE, Int.reduceAdd, Int.reduceMul, Int.reduceSub, Int.reduceNeg, Int.reduceToNat, reduceIte, Nat.reduceLT]
    exact viewW_tup2 (told_S _ d) ⟨_, rfl, .same _⟩
  · have he : errC q = refusalC q := by unfold errC; rw [if_neg hq]
    have tb : (true != false) = true := rfl
    have hd : d = ⟨[], []⟩ := hnone hq
    subst hd
    simp only [go_sem, reduceCtorEq, Nat.reduceEqDiff, Nat.reduceAdd, Nat.reduceSub, Nat.reduceMul, Nat.reduceLeDiff, Int.reduceEq, Int.reduceLT, Int.reduceLE, Int.reduceAdd, Int.reduceMul, Int.reduceSub, Int.reduceNeg, Int.reduceToNat, reduceIte, Nat.reduceLT, he, tb]
    refine callW_at (errors_As_at kind key item n q 0 rfl) (fun h => by cases h) ?_
    simp only [go_sem, reduceCtorEq, Nat.reduceEqDiff, Nat.reduceAdd, Nat.reduceSub, Nat.reduceMul, Nat.reduceLeDiff, Int.reduceEq, Int.reduceLT, Int.reduceLE, Int.reduceAdd, Int.reduceMul, Int.reduceSub, Int.reduceNeg, Int.reduceToNat, reduceIte, Nat.reduceLT]
    refine run_fz ⟨2, { sz := 1, rows := [[.int .i64 q]] }, (by simp only [go_sem, reduceCtorEq, Nat.reduceEqDiff, Nat.reduceAdd, Nat.reduceSub, Nat.reduceMul, Nat.reduceLeDiff, Int.reduceEq, Int.reduceLT, Int.reduceLE, Int.reduceAdd, Int.reduceMul, Int.reduceSub, Int.reduceNeg, Int.reduceToNat, reduceIte, Nat.reduceLT]; rfl), rfl, rfl, rfl, ?_⟩
    have g10 : ∀ e : Env, e 10 = .c (.ptr 2 0 0) → frzEnv 2 { sz := 1, rows := [[.int .i64 q]] } e 10 = .c (.fp [.int .i64 q] 0) := fun e h => by rw [frzEnv_at, h]; rfl
    have g6 : ∀ e : Env, e 6 = .c (.ptr 0 0 0) → frzEnv 2 { sz := 1, rows := [[.int .i64 q]] } e 6 = .c (.ptr 0 0 0) := fun e h => by rw [frzEnv_at, h]; rfl
    have fin : ∀ e : Env, e 10 = .c (.fp [.int .i64 q] 0) → e 6 = .c (.ptr 0 0 0) → ∀ K, Run (progT Tryz.prog T) ⟨[.cell 6 true 2, .tmp 7], fun u E => viewW E u (.tup [.agg (State.cells ⟨[], []⟩), iC q])⟩
        (.code (.seq (.region [⟨some 27, .build [.nilS, .nilS] [], none, false⟩, ⟨some 28, .fld 0 (.t 10), none, false⟩, ⟨some 29, .loadF false 1 (.t 28), none, false⟩, ⟨none, .store 2 (.t 6) (.t 27), none, false⟩, ⟨some 7, .mv (.t 29), none, false⟩] true) .ret) :: K) e
        [{ sz := 2, rows := [[.nilS, .nilS]] }, { sz := 2, rows := [[.lst 3 [], .lst 6 []]] }, { sz := 1, rows := [[.int .i64 q]], live := false }] := fun e h10 h6 K => by
      simp only [go_sem, reduceCtorEq, Nat.reduceEqDiff, Nat.reduceAdd, Nat.reduceSub, Nat.reduceMul, Nat.reduceLeDiff, Int.reduceEq, Int.reduceLT, Int.reduceLE, Int.reduceAdd, Int.reduceMul, Int.reduceSub, Int.reduceNeg, Int.reduceToNat, reduceIte, Nat.reduceLT, h10, h6]
      exact viewW_tup2 SC.nil.told ⟨_, rfl, .same _⟩
    refine fin _ (g10 _ ?_) (g6 _ ?_) _
    all_goals simp only [go_sem, reduceCtorEq, Nat.reduceEqDiff, Nat.reduceAdd, Nat.reduceSub, Nat.reduceMul, Nat.reduceLeDiff, Int.reduceEq, Int.reduceLT, Int.reduceLE, Int.reduceAdd, Int.reduceMul, Int.reduceSub, Int.reduceNeg, Int.reduceToNat, reduceIte, Nat.reduceLT]

end Go.Proofs.YtnccbccnjjachaaGreatDoor.Eng
