/- The laws MutateAll, MutateMade: their calls come to true. -/
import Derived.Test.YtnccbccnjjachaaGreatDoorZLawM0
import Derived.Test.YtnccbccnjjachaaGreatDoorZApartR
import Derived.Test.YtnccbccnjjachaaGreatDoorZDoU
import Derived.Test.YtnccbccnjjachaaGreatDoorZLitB1
namespace Go.Proofs.YtnccbccnjjachaaGreatDoor.Eng
open Go
set_option linter.unusedVariables false
set_option linter.unusedSimpArgs false

theorem l11_MutateAll_ok (s : State) (dev : Int) (o : OpR) : Pr 3 [.agg s.cells, iC dev, .agg o.cells] (bC true) := by
  refine pure_of mixed is_l11_MutateAll (by simp [closedAs, closedA, closedC, State.closed, OpR.cells, closedCs]) fun _ T => ?_
  have haw := l11_awake_ok
  have hgr := l8_Great_ok s
  have hmy := r7_May_ok s
  obtain ⟨kind, key, item, n⟩ := o
  unfold c_l11_MutateAll
  have fin : ∀ (e : Env) (H : Heap), WL (progT Tryz.prog T) ⟨[.tmp 6], fun u E => viewA E u = some (bC true)⟩ [.code .ret] false [⟨some 6, .mv (.t 29), none, false⟩] (updO e (some 29) (bC true)) H := by
    intro e H
    simp only [go_sem, reduceCtorEq, Nat.reduceEqDiff, Nat.reduceAdd, Nat.reduceSub, Nat.reduceMul, Nat.reduceLeDiff, Int.reduceEq, Int.reduceLT, Int.reduceLE, Int.reduceAdd, Int.reduceMul, Int.reduceSub, Int.reduceNeg, Int.reduceToNat, reduceIte, Nat.reduceLT]
    rfl
  simp only [go_sem, reduceCtorEq, Nat.reduceEqDiff, Nat.reduceAdd, Nat.reduceSub, Nat.reduceMul, Nat.reduceLeDiff, Int.reduceEq, Int.reduceLT, Int.reduceLE, Int.reduceAdd, Int.reduceMul, Int.reduceSub, Int.reduceNeg, Int.reduceToNat, reduceIte, Nat.reduceLT, closed_runs, closed_facts]
  refine callW_pure hgr ?_
  cases hg : great s with
  | true =>
    simp only [go_sem, reduceCtorEq, Nat.reduceEqDiff, Nat.reduceAdd, Nat.reduceSub, Nat.reduceMul, Nat.reduceLeDiff, Int.reduceEq, Int.reduceLT, Int.reduceLE, Int.reduceAdd, Int.reduceMul, Int.reduceSub, Int.reduceNeg, Int.reduceToNat, reduceIte, Nat.reduceLT]
    refine callW_pure haw ?_
    simp only [go_sem, reduceCtorEq, Nat.reduceEqDiff, Nat.reduceAdd, Nat.reduceSub, Nat.reduceMul, Nat.reduceLeDiff, Int.reduceEq, Int.reduceLT, Int.reduceLE, Int.reduceAdd, Int.reduceMul, Int.reduceSub, Int.reduceNeg, Int.reduceToNat, reduceIte, Nat.reduceLT]
    rfl
  | false =>
    simp only [great, Bool.or_eq_false_iff, decide_eq_false_iff_not] at hg
    simp only [go_sem, reduceCtorEq, Nat.reduceEqDiff, Nat.reduceAdd, Nat.reduceSub, Nat.reduceMul, Nat.reduceLeDiff, Int.reduceEq, Int.reduceLT, Int.reduceLE, Int.reduceAdd, Int.reduceMul, Int.reduceSub, Int.reduceNeg, Int.reduceToNat, reduceIte, Nat.reduceLT]
    refine callW_pure hmy ?_
    cases hm : mayState s with
    | false =>
      simp only [go_sem, reduceCtorEq, Nat.reduceEqDiff, Nat.reduceAdd, Nat.reduceSub, Nat.reduceMul, Nat.reduceLeDiff, Int.reduceEq, Int.reduceLT, Int.reduceLE, Int.reduceAdd, Int.reduceMul, Int.reduceSub, Int.reduceNeg, Int.reduceToNat, reduceIte, Nat.reduceLT]
      refine callW_pure haw ?_
      simp only [go_sem, reduceCtorEq, Nat.reduceEqDiff, Nat.reduceAdd, Nat.reduceSub, Nat.reduceMul, Nat.reduceLeDiff, Int.reduceEq, Int.reduceLT, Int.reduceLE, Int.reduceAdd, Int.reduceMul, Int.reduceSub, Int.reduceNeg, Int.reduceToNat, reduceIte, Nat.reduceLT]
      rfl
    | true =>
      have hgood := (mayState_iff.1 hm).1.toGood
      by_cases hk : (key.size : Int) > 100
      · simp only [go_sem, reduceCtorEq, Nat.reduceEqDiff, Nat.reduceAdd, Nat.reduceSub, Nat.reduceMul, Nat.reduceLeDiff, Int.reduceEq, Int.reduceLT, Int.reduceLE, Int.reduceAdd, Int.reduceMul, Int.reduceSub, Int.reduceNeg, Int.reduceToNat, reduceIte, Nat.reduceLT, hk]
        refine callW_pure haw ?_
        simp only [go_sem, reduceCtorEq, Nat.reduceEqDiff, Nat.reduceAdd, Nat.reduceSub, Nat.reduceMul, Nat.reduceLeDiff, Int.reduceEq, Int.reduceLT, Int.reduceLE, Int.reduceAdd, Int.reduceMul, Int.reduceSub, Int.reduceNeg, Int.reduceToNat, reduceIte, Nat.reduceLT]
        rfl
      by_cases hi : (item.size : Int) > 400
      · simp only [go_sem, reduceCtorEq, Nat.reduceEqDiff, Nat.reduceAdd, Nat.reduceSub, Nat.reduceMul, Nat.reduceLeDiff, Int.reduceEq, Int.reduceLT, Int.reduceLE, Int.reduceAdd, Int.reduceMul, Int.reduceSub, Int.reduceNeg, Int.reduceToNat, reduceIte, Nat.reduceLT, hk, hi]
        refine callW_pure haw ?_
        simp only [go_sem, reduceCtorEq, Nat.reduceEqDiff, Nat.reduceAdd, Nat.reduceSub, Nat.reduceMul, Nat.reduceLeDiff, Int.reduceEq, Int.reduceLT, Int.reduceLE, Int.reduceAdd, Int.reduceMul, Int.reduceSub, Int.reduceNeg, Int.reduceToNat, reduceIte, Nat.reduceLT]
        rfl
      have d1 := mutate_Do_ok s dev ⟨kind, key, item, n⟩ hgood (by omega) (by omega)
      have d2 := r7_Do_ok s dev ⟨kind, key, item, n⟩ hgood (by omega) (by omega)
      generalize doL s dev ⟨kind, key, item, n⟩ = v at *
      have sm := r7_Same_ok v.1 v.1
      have nm := l1_Num_ok v.2
      simp only [go_sem, reduceCtorEq, Nat.reduceEqDiff, Nat.reduceAdd, Nat.reduceSub, Nat.reduceMul, Nat.reduceLeDiff, Int.reduceEq, Int.reduceLT, Int.reduceLE, Int.reduceAdd, Int.reduceMul, Int.reduceSub, Int.reduceNeg, Int.reduceToNat, reduceIte, Nat.reduceLT, hk, hi]
      refine callW_pure d1 ?_
      simp only [go_sem, reduceCtorEq, Nat.reduceEqDiff, Nat.reduceAdd, Nat.reduceSub, Nat.reduceMul, Nat.reduceLeDiff, Int.reduceEq, Int.reduceLT, Int.reduceLE, Int.reduceAdd, Int.reduceMul, Int.reduceSub, Int.reduceNeg, Int.reduceToNat, reduceIte, Nat.reduceLT]
      refine callW_pure d2 ?_
      simp only [go_sem, reduceCtorEq, Nat.reduceEqDiff, Nat.reduceAdd, Nat.reduceSub, Nat.reduceMul, Nat.reduceLeDiff, Int.reduceEq, Int.reduceLT, Int.reduceLE, Int.reduceAdd, Int.reduceMul, Int.reduceSub, Int.reduceNeg, Int.reduceToNat, reduceIte, Nat.reduceLT, doneC]
      refine callW_pure sm ?_
      simp only [go_sem, reduceCtorEq, Nat.reduceEqDiff, Nat.reduceAdd, Nat.reduceSub, Nat.reduceMul, Nat.reduceLeDiff, Int.reduceEq, Int.reduceLT, Int.reduceLE, Int.reduceAdd, Int.reduceMul, Int.reduceSub, Int.reduceNeg, Int.reduceToNat, reduceIte, Nat.reduceLT]
      refine callW_pure nm ?_
      simp only [go_sem, reduceCtorEq, Nat.reduceEqDiff, Nat.reduceAdd, Nat.reduceSub, Nat.reduceMul, Nat.reduceLeDiff, Int.reduceEq, Int.reduceLT, Int.reduceLE, Int.reduceAdd, Int.reduceMul, Int.reduceSub, Int.reduceNeg, Int.reduceToNat, reduceIte, Nat.reduceLT]
      refine callW_pure haw ?_
      simp only [go_sem, reduceCtorEq, Nat.reduceEqDiff, Nat.reduceAdd, Nat.reduceSub, Nat.reduceMul, Nat.reduceLeDiff, Int.reduceEq, Int.reduceLT, Int.reduceLE, Int.reduceAdd, Int.reduceMul, Int.reduceSub, Int.reduceNeg, Int.reduceToNat, reduceIte, Nat.reduceLT]
      rfl

theorem l11_MutateAll_law (s : State) (_ : s.ok) (dev : Int) (_ : IntKind.min .i64 ≤ dev ∧ dev ≤ IntKind.max .i64) (o : OpR) (_ : o.key.size ≤ maxLen ∧ o.item.size ≤ maxLen) :
    Pr 3 [.agg s.cells, .c (.int .i64 dev), .agg o.cells] (bC true) := l11_MutateAll_ok s dev o

theorem l11_MutateMade_ok (ns : List Nat) (hb : ∀ n ∈ ns, n < 256) (which dev a b : Nat) (hw : which < 256) (hd : dev < 256) (ha : a < 256) (hbb : b < 256) :
    Pr 4 [.c (bytesC ns), .c (.int .u8 (which : Int)), .c (.int .u8 (dev : Int)), .c (.int .u8 (a : Int)), .c (.int .u8 (b : Int))] (bC true) := by
  refine pure_of mixed is_l11_MutateMade (by simp [closedAs, closedA, closedC, bytesC, closed_bytes]) fun _ T => ?_
  unfold c_l11_MutateMade
  have hap := l9_Apart_ok ns hb
  have hgp := apartS_group ns
  generalize apartS ns = l at *
  have rw' : (which : Int).tmod 4 = ((which % 4 : Nat) : Int) := by rw [Int.tmod_eq_emod_of_nonneg (by omega)]; omega
  have rd : (dev : Int).tmod 4 = ((dev % 4 : Nat) : Int) := by rw [Int.tmod_eq_emod_of_nonneg (by omega)]; omega
  have wd : IntKind.wrap .i64 (dev : Int) = dev := wrap64 (by omega)
  have sx := getD_some hgp.len (which % 4) (Nat.mod_lt _ (by omega))
  generalize (l[which % 4]?).getD ⟨[], []⟩ = s at sx
  have ms : s ∈ l := List.mem_of_getElem? sx
  have rx : (l.map State.cells)[which % 4]? = some s.cells := by simp [sx]
  have hgood := hgp.good ms
  obtain ⟨z1, z2⟩ := hgp.sizes (by omega) (by omega) ms
  have hop := l8_Op_ok a b ha hbb
  have d1 := mutate_Do_ok s ((dev % 4 : Nat) : Int) (opOf a b) hgood (by omega) (by omega)
  have d2 := r7_Do_ok s ((dev % 4 : Nat) : Int) (opOf a b) hgood (by omega) (by omega)
  have hfine := doL_fine hgood (dev := ((dev % 4 : Nat) : Int)) (o := opOf a b)
  obtain ⟨_, _, q3⟩ := doL_good hgood (dev := ((dev % 4 : Nat) : Int)) (o := opOf a b)
  have hmay : mayState (doL s ((dev % 4 : Nat) : Int) (opOf a b)).1 = true := mayState_iff.2 ⟨hfine, by omega⟩
  have hmy := r7_May_ok (doL s ((dev % 4 : Nat) : Int) (opOf a b)).1
  rw [hmay] at hmy
  generalize doL s ((dev % 4 : Nat) : Int) (opOf a b) = v at *
  have sm := r7_Same_ok v.1 v.1
  have nm := l1_Num_ok v.2
  simp only [go_sem, reduceCtorEq, Nat.reduceEqDiff, Nat.reduceAdd, Nat.reduceSub, Nat.reduceMul, Nat.reduceLeDiff, Int.reduceEq, Int.reduceLT, Int.reduceLE, Int.reduceAdd, Int.reduceMul, Int.reduceSub, Int.reduceNeg, Int.reduceToNat, reduceIte, Nat.reduceLT]
  refine callW_pure hap ?_
  simp only [go_sem, reduceCtorEq, Nat.reduceEqDiff, Nat.reduceAdd, Nat.reduceSub, Nat.reduceMul, Nat.reduceLeDiff, Int.reduceEq, Int.reduceLT, Int.reduceLE, Int.reduceAdd, Int.reduceMul, Int.reduceSub, Int.reduceNeg, Int.reduceToNat, reduceIte, Nat.reduceLT, vBin_rem, rw', rx]
  refine callW_pure hop ?_
  simp only [go_sem, reduceCtorEq, Nat.reduceEqDiff, Nat.reduceAdd, Nat.reduceSub, Nat.reduceMul, Nat.reduceLeDiff, Int.reduceEq, Int.reduceLT, Int.reduceLE, Int.reduceAdd, Int.reduceMul, Int.reduceSub, Int.reduceNeg, Int.reduceToNat, reduceIte, Nat.reduceLT, vBin_rem, wd, rd]
  refine callW_pure d1 ?_
  simp only [go_sem, reduceCtorEq, Nat.reduceEqDiff, Nat.reduceAdd, Nat.reduceSub, Nat.reduceMul, Nat.reduceLeDiff, Int.reduceEq, Int.reduceLT, Int.reduceLE, Int.reduceAdd, Int.reduceMul, Int.reduceSub, Int.reduceNeg, Int.reduceToNat, reduceIte, Nat.reduceLT, vBin_rem, wd, rd]
  refine callW_pure hop ?_
  simp only [go_sem, reduceCtorEq, Nat.reduceEqDiff, Nat.reduceAdd, Nat.reduceSub, Nat.reduceMul, Nat.reduceLeDiff, Int.reduceEq, Int.reduceLT, Int.reduceLE, Int.reduceAdd, Int.reduceMul, Int.reduceSub, Int.reduceNeg, Int.reduceToNat, reduceIte, Nat.reduceLT]
  refine callW_pure d2 ?_
  simp only [go_sem, reduceCtorEq, Nat.reduceEqDiff, Nat.reduceAdd, Nat.reduceSub, Nat.reduceMul, Nat.reduceLeDiff, Int.reduceEq, Int.reduceLT, Int.reduceLE, Int.reduceAdd, Int.reduceMul, Int.reduceSub, Int.reduceNeg, Int.reduceToNat, reduceIte, Nat.reduceLT, doneC]
  refine callW_pure sm ?_
  simp only [go_sem, reduceCtorEq, Nat.reduceEqDiff, Nat.reduceAdd, Nat.reduceSub, Nat.reduceMul, Nat.reduceLeDiff, Int.reduceEq, Int.reduceLT, Int.reduceLE, Int.reduceAdd, Int.reduceMul, Int.reduceSub, Int.reduceNeg, Int.reduceToNat, reduceIte, Nat.reduceLT]
  refine callW_pure nm ?_
  simp only [go_sem, reduceCtorEq, Nat.reduceEqDiff, Nat.reduceAdd, Nat.reduceSub, Nat.reduceMul, Nat.reduceLeDiff, Int.reduceEq, Int.reduceLT, Int.reduceLE, Int.reduceAdd, Int.reduceMul, Int.reduceSub, Int.reduceNeg, Int.reduceToNat, reduceIte, Nat.reduceLT]
  refine callW_pure hmy ?_
  simp only [go_sem, reduceCtorEq, Nat.reduceEqDiff, Nat.reduceAdd, Nat.reduceSub, Nat.reduceMul, Nat.reduceLeDiff, Int.reduceEq, Int.reduceLT, Int.reduceLE, Int.reduceAdd, Int.reduceMul, Int.reduceSub, Int.reduceNeg, Int.reduceToNat, reduceIte, Nat.reduceLT]
  refine callW_pure l11_awake_ok ?_
  simp only [go_sem, reduceCtorEq, Nat.reduceEqDiff, Nat.reduceAdd, Nat.reduceSub, Nat.reduceMul, Nat.reduceLeDiff, Int.reduceEq, Int.reduceLT, Int.reduceLE, Int.reduceAdd, Int.reduceMul, Int.reduceSub, Int.reduceNeg, Int.reduceToNat, reduceIte, Nat.reduceLT]
  rfl

theorem l11_MutateMade_law (ns : List Nat) (_ : ns.length ≤ maxLen) (hb : ∀ n ∈ ns, n < 256) (w : Int) (hw : IntKind.min .u8 ≤ w ∧ w ≤ IntKind.max .u8) (d : Int) (hd : IntKind.min .u8 ≤ d ∧ d ≤ IntKind.max .u8) (a : Int) (ha : IntKind.min .u8 ≤ a ∧ a ≤ IntKind.max .u8) (b : Int) (hbb : IntKind.min .u8 ≤ b ∧ b ≤ IntKind.max .u8) :
    Pr 4 [.c (bytesC ns), .c (.int .u8 w), .c (.int .u8 d), .c (.int .u8 a), .c (.int .u8 b)] (bC true) := by
  obtain ⟨w, rfl, q1⟩ := u8_nat hw
  obtain ⟨d, rfl, q2⟩ := u8_nat hd
  obtain ⟨a, rfl, q3⟩ := u8_nat ha
  obtain ⟨b, rfl, q4⟩ := u8_nat hbb
  exact l11_MutateMade_ok ns hb w d a b q1 q2 q3 q4

end Go.Proofs.YtnccbccnjjachaaGreatDoor.Eng
