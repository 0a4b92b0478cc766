/- The law MutateTwice: its call comes to true. -/
import Derived.Test.YtnccbccnjjachaaGreatDoorZLawM1
import Derived.Test.YtnccbccnjjachaaGreatDoorZLitB2
namespace Go.Proofs.YtnccbccnjjachaaGreatDoor.Eng
open Go
set_option linter.unusedVariables false
set_option linter.unusedSimpArgs false

set_option maxRecDepth 20000 in
set_option maxHeartbeats 4000000 in
theorem l11_MutateTwice_ok (ns : List Nat) (hb : ∀ n ∈ ns, n < 256) (a b c d : Nat) (ha : a < 256) (hbb : b < 256) (hc : c < 256) (hd : d < 256) :
    Pr 6 [.c (bytesC ns), .c (.int .u8 (a : Int)), .c (.int .u8 (b : Int)), .c (.int .u8 (c : Int)), .c (.int .u8 (d : Int))] (bC true) := by
  refine pure_of mixed is_l11_MutateTwice (by simp [closedAs, closedA, closedC, bytesC, closed_bytes]) fun _ T => ?_
  have haw := l11_awake_ok
  have hap := l9_Apart_ok ns hb
  have hall := all_ok ns
  have hsm := all_small ns
  unfold c_l11_MutateTwice
  generalize apartS ns = l at *
  generalize allL l = s at *
  have hg := hsm.good
  obtain ⟨z1, z2⟩ := hsm.sizes
  have o1 := l8_Op_ok a b ha hbb
  have o2 := l8_Op_ok c d hc hd
  have m1 := mutate_Do_ok s 0 (opOf a b) hg (by omega) (by omega)
  have m2 := mutate_Do_ok s 1 (opOf c d) hg (by omega) (by omega)
  have zx : (doL s 0 (opOf a b)).2 = 0 → (doL s 0 (opOf a b)).1 = deltaL s 0 (opOf a b) ∧ Good (deltaL s 0 (opOf a b)) := fun h => by
    obtain ⟨h1, h2, h3, _⟩ := doL_zero h
    exact ⟨h3, delta_good hg h1 h2⟩
  have zy : (doL s 1 (opOf c d)).2 = 0 → (doL s 1 (opOf c d)).1 = deltaL s 1 (opOf c d) ∧ Good (deltaL s 1 (opOf c d)) := fun h => by
    obtain ⟨h1, h2, h3, _⟩ := doL_zero h
    exact ⟨h3, delta_good hg h1 h2⟩
  have sx : Agree s (deltaL s 0 (opOf a b)) := deed_agree hg
  have sy : Agree s (deltaL s 1 (opOf c d)) := deed_agree hg
  have xy : Agree (deltaL s 0 (opOf a b)) (deltaL s 1 (opOf c d)) := deeds_agree (by omega) _ _
  obtain ⟨x1, x2⟩ := delta_len (s := s) (dev := 0) (o := opOf a b)
  obtain ⟨y1, y2⟩ := delta_len (s := s) (dev := 1) (o := opOf c d)
  generalize doL s 0 (opOf a b) = X at *
  generalize doL s 1 (opOf c d) = Y at *
  generalize deltaL s 0 (opOf a b) = x at *
  generalize deltaL s 1 (opOf c d) = y at *
  have n1 := l1_Num_ok X.2
  have n2 := l1_Num_ok Y.2
  simp only [go_sem, reduceCtorEq, Nat.reduceEqDiff, Nat.reduceAdd, Nat.reduceSub, Nat.reduceMul, Nat.reduceLeDiff, Int.reduceEq, Int.reduceLT, Int.reduceLE, Int.reduceAdd, Int.reduceMul, Int.reduceSub, Int.reduceNeg, Int.reduceToNat, reduceIte, Nat.reduceLT]
  refine callW_pure hap ?_
  simp only [go_sem, reduceCtorEq, Nat.reduceEqDiff, Nat.reduceAdd, Nat.reduceSub, Nat.reduceMul, Nat.reduceLeDiff, Int.reduceEq, Int.reduceLT, Int.reduceLE, Int.reduceAdd, Int.reduceMul, Int.reduceSub, Int.reduceNeg, Int.reduceToNat, reduceIte, Nat.reduceLT]
  refine callW_pure hall ?_
  simp only [go_sem, reduceCtorEq, Nat.reduceEqDiff, Nat.reduceAdd, Nat.reduceSub, Nat.reduceMul, Nat.reduceLeDiff, Int.reduceEq, Int.reduceLT, Int.reduceLE, Int.reduceAdd, Int.reduceMul, Int.reduceSub, Int.reduceNeg, Int.reduceToNat, reduceIte, Nat.reduceLT]
  refine callW_pure o1 ?_
  simp only [go_sem, reduceCtorEq, Nat.reduceEqDiff, Nat.reduceAdd, Nat.reduceSub, Nat.reduceMul, Nat.reduceLeDiff, Int.reduceEq, Int.reduceLT, Int.reduceLE, Int.reduceAdd, Int.reduceMul, Int.reduceSub, Int.reduceNeg, Int.reduceToNat, reduceIte, Nat.reduceLT]
  refine callW_pure m1 ?_
  simp only [go_sem, reduceCtorEq, Nat.reduceEqDiff, Nat.reduceAdd, Nat.reduceSub, Nat.reduceMul, Nat.reduceLeDiff, Int.reduceEq, Int.reduceLT, Int.reduceLE, Int.reduceAdd, Int.reduceMul, Int.reduceSub, Int.reduceNeg, Int.reduceToNat, reduceIte, Nat.reduceLT]
  refine callW_pure o2 ?_
  simp only [go_sem, reduceCtorEq, Nat.reduceEqDiff, Nat.reduceAdd, Nat.reduceSub, Nat.reduceMul, Nat.reduceLeDiff, Int.reduceEq, Int.reduceLT, Int.reduceLE, Int.reduceAdd, Int.reduceMul, Int.reduceSub, Int.reduceNeg, Int.reduceToNat, reduceIte, Nat.reduceLT]
  refine callW_pure m2 ?_
  simp only [go_sem, reduceCtorEq, Nat.reduceEqDiff, Nat.reduceAdd, Nat.reduceSub, Nat.reduceMul, Nat.reduceLeDiff, Int.reduceEq, Int.reduceLT, Int.reduceLE, Int.reduceAdd, Int.reduceMul, Int.reduceSub, Int.reduceNeg, Int.reduceToNat, reduceIte, Nat.reduceLT]
  refine callW_pure n1 ?_
  by_cases hX : X.2 = 0
  · simp only [go_sem, reduceCtorEq, Nat.reduceEqDiff, Nat.reduceAdd, Nat.reduceSub, Nat.reduceMul, Nat.reduceLeDiff, Int.reduceEq, Int.reduceLT, Int.reduceLE, Int.reduceAdd, Int.reduceMul, Int.reduceSub, Int.reduceNeg, Int.reduceToNat, reduceIte, Nat.reduceLT, hX]
    refine callW_pure n2 ?_
    by_cases hY : Y.2 = 0
    · obtain ⟨ex, gx⟩ := zx hX
      obtain ⟨ey, gy⟩ := zy hY
      have gsx := joinL_good hg gx
      have gsy := joinL_good hg gy
      have l1 := joinL_len (a := s) (b := x)
      have l2 := joinL_len (a := s) (b := y)
      have l3 := joinL_len (a := joinL s x) (b := y)
      have hpq : joinL (joinL s y) x = joinL (joinL s x) y := by
        rw [join_assoc hg gy gx sy sx xy.symm, join_assoc hg gx gy sx sy xy, join_comm gy gx xy.symm]
      have j1 := r7_Join_ok s x hg gx (by omega) (by omega)
      have j2 := r7_Join_ok (joinL s x) y gsx gy (by omega) (by omega)
      have j3 := r7_Join_ok s y hg gy (by omega) (by omega)
      have j4 := r7_Join_ok (joinL s y) x gsy gx (by omega) (by omega)
      rw [hpq] at j4
      have gp := joinL_good gsx gy
      have j5 := r7_Join_ok (joinL (joinL s x) y) x gp gx (by omega) (by omega)
      have e5 : joinL (joinL (joinL s x) y) x = joinL (joinL s x) y := by
        rw [← hpq]; exact join_absorb' gsy gx (sx.join xy.symm)
      rw [e5] at j5
      have j6 := r7_Join_ok (joinL s x) x gsx gx (by omega) (by omega)
      rw [join_absorb' hg gx sx] at j6
      have s1 := r7_Same_ok (joinL (joinL s x) y) (joinL (joinL s x) y)
      have s2 := r7_Same_ok (joinL s x) (joinL s x)
      generalize joinL (joinL s x) y = p at *
      generalize joinL s x = u at *
      generalize joinL s y = v at *
      simp only [go_sem, reduceCtorEq, Nat.reduceEqDiff, Nat.reduceAdd, Nat.reduceSub, Nat.reduceMul, Nat.reduceLeDiff, Int.reduceEq, Int.reduceLT, Int.reduceLE, Int.reduceAdd, Int.reduceMul, Int.reduceSub, Int.reduceNeg, Int.reduceToNat, reduceIte, Nat.reduceLT, hX, hY]
      refine run_fz_box (b := 0) (sz := 2) (row := s.cells) (by simp only [go_sem, reduceCtorEq, Nat.reduceEqDiff, Nat.reduceAdd, Nat.reduceSub, Nat.reduceMul, Nat.reduceLeDiff, Int.reduceEq, Int.reduceLT, Int.reduceLE, Int.reduceAdd, Int.reduceMul, Int.reduceSub, Int.reduceNeg, Int.reduceToNat, reduceIte, Nat.reduceLT]) rfl fun e1 K1 r1 q1 a11 ap _ => ?_
      have h1 := q1 1 _ (by omega) rfl
      have h2 := q1 2 _ (by omega) rfl
      have a12 := ap 12 1 (by simp only [go_sem, reduceCtorEq, Nat.reduceEqDiff, Nat.reduceAdd, Nat.reduceSub, Nat.reduceMul, Nat.reduceLeDiff, Int.reduceEq, Int.reduceLT, Int.reduceLE, Int.reduceAdd, Int.reduceMul, Int.reduceSub, Int.reduceNeg, Int.reduceToNat, reduceIte, Nat.reduceLT]) (by omega)
      have a14 := ap 14 2 (by simp only [go_sem, reduceCtorEq, Nat.reduceEqDiff, Nat.reduceAdd, Nat.reduceSub, Nat.reduceMul, Nat.reduceLeDiff, Int.reduceEq, Int.reduceLT, Int.reduceLE, Int.reduceAdd, Int.reduceMul, Int.reduceSub, Int.reduceNeg, Int.reduceToNat, reduceIte, Nat.reduceLT]) (by omega)
      clear ap
      refine run_fz_box (b := 1) (sz := 2) (row := X.1.cells) a12 h1 fun e2 K2 r2 q2 b12 bp bc => ?_
      have h3 := q2 2 _ (by omega) h2
      have b11 := bc 11 _ a11 (State.closed s)
      have b14 := bp 14 2 a14 (by omega)
      clear bp bc a11 a12 a14
      refine run_fz_box (b := 2) (sz := 2) (row := Y.1.cells) b14 h3 fun e3 K3 r3 q3 c14 cp cc => ?_
      obtain ⟨k0, k1, k2, rfl⟩ := three_of (r3.trans (r2.trans r1))
      clear q1 q2 q3
      have c11 := cc 11 _ b11 (State.closed s)
      have c12 := cc 12 _ b12 (State.closed X.1)
      clear cp cc b11 b12 b14
      rw [ex] at c12
      rw [ey] at c14
      simp only [go_sem, reduceCtorEq, Nat.reduceEqDiff, Nat.reduceAdd, Nat.reduceSub, Nat.reduceMul, Nat.reduceLeDiff, Int.reduceEq, Int.reduceLT, Int.reduceLE, Int.reduceAdd, Int.reduceMul, Int.reduceSub, Int.reduceNeg, Int.reduceToNat, reduceIte, Nat.reduceLT, c11, c12, c14]
      refine callW_pure j1 ?_
      simp only [go_sem, reduceCtorEq, Nat.reduceEqDiff, Nat.reduceAdd, Nat.reduceSub, Nat.reduceMul, Nat.reduceLeDiff, Int.reduceEq, Int.reduceLT, Int.reduceLE, Int.reduceAdd, Int.reduceMul, Int.reduceSub, Int.reduceNeg, Int.reduceToNat, reduceIte, Nat.reduceLT, c11, c12, c14]
      refine callW_pure j2 ?_
      simp only [go_sem, reduceCtorEq, Nat.reduceEqDiff, Nat.reduceAdd, Nat.reduceSub, Nat.reduceMul, Nat.reduceLeDiff, Int.reduceEq, Int.reduceLT, Int.reduceLE, Int.reduceAdd, Int.reduceMul, Int.reduceSub, Int.reduceNeg, Int.reduceToNat, reduceIte, Nat.reduceLT, c11, c12, c14]
      refine callW_pure j3 ?_
      simp only [go_sem, reduceCtorEq, Nat.reduceEqDiff, Nat.reduceAdd, Nat.reduceSub, Nat.reduceMul, Nat.reduceLeDiff, Int.reduceEq, Int.reduceLT, Int.reduceLE, Int.reduceAdd, Int.reduceMul, Int.reduceSub, Int.reduceNeg, Int.reduceToNat, reduceIte, Nat.reduceLT, c11, c12, c14]
      refine callW_pure j4 ?_
      simp only [go_sem, reduceCtorEq, Nat.reduceEqDiff, Nat.reduceAdd, Nat.reduceSub, Nat.reduceMul, Nat.reduceLeDiff, Int.reduceEq, Int.reduceLT, Int.reduceLE, Int.reduceAdd, Int.reduceMul, Int.reduceSub, Int.reduceNeg, Int.reduceToNat, reduceIte, Nat.reduceLT, c11, c12, c14]
      refine callW_pure s1 ?_
      simp only [go_sem, reduceCtorEq, Nat.reduceEqDiff, Nat.reduceAdd, Nat.reduceSub, Nat.reduceMul, Nat.reduceLeDiff, Int.reduceEq, Int.reduceLT, Int.reduceLE, Int.reduceAdd, Int.reduceMul, Int.reduceSub, Int.reduceNeg, Int.reduceToNat, reduceIte, Nat.reduceLT, c11, c12, c14]
      refine callW_pure j5 ?_
      simp only [go_sem, reduceCtorEq, Nat.reduceEqDiff, Nat.reduceAdd, Nat.reduceSub, Nat.reduceMul, Nat.reduceLeDiff, Int.reduceEq, Int.reduceLT, Int.reduceLE, Int.reduceAdd, Int.reduceMul, Int.reduceSub, Int.reduceNeg, Int.reduceToNat, reduceIte, Nat.reduceLT, c11, c12, c14]
      refine callW_pure s1 ?_
      simp only [go_sem, reduceCtorEq, Nat.reduceEqDiff, Nat.reduceAdd, Nat.reduceSub, Nat.reduceMul, Nat.reduceLeDiff, Int.reduceEq, Int.reduceLT, Int.reduceLE, Int.reduceAdd, Int.reduceMul, Int.reduceSub, Int.reduceNeg, Int.reduceToNat, reduceIte, Nat.reduceLT, c11, c12, c14]
      refine callW_pure j1 ?_
      simp only [go_sem, reduceCtorEq, Nat.reduceEqDiff, Nat.reduceAdd, Nat.reduceSub, Nat.reduceMul, Nat.reduceLeDiff, Int.reduceEq, Int.reduceLT, Int.reduceLE, Int.reduceAdd, Int.reduceMul, Int.reduceSub, Int.reduceNeg, Int.reduceToNat, reduceIte, Nat.reduceLT, c11, c12, c14]
      refine callW_pure j6 ?_
      simp only [go_sem, reduceCtorEq, Nat.reduceEqDiff, Nat.reduceAdd, Nat.reduceSub, Nat.reduceMul, Nat.reduceLeDiff, Int.reduceEq, Int.reduceLT, Int.reduceLE, Int.reduceAdd, Int.reduceMul, Int.reduceSub, Int.reduceNeg, Int.reduceToNat, reduceIte, Nat.reduceLT, c11, c12, c14]
      refine callW_pure j1 ?_
      simp only [go_sem, reduceCtorEq, Nat.reduceEqDiff, Nat.reduceAdd, Nat.reduceSub, Nat.reduceMul, Nat.reduceLeDiff, Int.reduceEq, Int.reduceLT, Int.reduceLE, Int.reduceAdd, Int.reduceMul, Int.reduceSub, Int.reduceNeg, Int.reduceToNat, reduceIte, Nat.reduceLT, c11, c12, c14]
      refine callW_pure s2 ?_
      simp only [go_sem, reduceCtorEq, Nat.reduceEqDiff, Nat.reduceAdd, Nat.reduceSub, Nat.reduceMul, Nat.reduceLeDiff, Int.reduceEq, Int.reduceLT, Int.reduceLE, Int.reduceAdd, Int.reduceMul, Int.reduceSub, Int.reduceNeg, Int.reduceToNat, reduceIte, Nat.reduceLT, c11, c12, c14]
      refine callW_pure haw ?_
      simp only [go_sem, reduceCtorEq, Nat.reduceEqDiff, Nat.reduceAdd, Nat.reduceSub, Nat.reduceMul, Nat.reduceLeDiff, Int.reduceEq, Int.reduceLT, Int.reduceLE, Int.reduceAdd, Int.reduceMul, Int.reduceSub, Int.reduceNeg, Int.reduceToNat, reduceIte, Nat.reduceLT]
      rfl
    · simp only [go_sem, reduceCtorEq, Nat.reduceEqDiff, Nat.reduceAdd, Nat.reduceSub, Nat.reduceMul, Nat.reduceLeDiff, Int.reduceEq, Int.reduceLT, Int.reduceLE, Int.reduceAdd, Int.reduceMul, Int.reduceSub, Int.reduceNeg, Int.reduceToNat, reduceIte, Nat.reduceLT, hY]
      refine callW_pure haw ?_
      simp only [go_sem, reduceCtorEq, Nat.reduceEqDiff, Nat.reduceAdd, Nat.reduceSub, Nat.reduceMul, Nat.reduceLeDiff, Int.reduceEq, Int.reduceLT, Int.reduceLE, Int.reduceAdd, Int.reduceMul, Int.reduceSub, Int.reduceNeg, Int.reduceToNat, reduceIte, Nat.reduceLT]
      rfl
  · simp only [go_sem, reduceCtorEq, Nat.reduceEqDiff, Nat.reduceAdd, Nat.reduceSub, Nat.reduceMul, Nat.reduceLeDiff, Int.reduceEq, Int.reduceLT, Int.reduceLE, Int.reduceAdd, Int.reduceMul, Int.reduceSub, Int.reduceNeg, Int.reduceToNat, reduceIte, Nat.reduceLT, hX]
    refine callW_pure haw ?_
    simp only [go_sem, reduceCtorEq, Nat.reduceEqDiff, Nat.reduceAdd, Nat.reduceSub, Nat.reduceMul, Nat.reduceLeDiff, Int.reduceEq, Int.reduceLT, Int.reduceLE, Int.reduceAdd, Int.reduceMul, Int.reduceSub, Int.reduceNeg, Int.reduceToNat, reduceIte, Nat.reduceLT]
    rfl

theorem l11_MutateTwice_law (ns : List Nat) (_ : ns.length ≤ maxLen) (hb : ∀ n ∈ ns, n < 256) (w : Int) (hw : IntKind.min .u8 ≤ w ∧ w ≤ IntKind.max .u8) (d : Int) (hd : IntKind.min .u8 ≤ d ∧ d ≤ IntKind.max .u8) (a : Int) (ha : IntKind.min .u8 ≤ a ∧ a ≤ IntKind.max .u8) (b : Int) (hbb : IntKind.min .u8 ≤ b ∧ b ≤ IntKind.max .u8) :
    Pr 6 [.c (bytesC ns), .c (.int .u8 w), .c (.int .u8 d), .c (.int .u8 a), .c (.int .u8 b)] (bC true) := by
  obtain ⟨w, rfl, q1⟩ := u8_nat hw
  obtain ⟨d, rfl, q2⟩ := u8_nat hd
  obtain ⟨a, rfl, q3⟩ := u8_nat ha
  obtain ⟨b, rfl, q4⟩ := u8_nat hbb
  exact l11_MutateTwice_ok ns hb w d a b q1 q2 q3 q4

end Go.Proofs.YtnccbccnjjachaaGreatDoor.Eng
