/- The call of MutateEdges where the last number is even: it comes to true. -/
import Derived.Test.YtnccbccnjjachaaDoorZLawME0
namespace Go.Proofs.YtnccbccnjjachaaDoor.Eng
open Go
set_option linter.unusedVariables false
set_option linter.unusedSimpArgs false

set_option maxRecDepth 20000 in
set_option maxHeartbeats 4000000 in
theorem l11_MutateEdges_non (key item : Nat) (hk : key < 65536) (hi : item < 65536) (n : Int) (low : Nat) (hlow : low < 256) (l2 : ¬ ((low % 2 : Nat) : Int) = 1) :
    Pr 3 [.c (.int .u16 (key : Int)), .c (.int .u16 (item : Int)), iC n, .c (.int .u8 (low : Int))] (bC true) := by
  refine pure_of mixed is_l11_MutateEdges rfl fun _ T => ?_
  have haw := l11_awake_ok
  have wk : IntKind.wrap .i64 (key : Int) = key := wrap64 (by omega)
  have wi : IntKind.wrap .i64 (item : Int) = item := wrap64 (by omega)
  have wlow : IntKind.wrap .i64 (low : Int) = low := wrap64 (by omega)
  have rk : (key : Int).tmod 60 = ((key % 60 : Nat) : Int) := by rw [Int.tmod_eq_emod_of_nonneg (by omega)]; omega
  have ri : (item : Int).tmod 250 = ((item % 250 : Nat) : Int) := by rw [Int.tmod_eq_emod_of_nonneg (by omega)]; omega
  have rl : (low : Int).tmod 2 = ((low % 2 : Nat) : Int) := by rw [Int.tmod_eq_emod_of_nonneg (by omega)]; omega
  have hk60 : key % 60 ≤ 1000 := by omega
  have hi250 : item % 250 ≤ 1000 := by omega
  have sk := zeroB_size (key % 60)
  have si := zeroB_size (item % 250)
  have mk1 : ∀ H : Heap, vMake 1 1 [.int .u8 0] (.c (.int .i64 ((key % 60 : Nat) : Int))) (.c (.int .i64 ((key % 60 : Nat) : Int))) H = _ := fun H => vMake_zero hk60
  have mk2 : ∀ H : Heap, vMake 1 1 [.int .u8 0] (.c (.int .i64 ((item % 250 : Nat) : Int))) (.c (.int .i64 ((item % 250 : Nat) : Int))) H = _ := fun H => vMake_zero hi250
  have b1 : ∀ z : Bool, vB2s (.c (.slc 0 0 (key % 60) 1 z)) [{ sz := 1, rows := List.replicate (key % 60) [.int .u8 0] }] = some (.c (.str (zeroB (key % 60))), [{ sz := 1, rows := List.replicate (key % 60) [.int .u8 0] }]) := fun z => vB2s_zero (H := []) (X := [])
  have b2 : ∀ (z : Bool) (K : Blk), vB2s (.c (.slc 1 0 (item % 250) 1 z)) [K, { sz := 1, rows := List.replicate (item % 250) [.int .u8 0] }] = some (.c (.str (zeroB (item % 250))), [K, { sz := 1, rows := List.replicate (item % 250) [.int .u8 0] }]) := fun z K => vB2s_zero (H := [K]) (X := [])
  generalize key % 60 = kz at *
  generalize item % 250 = iz at *
  have A := mutate_Do_ok ⟨[], []⟩ 3 ⟨1, zeroB kz, zeroB iz, 0⟩ .nil (by simp) (by simp)
  have B := mutate_Do_ok ⟨[], []⟩ 3 ⟨4, ⟨#[107]⟩, ⟨#[]⟩, n⟩ .nil (by simp) (by simp)
  have hm1 : (1 : Int) ≤ 4503599627370496 - ((low % 2 : Nat) : Int) := by omega
  have hm2 : 4503599627370496 - ((low % 2 : Nat) : Int) ≤ 4503599627370496 := by omega
  have wm : IntKind.wrap .i64 (4503599627370496 - ((low % 2 : Nat) : Int)) = 4503599627370496 - ((low % 2 : Nat) : Int) := wrap64 (by omega)
  have gC : Good ⟨[⟨3, 1, 4503599627370496 - ((low % 2 : Nat) : Int)⟩], []⟩ := by
    refine ⟨⟨fun r hr => ?_, by simp⟩, by simp, by simp⟩
    simp at hr
    subst hr
    exact ⟨by simp only; omega, by simp only; omega, by simp only; omega, hm1, hm2⟩
  have C := mutate_Do_ok ⟨[⟨3, 1, 4503599627370496 - ((low % 2 : Nat) : Int)⟩], []⟩ 3 ⟨2, ⟨#[107]⟩, ⟨#[]⟩, 0⟩ gC (by simp) (by simp)
  have D' := mutate_Do_ok (oneS low) 3 ⟨4, ⟨#[107]⟩, ⟨#[]⟩, low⟩ (oneS_good low) (by simp [oneS]) (by simp [oneS])
  have E := mutate_Do_ok (oneS low) 3 ⟨4, ⟨#[107]⟩, ⟨#[]⟩, low + 1⟩ (oneS_good low) (by simp [oneS]) (by simp [oneS])
  have F := mutate_Do_ok (oneS low) 2 ⟨4, ⟨#[107]⟩, ⟨#[]⟩, 1099511627776⟩ (oneS_good low) (by simp [oneS]) (by simp [oneS])
  have eA := edges_set (zeroB kz) (zeroB iz)
  have eB := edges_inc n
  have eC := edges_dot _ hm1 hm2
  have eD := edges_own low low (by omega) (by omega)
  have eE := edges_own low (low + 1) (by omega) (by omega)
  have eF := edges_other low
  rw [if_pos (by omega)] at eD
  rw [if_neg (by omega)] at eE
  rw [sk, si] at eA
  have wo : IntKind.wrap .i64 (1099511627776 - (low : Int)) = 1099511627776 - (low : Int) := wrap64 (by omega)
  have wl1 : IntKind.wrap .i64 ((low : Int) + 1) = (low : Int) + 1 := wrap64 (by omega)
  have lC : (4503599627370496 - ((low % 2 : Nat) : Int) < 4503599627370496) ↔ ((low % 2 : Nat) : Int) = 1 := by omega
  unfold oneS at D' E F
  generalize (doL ⟨[], []⟩ 3 ⟨1, zeroB kz, zeroB iz, 0⟩) = XA at *
  generalize (doL ⟨[], []⟩ 3 ⟨4, ⟨#[107]⟩, ⟨#[]⟩, n⟩) = XB at *
  generalize (doL ⟨[⟨3, 1, 4503599627370496 - ((low % 2 : Nat) : Int)⟩], []⟩ 3 ⟨2, ⟨#[107]⟩, ⟨#[]⟩, 0⟩) = XC at *
  unfold oneS at eD eE eF
  generalize (doL ⟨[⟨3, 1, 1⟩], [⟨3, 1, ⟨#[107]⟩, 3, ⟨#[]⟩, 1099511627776 - (low : Int)⟩]⟩ 3 ⟨4, ⟨#[107]⟩, ⟨#[]⟩, (low : Int)⟩) = XD at *
  generalize (doL ⟨[⟨3, 1, 1⟩], [⟨3, 1, ⟨#[107]⟩, 3, ⟨#[]⟩, 1099511627776 - (low : Int)⟩]⟩ 3 ⟨4, ⟨#[107]⟩, ⟨#[]⟩, (low : Int) + 1⟩) = XE at *
  generalize (doL ⟨[⟨3, 1, 1⟩], [⟨3, 1, ⟨#[107]⟩, 3, ⟨#[]⟩, 1099511627776 - (low : Int)⟩]⟩ 2 ⟨4, ⟨#[107]⟩, ⟨#[]⟩, 1099511627776⟩) = XF at *
  have skI : ((zeroB kz).size : Int) = kz := by rw [sk]
  have siI : ((zeroB iz).size : Int) = iz := by rw [si]
  generalize zeroB kz = KZ at *
  generalize zeroB iz = IZ at *
  unfold c_l11_MutateEdges
  have n0 := l1_Num_ok 0
  have n1 := l1_Num_ok 1
  have n4 := l1_Num_ok 4
  simp only [go_sem, reduceCtorEq, Nat.reduceEqDiff, Nat.reduceAdd, Nat.reduceSub, Nat.reduceMul, Nat.reduceLeDiff, Int.reduceEq, Int.reduceLT, Int.reduceLE, Int.reduceAdd, Int.reduceMul, Int.reduceSub, Int.reduceNeg, Int.reduceToNat, reduceIte, Nat.reduceLT, vBin_rem, wk, wi, rk, ri, mk1, mk2, b1, b2]
  refine callW_pure (A.wk (.cons SC.nil.wk (.cons (.same _) (.cons (.same _) .nil)))) ?_
  simp only [go_sem, reduceCtorEq, Nat.reduceEqDiff, Nat.reduceAdd, Nat.reduceSub, Nat.reduceMul, Nat.reduceLeDiff, Int.reduceEq, Int.reduceLT, Int.reduceLE, Int.reduceAdd, Int.reduceMul, Int.reduceSub, Int.reduceNeg, Int.reduceToNat, reduceIte, Nat.reduceLT]
  refine callW_pure (B.wk (.cons SC.nil.wk (.cons (.same _) (.cons (.same _) .nil)))) ?_
  simp only [go_sem, reduceCtorEq, Nat.reduceEqDiff, Nat.reduceAdd, Nat.reduceSub, Nat.reduceMul, Nat.reduceLeDiff, Int.reduceEq, Int.reduceLT, Int.reduceLE, Int.reduceAdd, Int.reduceMul, Int.reduceSub, Int.reduceNeg, Int.reduceToNat, reduceIte, Nat.reduceLT, vBin_rem, wlow, rl, wm]
  refine callW_pure (C.wk (.cons (.agg (.cons (.same _) (.cons (.nilS _) .nil))) (.cons (.same _) (.cons (.same _) .nil)))) ?_
  simp only [go_sem, reduceCtorEq, Nat.reduceEqDiff, Nat.reduceAdd, Nat.reduceSub, Nat.reduceMul, Nat.reduceLeDiff, Int.reduceEq, Int.reduceLT, Int.reduceLE, Int.reduceAdd, Int.reduceMul, Int.reduceSub, Int.reduceNeg, Int.reduceToNat, reduceIte, Nat.reduceLT, wlow, wo]
  refine callW_pure D' ?_
  simp only [go_sem, reduceCtorEq, Nat.reduceEqDiff, Nat.reduceAdd, Nat.reduceSub, Nat.reduceMul, Nat.reduceLeDiff, Int.reduceEq, Int.reduceLT, Int.reduceLE, Int.reduceAdd, Int.reduceMul, Int.reduceSub, Int.reduceNeg, Int.reduceToNat, reduceIte, Nat.reduceLT, wlow, wl1]
  refine callW_pure E ?_
  simp only [go_sem, reduceCtorEq, Nat.reduceEqDiff, Nat.reduceAdd, Nat.reduceSub, Nat.reduceMul, Nat.reduceLeDiff, Int.reduceEq, Int.reduceLT, Int.reduceLE, Int.reduceAdd, Int.reduceMul, Int.reduceSub, Int.reduceNeg, Int.reduceToNat, reduceIte, Nat.reduceLT]
  refine callW_pure F ?_
  clear A B C D' E F mk1 mk2 b1 b2
  rw [eD, eE, eF]
  have zk : kz ≤ 40 ↔ (kz : Int) ≤ 40 := by omega
  have zi : iz ≤ 200 ↔ (iz : Int) ≤ 200 := by omega
  rw [if_neg (fun h => l2 (lC.1 h))] at eC
  rw [eC]
  have pA : (((kz : Int) ≤ 40 ∧ (iz : Int) ≤ 200) ∧ XA.2 = 0) ∨ (((kz : Int) ≤ 40 ∧ ¬ (iz : Int) ≤ 200) ∧ XA.2 = 1) ∨ (¬ (kz : Int) ≤ 40 ∧ XA.2 = 1) := by
    rw [eA]; split <;> omega
  have pB : ((-1099511627776 ≤ n ∧ n ≤ 1099511627776) ∧ XB.2 = 0) ∨ ((-1099511627776 ≤ n ∧ ¬ n ≤ 1099511627776) ∧ XB.2 = 1) ∨ (¬ -1099511627776 ≤ n ∧ XB.2 = 1) := by
    rw [eB]; split <;> omega
  clear eA eB
  rcases pA with ⟨⟨hk, hi⟩, eA⟩ | ⟨⟨hk, hi⟩, eA⟩ | ⟨hk, eA⟩ <;> rcases pB with ⟨⟨hn1, hn2⟩, eB⟩ | ⟨⟨hn1, hn2⟩, eB⟩ | ⟨hn1, eB⟩ <;> rw [eA, eB]
  · (repeat' (first
      | refine callW_pure n0 ?_
      | refine callW_pure n1 ?_
      | refine callW_pure n4 ?_
      | refine callW_pure haw ?_
      | simp only [go_sem, reduceCtorEq, Nat.reduceEqDiff, Nat.reduceAdd, Nat.reduceSub, Nat.reduceMul, Nat.reduceLeDiff, Int.reduceEq, Int.reduceLT, Int.reduceLE, Int.reduceAdd, Int.reduceMul, Int.reduceSub, Int.reduceNeg, Int.reduceToNat, reduceIte, Nat.reduceLT, skI, siI, vBin_rem, wlow, rl, hk, hi, hn1, hn2, l2]))
    rfl
  · (repeat' (first
      | refine callW_pure n0 ?_
      | refine callW_pure n1 ?_
      | refine callW_pure n4 ?_
      | refine callW_pure haw ?_
      | simp only [go_sem, reduceCtorEq, Nat.reduceEqDiff, Nat.reduceAdd, Nat.reduceSub, Nat.reduceMul, Nat.reduceLeDiff, Int.reduceEq, Int.reduceLT, Int.reduceLE, Int.reduceAdd, Int.reduceMul, Int.reduceSub, Int.reduceNeg, Int.reduceToNat, reduceIte, Nat.reduceLT, skI, siI, vBin_rem, wlow, rl, hk, hi, hn1, hn2, l2]))
    rfl
  · (repeat' (first
      | refine callW_pure n0 ?_
      | refine callW_pure n1 ?_
      | refine callW_pure n4 ?_
      | refine callW_pure haw ?_
      | simp only [go_sem, reduceCtorEq, Nat.reduceEqDiff, Nat.reduceAdd, Nat.reduceSub, Nat.reduceMul, Nat.reduceLeDiff, Int.reduceEq, Int.reduceLT, Int.reduceLE, Int.reduceAdd, Int.reduceMul, Int.reduceSub, Int.reduceNeg, Int.reduceToNat, reduceIte, Nat.reduceLT, skI, siI, vBin_rem, wlow, rl, hk, hi, hn1, l2]))
    rfl
  · (repeat' (first
      | refine callW_pure n0 ?_
      | refine callW_pure n1 ?_
      | refine callW_pure n4 ?_
      | refine callW_pure haw ?_
      | simp only [go_sem, reduceCtorEq, Nat.reduceEqDiff, Nat.reduceAdd, Nat.reduceSub, Nat.reduceMul, Nat.reduceLeDiff, Int.reduceEq, Int.reduceLT, Int.reduceLE, Int.reduceAdd, Int.reduceMul, Int.reduceSub, Int.reduceNeg, Int.reduceToNat, reduceIte, Nat.reduceLT, skI, siI, vBin_rem, wlow, rl, hk, hi, hn1, hn2, l2]))
    rfl
  · (repeat' (first
      | refine callW_pure n0 ?_
      | refine callW_pure n1 ?_
      | refine callW_pure n4 ?_
      | refine callW_pure haw ?_
      | simp only [go_sem, reduceCtorEq, Nat.reduceEqDiff, Nat.reduceAdd, Nat.reduceSub, Nat.reduceMul, Nat.reduceLeDiff, Int.reduceEq, Int.reduceLT, Int.reduceLE, Int.reduceAdd, Int.reduceMul, Int.reduceSub, Int.reduceNeg, Int.reduceToNat, reduceIte, Nat.reduceLT, skI, siI, vBin_rem, wlow, rl, hk, hi, hn1, hn2, l2]))
    rfl
  · (repeat' (first
      | refine callW_pure n0 ?_
      | refine callW_pure n1 ?_
      | refine callW_pure n4 ?_
      | refine callW_pure haw ?_
      | simp only [go_sem, reduceCtorEq, Nat.reduceEqDiff, Nat.reduceAdd, Nat.reduceSub, Nat.reduceMul, Nat.reduceLeDiff, Int.reduceEq, Int.reduceLT, Int.reduceLE, Int.reduceAdd, Int.reduceMul, Int.reduceSub, Int.reduceNeg, Int.reduceToNat, reduceIte, Nat.reduceLT, skI, siI, vBin_rem, wlow, rl, hk, hi, hn1, l2]))
    rfl
  · (repeat' (first
      | refine callW_pure n0 ?_
      | refine callW_pure n1 ?_
      | refine callW_pure n4 ?_
      | refine callW_pure haw ?_
      | simp only [go_sem, reduceCtorEq, Nat.reduceEqDiff, Nat.reduceAdd, Nat.reduceSub, Nat.reduceMul, Nat.reduceLeDiff, Int.reduceEq, Int.reduceLT, Int.reduceLE, Int.reduceAdd, Int.reduceMul, Int.reduceSub, Int.reduceNeg, Int.reduceToNat, reduceIte, Nat.reduceLT, skI, siI, vBin_rem, wlow, rl, hk, hn1, hn2, l2]))
    rfl
  · (repeat' (first
      | refine callW_pure n0 ?_
      | refine callW_pure n1 ?_
      | refine callW_pure n4 ?_
      | refine callW_pure haw ?_
      | simp only [go_sem, reduceCtorEq, Nat.reduceEqDiff, Nat.reduceAdd, Nat.reduceSub, Nat.reduceMul, Nat.reduceLeDiff, Int.reduceEq, Int.reduceLT, Int.reduceLE, Int.reduceAdd, Int.reduceMul, Int.reduceSub, Int.reduceNeg, Int.reduceToNat, reduceIte, Nat.reduceLT, skI, siI, vBin_rem, wlow, rl, hk, hn1, hn2, l2]))
    rfl
  · (repeat' (first
      | refine callW_pure n0 ?_
      | refine callW_pure n1 ?_
      | refine callW_pure n4 ?_
      | refine callW_pure haw ?_
      | simp only [go_sem, reduceCtorEq, Nat.reduceEqDiff, Nat.reduceAdd, Nat.reduceSub, Nat.reduceMul, Nat.reduceLeDiff, Int.reduceEq, Int.reduceLT, Int.reduceLE, Int.reduceAdd, Int.reduceMul, Int.reduceSub, Int.reduceNeg, Int.reduceToNat, reduceIte, Nat.reduceLT, skI, siI, vBin_rem, wlow, rl, hk, hn1, l2]))
    rfl

end Go.Proofs.YtnccbccnjjachaaDoor.Eng
