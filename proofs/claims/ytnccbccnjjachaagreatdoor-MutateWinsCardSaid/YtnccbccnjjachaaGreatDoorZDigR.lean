/- The contract of the document's Digits at small numbers. No statement of the seat is proved here. -/
import Derived.Test.YtnccbccnjjachaaGreatDoorZJoinR0
import Derived.Test.YtnccbccnjjachaaGreatDoorZPartH
namespace Go.Proofs.YtnccbccnjjachaaGreatDoor.Eng
open Go
set_option linter.unusedVariables false
set_option linter.unusedSimpArgs false

theorem wrapU64 {n : Int} (h : 0 ≤ n ∧ n ≤ 18446744073709551615) : IntKind.wrap .u64 n = n := by
  simp [IntKind.wrap, IntKind.bits, IntKind.signed]; omega
theorem one8_size (n : Nat) : (one8 n).size = 1 := rfl
def digD (n : Nat) : ByteArray :=
  if n < 10 then one8 (48 + n) ++ ⟨#[]⟩ else if n < 100 then one8 (48 + n / 10) ++ (one8 (48 + n % 10) ++ ⟨#[]⟩) else one8 (48 + n / 10 / 10) ++ (one8 (48 + n / 10 % 10) ++ (one8 (48 + n % 10) ++ ⟨#[]⟩))
theorem digD_size (n : Nat) : (digD n).size ≤ 3 := by
  unfold digD
  split
  · simp [ByteArray.size_append, one8_size]; decide
  split
  · simp [ByteArray.size_append, one8_size]; decide
  · simp [ByteArray.size_append, one8_size]; decide

theorem r1_Digits_ok (n : Nat) (hn : n < 256) : Pr 26 [iC n] (sC (digD n)) := by
  refine pure_of mixed is_r1_Digits rfl fun _ T => ?_
  unfold c_r1_Digits
  have w0 : IntKind.wrap .u64 (n : Int) = n := wrapU64 (by omega)
  have c0 : ¬ ((n : Int) < 0) := by omega
  have se : (⟨#[]⟩ : ByteArray).size = 0 := rfl
  have rem : ∀ m : Nat, (m : Int).tmod 10 = ((m % 10 : Nat) : Int) := fun m => by rw [Int.tmod_eq_emod_of_nonneg (by omega)]; omega
  have quo : ∀ m : Nat, m < 256 → IntKind.wrap .u64 ((m : Int).tdiv 10) = ((m / 10 : Nat) : Int) := fun m h => by
    have : (m : Int).tdiv 10 = ((m / 10 : Nat) : Int) := by rw [Int.tdiv_eq_ediv_of_nonneg (by omega)]; omega
    rw [this, wrapU64 (by omega)]
  have dg : ∀ m : Nat, m < 10 → IntKind.wrap .u8 (IntKind.wrap .u64 (48 + (m : Int))) = ((48 + m : Nat) : Int) := fun m h => by rw [wrapU64 (by omega), wrap8 (by omega)]; omega
  have cat1 : ∀ (m : Nat) (H : Heap), vBin .add (.c (.str (one8 m))) (.c (.str ⟨#[]⟩)) H = some (.c (.str (one8 m ++ ⟨#[]⟩)), H) := fun m H => vBin_cat (by rw [one8_size, se]; omega)
  have cat2 : ∀ (m k : Nat) (H : Heap), vBin .add (.c (.str (one8 m))) (.c (.str (one8 k ++ ⟨#[]⟩))) H = some (.c (.str (one8 m ++ (one8 k ++ ⟨#[]⟩))), H) := fun m k H => vBin_cat (by rw [ByteArray.size_append, one8_size, one8_size, se]; omega)
  have cat3 : ∀ (m k j : Nat) (H : Heap), vBin .add (.c (.str (one8 m))) (.c (.str (one8 k ++ (one8 j ++ ⟨#[]⟩)))) H = some (.c (.str (one8 m ++ (one8 k ++ (one8 j ++ ⟨#[]⟩)))), H) := fun m k j H => vBin_cat (by rw [ByteArray.size_append, ByteArray.size_append, one8_size, one8_size, one8_size, se]; omega)
  by_cases h1 : n < 10
  · have hv : digD n = one8 (48 + n) ++ ⟨#[]⟩ := by unfold digD; rw [if_pos h1]
    have g1 : ¬ ((10 : Int) ≤ (n : Int)) := by omega
    have d1 := dg n h1
    simp only [go_sem, reduceCtorEq, Nat.reduceEqDiff, Nat.reduceAdd, Nat.reduceSub, Nat.reduceMul, Nat.reduceLeDiff, Int.reduceEq, Int.reduceLT, Int.reduceLE, Int.reduceAdd, Int.reduceMul, Int.reduceSub, Int.reduceNeg, Int.reduceToNat, reduceIte, Nat.reduceLT, w0, c0]
    refine run_again ?_
    conv => enter [3, 1]; unfold r1_Digits_L0
    simp only [go_sem, reduceCtorEq, Nat.reduceEqDiff, Nat.reduceAdd, Nat.reduceSub, Nat.reduceMul, Nat.reduceLeDiff, Int.reduceEq, Int.reduceLT, Int.reduceLE, Int.reduceAdd, Int.reduceMul, Int.reduceSub, Int.reduceNeg, Int.reduceToNat, reduceIte, Nat.reduceLT, g1]
    unfold r1_Digits_K1
    simp only [go_sem, reduceCtorEq, Nat.reduceEqDiff, Nat.reduceAdd, Nat.reduceSub, Nat.reduceMul, Nat.reduceLeDiff, Int.reduceEq, Int.reduceLT, Int.reduceLE, Int.reduceAdd, Int.reduceMul, Int.reduceSub, Int.reduceNeg, Int.reduceToNat, reduceIte, Nat.reduceLT, d1, vB2s_one, cat1, c0]
    rw [hv]
    simp [viewA, viewFn, viewC, viewFs, viewCs, viewAs, closedC, closedCs]
  by_cases h2 : n < 100
  · have hv : digD n = one8 (48 + n / 10) ++ (one8 (48 + n % 10) ++ ⟨#[]⟩) := by unfold digD; rw [if_neg h1, if_pos h2]
    have g1 : ((10 : Int) ≤ (n : Int)) := by omega
    have g2 : ¬ ((10 : Int) ≤ ((n / 10 : Nat) : Int)) := by omega
    have d1 := dg (n % 10) (by omega)
    have d2 := dg (n / 10) (by omega)
    have q1 := quo n hn
    simp only [go_sem, reduceCtorEq, Nat.reduceEqDiff, Nat.reduceAdd, Nat.reduceSub, Nat.reduceMul, Nat.reduceLeDiff, Int.reduceEq, Int.reduceLT, Int.reduceLE, Int.reduceAdd, Int.reduceMul, Int.reduceSub, Int.reduceNeg, Int.reduceToNat, reduceIte, Nat.reduceLT, w0, c0]
    refine run_again ?_
    conv => enter [3, 1]; unfold r1_Digits_L0
    simp only [go_sem, reduceCtorEq, Nat.reduceEqDiff, Nat.reduceAdd, Nat.reduceSub, Nat.reduceMul, Nat.reduceLeDiff, Int.reduceEq, Int.reduceLT, Int.reduceLE, Int.reduceAdd, Int.reduceMul, Int.reduceSub, Int.reduceNeg, Int.reduceToNat, reduceIte, Nat.reduceLT, g1, vBin_rem, vBin_quo, rem, d1, q1, vB2s_one, cat1]
    refine run_again ?_
    conv => enter [3, 1]; unfold r1_Digits_L0
    simp only [go_sem, reduceCtorEq, Nat.reduceEqDiff, Nat.reduceAdd, Nat.reduceSub, Nat.reduceMul, Nat.reduceLeDiff, Int.reduceEq, Int.reduceLT, Int.reduceLE, Int.reduceAdd, Int.reduceMul, Int.reduceSub, Int.reduceNeg, Int.reduceToNat, reduceIte, Nat.reduceLT, g2]
    unfold r1_Digits_K1
    simp only [go_sem, reduceCtorEq, Nat.reduceEqDiff, Nat.reduceAdd, Nat.reduceSub, Nat.reduceMul, Nat.reduceLeDiff, Int.reduceEq, Int.reduceLT, Int.reduceLE, Int.reduceAdd, Int.reduceMul, Int.reduceSub, Int.reduceNeg, Int.reduceToNat, reduceIte, Nat.reduceLT, d2, vB2s_one, cat2, c0]
    rw [hv]
    simp [viewA, viewFn, viewC, viewFs, viewCs, viewAs, closedC, closedCs]
  · have hv : digD n = one8 (48 + n / 10 / 10) ++ (one8 (48 + n / 10 % 10) ++ (one8 (48 + n % 10) ++ ⟨#[]⟩)) := by unfold digD; rw [if_neg h1, if_neg h2]
    have g1 : ((10 : Int) ≤ (n : Int)) := by omega
    have g2 : ((10 : Int) ≤ ((n / 10 : Nat) : Int)) := by omega
    have g3 : ¬ ((10 : Int) ≤ ((n / 10 / 10 : Nat) : Int)) := by omega
    have d1 := dg (n % 10) (by omega)
    have d2 := dg (n / 10 % 10) (by omega)
    have d3 := dg (n / 10 / 10) (by omega)
    have q1 := quo n hn
    have q2 := quo (n / 10) (by omega)
    simp only [go_sem, reduceCtorEq, Nat.reduceEqDiff, Nat.reduceAdd, Nat.reduceSub, Nat.reduceMul, Nat.reduceLeDiff, Int.reduceEq, Int.reduceLT, Int.reduceLE, Int.reduceAdd, Int.reduceMul, Int.reduceSub, Int.reduceNeg, Int.reduceToNat, reduceIte, Nat.reduceLT, w0, c0]
    refine run_again ?_
    conv => enter [3, 1]; unfold r1_Digits_L0
    simp only [go_sem, reduceCtorEq, Nat.reduceEqDiff, Nat.reduceAdd, Nat.reduceSub, Nat.reduceMul, Nat.reduceLeDiff, Int.reduceEq, Int.reduceLT, Int.reduceLE, Int.reduceAdd, Int.reduceMul, Int.reduceSub, Int.reduceNeg, Int.reduceToNat, reduceIte, Nat.reduceLT, g1, vBin_rem, vBin_quo, rem, d1, q1, vB2s_one, cat1]
    refine run_again ?_
    conv => enter [3, 1]; unfold r1_Digits_L0
    simp only [go_sem, reduceCtorEq, Nat.reduceEqDiff, Nat.reduceAdd, Nat.reduceSub, Nat.reduceMul, Nat.reduceLeDiff, Int.reduceEq, Int.reduceLT, Int.reduceLE, Int.reduceAdd, Int.reduceMul, Int.reduceSub, Int.reduceNeg, Int.reduceToNat, reduceIte, Nat.reduceLT, g2, vBin_rem, vBin_quo, rem, d2, q2, vB2s_one, cat2]
    refine run_again ?_
    conv => enter [3, 1]; unfold r1_Digits_L0
    simp only [go_sem, reduceCtorEq, Nat.reduceEqDiff, Nat.reduceAdd, Nat.reduceSub, Nat.reduceMul, Nat.reduceLeDiff, Int.reduceEq, Int.reduceLT, Int.reduceLE, Int.reduceAdd, Int.reduceMul, Int.reduceSub, Int.reduceNeg, Int.reduceToNat, reduceIte, Nat.reduceLT, g3]
    unfold r1_Digits_K1
    simp only [go_sem, reduceCtorEq, Nat.reduceEqDiff, Nat.reduceAdd, Nat.reduceSub, Nat.reduceMul, Nat.reduceLeDiff, Int.reduceEq, Int.reduceLT, Int.reduceLE, Int.reduceAdd, Int.reduceMul, Int.reduceSub, Int.reduceNeg, Int.reduceToNat, reduceIte, Nat.reduceLT, d3, vB2s_one, cat3, c0]
    rw [hv]
    simp [viewA, viewFn, viewC, viewFs, viewCs, viewAs, closedC, closedCs]

end Go.Proofs.YtnccbccnjjachaaGreatDoor.Eng
