/- The mutate laws' own example; when a deed is done. No statement of the seat is proved here. -/
import Derived.Test.YtpjbjdicdjlmeaaGreatDoorZPartK
namespace Go.Proofs.YtpjbjdicdjlmeaaGreatDoor.Eng
open Go
set_option linter.unusedVariables false
set_option linter.unusedSimpArgs false

theorem doL_ok {s : State} {dev : Int} {o : OpR} (hb : badOp dev o = false) (h0 : ¬ (goneL s dev o = [] ∧ makes o = false)) (hl : (makes o && largeF (madeF s dev o)) = false) (hf : s.facts.length + 1 ≤ 400) : doL s dev o = (deltaL s dev o, 0) := by
  have h1 := joinL_len (a := s) (b := deltaL s dev o)
  have h2 := delta_len (s := s) (dev := dev) (o := o)
  unfold doL
  rw [if_neg (by simp [hb]), if_neg h0, if_neg (by simp [hl]), if_neg (by omega)]

theorem l1_Num_ok (n : Int) : Pr 6 [iC n] (iC n) := by
  refine pure_of mixed is_l1_Num rfl fun hl T => ?_
  unfold c_l1_Num
  simp only [go_sem, reduceCtorEq, Nat.reduceEqDiff, Nat.reduceAdd, Nat.reduceSub, Nat.reduceMul, Nat.reduceLeDiff, Int.reduceEq, Int.reduceLT, Int.reduceLE, Int.reduceAdd, Int.reduceMul, Int.reduceSub, Int.reduceNeg, Int.reduceToNat, reduceIte, Nat.reduceLT]
  simp [viewA, viewFn, viewC, viewFs, viewCs, viewAs, closedC, closedCs]

theorem awake_rem : doL ⟨[], []⟩ 0 ⟨3, ⟨#[107]⟩, ⟨#[97]⟩, 0⟩ = (⟨[], []⟩, 2) := by
  unfold doL
  rw [if_neg (by decide), if_pos ⟨rfl, rfl⟩]
theorem awake_add : doL ⟨[], []⟩ 0 ⟨2, ⟨#[107]⟩, ⟨#[97]⟩, 0⟩ = (⟨dotsL [⟨0, 1⟩], [⟨0, 1, ⟨#[107]⟩, 2, ⟨#[97]⟩, 0⟩]⟩, 0) := by
  rw [doL_ok (by decide) (by rintro ⟨_, h⟩; cases h) (by decide) (by simp)]
  rfl
theorem l11_awake_ok : Pr 9 [] (bC true) := by
  refine pure_of mixed is_l11_awake rfl fun hl T => ?_
  have m1 := mutate_Do_ok ⟨[], []⟩ 0 ⟨3, ⟨#[107]⟩, ⟨#[97]⟩, 0⟩ .nil (by simp) (by simp)
  have m2 := mutate_Do_ok ⟨[], []⟩ 0 ⟨2, ⟨#[107]⟩, ⟨#[97]⟩, 0⟩ .nil (by simp) (by simp)
  rw [awake_rem] at m1
  rw [awake_add] at m2
  have n2 := l1_Num_ok 2
  have n0 := l1_Num_ok 0
  have cx : ∀ (x : List Cell) (H : Heap), vIx 6 (.c (.lst 6 [x])) (.c (.int .i64 0)) H = some (.c (.fp x 0), H) := fun _ _ => rfl
  have c1 : ((1 : Nat) : Int) = 1 := rfl
  unfold c_l11_awake
  simp only [go_sem, reduceCtorEq, Nat.reduceEqDiff, Nat.reduceAdd, Nat.reduceSub, Nat.reduceMul, Nat.reduceLeDiff, Int.reduceEq, Int.reduceLT, Int.reduceLE, Int.reduceAdd, Int.reduceMul, Int.reduceSub, Int.reduceNeg, Int.reduceToNat, reduceIte, Nat.reduceLT]
  refine callW_pure (m1.wk (.cons SC.nil.wk (.cons (.same _) (.cons (.same _) .nil)))) ?_
  simp only [go_sem, reduceCtorEq, Nat.reduceEqDiff, Nat.reduceAdd, Nat.reduceSub, Nat.reduceMul, Nat.reduceLeDiff, Int.reduceEq, Int.reduceLT, Int.reduceLE, Int.reduceAdd, Int.reduceMul, Int.reduceSub, Int.reduceNeg, Int.reduceToNat, reduceIte, Nat.reduceLT]
  refine callW_pure (m2.wk (.cons SC.nil.wk (.cons (.same _) (.cons (.same _) .nil)))) ?_
  simp only [go_sem, reduceCtorEq, Nat.reduceEqDiff, Nat.reduceAdd, Nat.reduceSub, Nat.reduceMul, Nat.reduceLeDiff, Int.reduceEq, Int.reduceLT, Int.reduceLE, Int.reduceAdd, Int.reduceMul, Int.reduceSub, Int.reduceNeg, Int.reduceToNat, reduceIte, Nat.reduceLT]
  refine callW_pure n2 ?_
  simp only [go_sem, reduceCtorEq, Nat.reduceEqDiff, Nat.reduceAdd, Nat.reduceSub, Nat.reduceMul, Nat.reduceLeDiff, Int.reduceEq, Int.reduceLT, Int.reduceLE, Int.reduceAdd, Int.reduceMul, Int.reduceSub, Int.reduceNeg, Int.reduceToNat, reduceIte, Nat.reduceLT]
  refine callW_pure n0 ?_
  simp only [go_sem, reduceCtorEq, Nat.reduceEqDiff, Nat.reduceAdd, Nat.reduceSub, Nat.reduceMul, Nat.reduceLeDiff, Int.reduceEq, Int.reduceLT, Int.reduceLE, Int.reduceAdd, Int.reduceMul, Int.reduceSub, Int.reduceNeg, Int.reduceToNat, reduceIte, Nat.reduceLT, cx, c1]
  simp [viewA, viewFn, viewC, viewFs, viewCs, viewAs, closedC, closedCs]

theorem u8_nat {x : Int} (h : IntKind.min .u8 ≤ x ∧ x ≤ IntKind.max .u8) : ∃ n : Nat, x = n ∧ n < 256 := by
  obtain ⟨h1, h2⟩ := h
  have h1' : (0 : Int) ≤ x := h1
  have h2' : x ≤ 255 := h2
  exact ⟨x.toNat, by omega, by omega⟩

/-! ### A client's deed as an argument -/
def dOp : D := .st [.int .i64, .str, .str, .int .i64]
theorem tyd_op (cs : List Cell) (h : TyD dOp cs) : ∃ o : OpR, cs = o.cells ∧ o.key.size ≤ maxLen ∧ o.item.size ≤ maxLen := by
  unfold dOp at h
  cases h with
  | st h1 h => cases h with
    | st h2 h => cases h with
      | st h3 h => cases h with
        | st h4 h =>
          cases h
          cases h1; cases h2; cases h3; cases h4
          exact ⟨⟨_, _, _, _⟩, rfl, by assumption, by assumption⟩

end Go.Proofs.YtpjbjdicdjlmeaaGreatDoor.Eng
