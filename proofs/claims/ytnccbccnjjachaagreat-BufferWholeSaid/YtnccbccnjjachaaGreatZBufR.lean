/- Contracts of the package buffer: end, some. No statement of the seat is proved here. -/
import Derived.Test.YtnccbccnjjachaaGreatZErrI
import Derived.Test.YtnccbccnjjachaaGreatZLitB
import Derived.Test.YtnccbccnjjachaaGreatZPartC
namespace Go.Proofs.YtnccbccnjjachaaGreat.Eng
open Go
set_option linter.unusedVariables false
set_option linter.unusedSimpArgs false

structure Buf where
  first : Int
  l : List State
def Buf.cells (b : Buf) : List Cell := [.int .i64 b.first, statesC b.l]
theorem Buf.closed (b : Buf) : closedCs b.cells = true := by simp [Buf.cells, closedCs, closedC, closed_statesC]

/-- The number behind the last one. -/
def Buf.lim (b : Buf) : Int := IntKind.wrap .i64 (b.first + b.l.length)

theorem buffer_end_ok (b : Buf) : Pr 20 [.agg b.cells] (iC b.lim) := by
  refine pure_of mixed is_buffer_end (by simp [closedAs, closedA, Buf.closed]) fun hl T => ?_
  unfold c_buffer_end
  have hr : closedR (b.l.map State.cells) = true := closedR_map State.closed b.l
  dsimp only [Buf.cells, statesC]
  simp only [go_sem, reduceCtorEq, Nat.reduceEqDiff, Nat.reduceAdd, Nat.reduceSub, Nat.reduceMul, Nat.reduceLeDiff, Int.reduceEq, Int.reduceLT, Int.reduceLE, Int.reduceAdd, Int.reduceMul, Int.reduceSub, Int.reduceNeg, Int.reduceToNat, reduceIte, Nat.reduceLT, hr]
  simp [viewA, viewFn, viewC, viewFs, viewCs, viewAs, closedC, closedCs, Buf.lim]

/-- Whether there are deltas from a number on. -/
def Buf.none (b : Buf) (n many : Int) : Bool := decide (n < b.first) || decide (n > b.lim) || decide (many < 0)

theorem buffer_some_no (b : Buf) (n many : Int) (h : b.none n many = true) : Pr 17 [.agg b.cells, iC n, iC many] (.tup [.c .nilS, .c (missingC n)]) := by
  refine pure_of mixed is_buffer_some (by simp [closedAs, closedA, closedC, Buf.closed]) fun hl T => ?_
  unfold c_buffer_some
  have he := buffer_end_ok b
  simp only [Buf.none, Bool.or_eq_true, decide_eq_true_eq] at h
  have hr : closedR (b.l.map State.cells) = true := closedR_map State.closed b.l
  obtain ⟨first, l⟩ := b
  dsimp only [Buf.cells, statesC] at *
  simp only [go_sem, reduceCtorEq, Nat.reduceEqDiff, Nat.reduceAdd, Nat.reduceSub, Nat.reduceMul, Nat.reduceLeDiff, Int.reduceEq, Int.reduceLT, Int.reduceLE, Int.reduceAdd, Int.reduceMul, Int.reduceSub, Int.reduceNeg, Int.reduceToNat, reduceIte, Nat.reduceLT, hr]
  by_cases h1 : n < first
  · simp only [go_sem, reduceCtorEq, Nat.reduceEqDiff, Nat.reduceAdd, Nat.reduceSub, Nat.reduceMul, Nat.reduceLeDiff, Int.reduceEq, Int.reduceLT, Int.reduceLE, Int.reduceAdd, Int.reduceMul, Int.reduceSub, Int.reduceNeg, Int.reduceToNat, reduceIte, Nat.reduceLT, hr, h1]
    simp [viewA, viewFn, viewC, viewFs, viewCs, viewAs, closedC, closedCs, missingC, reasonC, noneS]
  · simp only [go_sem, reduceCtorEq, Nat.reduceEqDiff, Nat.reduceAdd, Nat.reduceSub, Nat.reduceMul, Nat.reduceLeDiff, Int.reduceEq, Int.reduceLT, Int.reduceLE, Int.reduceAdd, Int.reduceMul, Int.reduceSub, Int.reduceNeg, Int.reduceToNat, reduceIte, Nat.reduceLT, hr, h1]
    refine callW_pure he ?_
    generalize Buf.lim ⟨first, l⟩ = L at *
    by_cases h2 : n > L
    · simp only [go_sem, reduceCtorEq, Nat.reduceEqDiff, Nat.reduceAdd, Nat.reduceSub, Nat.reduceMul, Nat.reduceLeDiff, Int.reduceEq, Int.reduceLT, Int.reduceLE, Int.reduceAdd, Int.reduceMul, Int.reduceSub, Int.reduceNeg, Int.reduceToNat, reduceIte, Nat.reduceLT, hr, h1, h2]
      simp [viewA, viewFn, viewC, viewFs, viewCs, viewAs, closedC, closedCs, missingC, reasonC, noneS]
    · have h3 : many < 0 := by rcases h with (h | h) | h; exact absurd h h1; exact absurd h h2; exact h
      simp only [go_sem, reduceCtorEq, Nat.reduceEqDiff, Nat.reduceAdd, Nat.reduceSub, Nat.reduceMul, Nat.reduceLeDiff, Int.reduceEq, Int.reduceLT, Int.reduceLE, Int.reduceAdd, Int.reduceMul, Int.reduceSub, Int.reduceNeg, Int.reduceToNat, reduceIte, Nat.reduceLT, hr, h1, h2, h3]
      simp [viewA, viewFn, viewC, viewFs, viewCs, viewAs, closedC, closedCs, missingC, reasonC, noneS]

theorem take_min {α : Type} (l : List α) (m : Nat) : l.take (min m l.length) = l.take m := by
  rcases Nat.le_total m l.length with h | h
  · rw [Nat.min_eq_left h]
  · rw [Nat.min_eq_right h, List.take_of_length_le (Nat.le_refl _), List.take_of_length_le h]

theorem buffer_some_ok (b : Buf) (k m : Nat) (hf : 0 ≤ b.first ∧ b.first ≤ 4503599627370496) (hlen : b.l.length ≤ 4503599627370496) (hk : k ≤ b.l.length) (hm : m ≤ 4503599627370496) :
    Pr 17 [.agg b.cells, iC (b.first + k), iC m] (.tup [.c (statesC ((b.l.drop k).take m)), .c .nilI]) := by
  refine pure_of mixed is_buffer_some (by simp [closedAs, closedA, closedC, Buf.closed]) fun hl T => ?_
  unfold c_buffer_some
  have he := buffer_end_ok b
  have hr : closedR (b.l.map State.cells) = true := closedR_map State.closed b.l
  have hlim : b.lim = b.first + b.l.length := wrap64 (by omega)
  rw [hlim] at he
  obtain ⟨first, l⟩ := b
  simp only at hf hlen hk he hr
  have hRl : (l.map State.cells).length = l.length := by simp
  have hres : statesC ((l.drop k).take m) = .lst 2 (((l.map State.cells).drop k).take (min m ((l.map State.cells).drop k).length)) := by
    rw [take_min, ← List.map_drop, ← List.map_take]
    rfl
  dsimp only [Buf.cells, statesC] at he ⊢
  rw [statesC] at hres
  have hcl := closed_statesC ((l.drop k).take m)
  rw [statesC, hres] at hcl
  rw [hres]
  generalize l.map State.cells = R at *
  have h1 : ¬ (first + (k : Int) < first) := by omega
  have h2 : ¬ (first + (k : Int) > first + (l.length : Int)) := by omega
  have h3 : ¬ ((m : Int) < 0) := by omega
  have hw : IntKind.wrap .i64 (first + (k : Int) - first) = (k : Int) := by rw [wrap64 (by omega)]; omega
  have hsl1 : ∀ (e : Env) (H : Heap), e 32 = iC k → vSl 2 (.c (.lst 2 R)) e (some (.t 32)) none none H = some (.c (.lst 2 (R.drop k)), H) := fun e H h => by
    have g : (k : Nat) ≤ R.length := by omega
    simp [vSl, fitsSz, evSl, boundO, bound, Opd.ev, h, g, vPure]
    exact List.take_of_length_le (by simp)
  have hmn : (if (m : Int) < ((R.drop k).length : Int) then (m : Int) else ((R.drop k).length : Int)) = ((min m (R.drop k).length : Nat) : Int) := by split <;> omega
  have hsl2 : ∀ (e : Env) (H : Heap), e 38 = iC ((min m (R.drop k).length : Nat) : Int) → vSl 2 (.c (.lst 2 (R.drop k))) e none (some (.t 38)) none H = some (.c (.lst 2 ((R.drop k).take (min m (R.drop k).length))), H) := fun e H h => by
    generalize R.drop k = S at *
    have g : min m S.length ≤ S.length := Nat.min_le_right _ _
    generalize min m S.length = j at *
    simp [vSl, fitsSz, evSl, boundO, bound, Opd.ev, h, g, vPure]
  generalize R.drop k = S at *
  generalize hj : min m S.length = j at *
  have hcl' : closedR (S.take j) = true := hcl
  simp only [go_sem, reduceCtorEq, Nat.reduceEqDiff, Nat.reduceAdd, Nat.reduceSub, Nat.reduceMul, Nat.reduceLeDiff, Int.reduceEq, Int.reduceLT, Int.reduceLE, Int.reduceAdd, Int.reduceMul, Int.reduceSub, Int.reduceNeg, Int.reduceToNat, reduceIte, Nat.reduceLT, hr, h1]
  refine callW_pure he ?_
  simp only [go_sem, reduceCtorEq, Nat.reduceEqDiff, Nat.reduceAdd, Nat.reduceSub, Nat.reduceMul, Nat.reduceLeDiff, Int.reduceEq, Int.reduceLT, Int.reduceLE, Int.reduceAdd, Int.reduceMul, Int.reduceSub, Int.reduceNeg, Int.reduceToNat, reduceIte, Nat.reduceLT, hr, h1, h2, h3, hw, hsl1, hmn, hsl2]
  simp [viewA, viewFn, viewC, viewFs, viewCs, viewAs, closedC, closedCs, hcl']

end Go.Proofs.YtnccbccnjjachaaGreat.Eng
