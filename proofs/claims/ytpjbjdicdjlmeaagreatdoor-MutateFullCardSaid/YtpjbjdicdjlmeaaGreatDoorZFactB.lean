/- Contracts of facts and states, both packages': what tells. No statement of the seat is proved here. -/
import Derived.Test.YtpjbjdicdjlmeaaGreatDoorZFactR
import Derived.Test.YtpjbjdicdjlmeaaGreatDoorZLitG
namespace Go.Proofs.YtpjbjdicdjlmeaaGreatDoor.Eng
open Go
set_option linter.unusedVariables false
set_option linter.unusedSimpArgs false

theorem facts_Cmp_ok (a b : Dot) : Pr 34 [.agg a.cells, .agg b.cells] (iC (cmpDot a b)) := by
  refine pure_of mixed is_facts_Cmp rfl fun hl T => ?_
  unfold c_facts_Cmp
  simp only [go_sem, reduceCtorEq, Nat.reduceEqDiff, Nat.reduceAdd, Nat.reduceSub, Nat.reduceMul, Nat.reduceLeDiff, Int.reduceEq, Int.reduceLT, Int.reduceLE, Int.reduceAdd, Int.reduceMul, Int.reduceSub, Int.reduceNeg, Int.reduceToNat, reduceIte, Nat.reduceLT]
  refine callW_pure (cmp_Compare_int_ok a.dev b.dev) ?_
  simp only [go_sem, reduceCtorEq, Nat.reduceEqDiff, Nat.reduceAdd, Nat.reduceSub, Nat.reduceMul, Nat.reduceLeDiff, Int.reduceEq, Int.reduceLT, Int.reduceLE, Int.reduceAdd, Int.reduceMul, Int.reduceSub, Int.reduceNeg, Int.reduceToNat, reduceIte, Nat.reduceLT]
  refine callW_pure (cmp_Compare_int_ok a.n b.n) ?_
  simp only [go_sem, reduceCtorEq, Nat.reduceEqDiff, Nat.reduceAdd, Nat.reduceSub, Nat.reduceMul, Nat.reduceLeDiff, Int.reduceEq, Int.reduceLT, Int.reduceLE, Int.reduceAdd, Int.reduceMul, Int.reduceSub, Int.reduceNeg, Int.reduceToNat, reduceIte, Nat.reduceLT]
  refine callW_pure (cmp_Or_int2_ok (cmpInt a.dev b.dev) (cmpInt a.n b.n)) ?_
  simp only [go_sem, reduceCtorEq, Nat.reduceEqDiff, Nat.reduceAdd, Nat.reduceSub, Nat.reduceMul, Nat.reduceLeDiff, Int.reduceEq, Int.reduceLT, Int.reduceLE, Int.reduceAdd, Int.reduceMul, Int.reduceSub, Int.reduceNeg, Int.reduceToNat, reduceIte, Nat.reduceLT]
  simp [viewA, viewFn, viewC, viewFs, viewCs, viewAs, closedC, closedCs, cmpDot]

theorem eqS_dot {neg : Bool} {r q : Dot} {H : Heap} : vEqS neg [0, 0] (.agg [.int .i64 r.dev, .int .i64 r.n]) (.agg [.int .i64 q.dev, .int .i64 q.n]) H = some (bC (neg != decide (r = q)), H) := by
  obtain ⟨a, b⟩ := r
  obtain ⟨a', b'⟩ := q
  simp [vEqS, evEqCells, evEqCell, Bool.and_assoc, Bool.decide_and]

theorem eqS_fact {neg : Bool} {r q : Fact} {H : Heap} : vEqS neg [0, 0, 1, 0, 1, 0] (.agg [.int .i64 r.dev, .int .i64 r.n, .str r.key, .int .i64 r.kind, .str r.item, .int .i64 r.num])
    (.agg [.int .i64 q.dev, .int .i64 q.n, .str q.key, .int .i64 q.kind, .str q.item, .int .i64 q.num]) H = some (bC (neg != decide (r = q)), H) := by
  obtain ⟨a, b, c, d, e, f⟩ := r
  obtain ⟨a', b', c', d', e', f'⟩ := q
  simp [vEqS, evEqCells, evEqCell, Bool.and_assoc, Bool.decide_and]

theorem eqS_2 {x y x' y' : Int} {H : Heap} : vEqS false [0, 0] (.agg [.int .i64 x, .int .i64 y]) (.agg [.int .i64 x', .int .i64 y']) H = some (bC (decide (x = x' ∧ y = y')), H) := by
  have := eqS_dot (neg := false) (r := ⟨x, y⟩) (q := ⟨x', y'⟩) (H := H)
  simpa using this

def bigFact (f : Fact) : Bool := decide (100 < (f.key.size : Int)) || decide (400 < (f.item.size : Int))
def greatFrom : Nat → List Fact → Bool
  | 0, _ => false
  | _ + 1, [] => false
  | n + 1, f :: r => bigFact f || greatFrom n r
def great (s : State) : Bool := greatFrom 100 s.facts || decide (60 < (s.seen.length : Int)) || decide (80 < (s.facts.length : Int))

end Go.Proofs.YtpjbjdicdjlmeaaGreatDoor.Eng
