/- Contracts of the document's answer: whether a dot has a fact, what goes by a deed, deeds by numbers. No statement of the seat is proved here. -/
import Derived.Test.YtnccbccnjjachaaGreatDoorZFactB
import Derived.Test.YtnccbccnjjachaaGreatDoorZPartH
namespace Go.Proofs.YtnccbccnjjachaaGreatDoor.Eng
open Go
set_option linter.unusedVariables false
set_option linter.unusedSimpArgs false

theorem r7_at_ok (s : State) (d : Dot) : Pr 41 [.agg s.cells, .agg d.cells] (bC (atD s.facts d)) := by
  obtain ⟨seen, l⟩ := s
  refine pure_of mixed is_r7_at (by simp [closedAs, closedA, State.closed, Dot.closed]) fun hl T => ?_
  have hlen : l.length ≤ maxLen := by simp [lenAs, lenA, lenC, State.cells, runsC, factsC] at hl; exact hl.1.2
  unfold c_r7_at
  generalize hv : atD l d = v
  simp only [go_sem, reduceCtorEq, Nat.reduceEqDiff, Nat.reduceAdd, Nat.reduceSub, Nat.reduceMul, Nat.reduceLeDiff, Int.reduceEq, Int.reduceLT, Int.reduceLE, Int.reduceAdd, Int.reduceMul, Int.reduceSub, Int.reduceNeg, Int.reduceToNat, reduceIte, Nat.reduceLT]
  have loop : ∀ (rest pre : List Fact) (e : Env) (H : Heap), l = pre ++ rest → e 2 = .c (.fp [runsC seen, factsC l] 0) → e 3 = .c (.fp d.cells 0) → e 5 = iC pre.length →
      atD rest d = v → Run (progT Tryz.prog T) ⟨[.tmp 4], fun u E => viewA E u = some (bC v)⟩ [.loop r7_at_L0, .blk 0, .code r7_at_K1] e H := by
    intro rest
    induction rest with
    | nil =>
      intro pre e H hp h0 h3 h5 hm
      have hc := not_lt_at (f := Fact.cells) hp
      refine run_again ?_
      conv => enter [3, 1]; unfold r7_at_L0
      simp only [go_sem, reduceCtorEq, Nat.reduceEqDiff, Nat.reduceAdd, Nat.reduceSub, Nat.reduceMul, Nat.reduceLeDiff, Int.reduceEq, Int.reduceLT, Int.reduceLE, Int.reduceAdd, Int.reduceMul, Int.reduceSub, Int.reduceNeg, Int.reduceToNat, reduceIte, Nat.reduceLT, h0, h3, h5, hc]
      unfold r7_at_K1
      simp only [go_sem, reduceCtorEq, Nat.reduceEqDiff, Nat.reduceAdd, Nat.reduceSub, Nat.reduceMul, Nat.reduceLeDiff, Int.reduceEq, Int.reduceLT, Int.reduceLE, Int.reduceAdd, Int.reduceMul, Int.reduceSub, Int.reduceNeg, Int.reduceToNat, reduceIte, Nat.reduceLT]
      simp [viewA, viewFn, viewC, viewFs, viewCs, viewAs, closedC, closedCs, ← hm, atD]
    | cons r rest ih =>
      intro pre e H hp h0 h3 h5 hm
      have hc := lt_at (f := Fact.cells) hp
      have hr := map_at' (f := Fact.cells) hp
      have hn := next_at hp hlen
      refine run_again ?_
      conv => enter [3, 1]; unfold r7_at_L0
      simp only [go_sem, reduceCtorEq, Nat.reduceEqDiff, Nat.reduceAdd, Nat.reduceSub, Nat.reduceMul, Nat.reduceLeDiff, Int.reduceEq, Int.reduceLT, Int.reduceLE, Int.reduceAdd, Int.reduceMul, Int.reduceSub, Int.reduceNeg, Int.reduceToNat, reduceIte, Nat.reduceLT, h0, h3, h5, hc, hr]
      have he : ∀ H, vEqS false [0, 0] (.agg [.int .i64 r.dev, .int .i64 r.n]) (.agg [.int .i64 d.dev, .int .i64 d.n]) H = some (bC (decide (r.dot = d)), H) := fun H => by
        have := eqS_dot (neg := false) (r := r.dot) (q := d) (H := H)
        simpa [Fact.dot] using this
      simp only [go_sem, reduceCtorEq, Nat.reduceEqDiff, Nat.reduceAdd, Nat.reduceSub, Nat.reduceMul, Nat.reduceLeDiff, Int.reduceEq, Int.reduceLT, Int.reduceLE, Int.reduceAdd, Int.reduceMul, Int.reduceSub, Int.reduceNeg, Int.reduceToNat, reduceIte, Nat.reduceLT, step_eqS, he]
      by_cases hx : r.dot = d
      · simp only [go_sem, reduceCtorEq, Nat.reduceEqDiff, Nat.reduceAdd, Nat.reduceSub, Nat.reduceMul, Nat.reduceLeDiff, Int.reduceEq, Int.reduceLT, Int.reduceLE, Int.reduceAdd, Int.reduceMul, Int.reduceSub, Int.reduceNeg, Int.reduceToNat, reduceIte, Nat.reduceLT, hx]
        simp [viewA, viewFn, viewC, viewFs, viewCs, viewAs, closedC, closedCs, ← hm, atD, hx]
      · simp only [go_sem, reduceCtorEq, Nat.reduceEqDiff, Nat.reduceAdd, Nat.reduceSub, Nat.reduceMul, Nat.reduceLeDiff, Int.reduceEq, Int.reduceLT, Int.reduceLE, Int.reduceAdd, Int.reduceMul, Int.reduceSub, Int.reduceNeg, Int.reduceToNat, reduceIte, Nat.reduceLT, hx, h5, hn]
        refine ih (pre ++ [r]) _ _ (by simp [hp]) ?_ ?_ ?_ ?_
        all_goals first | (simp only [go_sem, reduceCtorEq, Nat.reduceEqDiff, Nat.reduceAdd, Nat.reduceSub, Nat.reduceMul, Nat.reduceLeDiff, Int.reduceEq, Int.reduceLT, Int.reduceLE, Int.reduceAdd, Int.reduceMul, Int.reduceSub, Int.reduceNeg, Int.reduceToNat, reduceIte, Nat.reduceLT, h0, h3, hn]; done) | (simp [← hm, atD, hx]; done)
  exact loop l [] _ _ rfl rfl rfl rfl hv

theorem r7_goes_ok (f : Fact) (dev : Int) (o : OpR) : Pr 37 [.agg f.cells, iC dev, .agg o.cells] (bC (goesF dev o f)) := by
  refine pure_of mixed is_r7_goes rfl fun hl T => ?_
  unfold c_r7_goes
  simp only [go_sem, reduceCtorEq, Nat.reduceEqDiff, Nat.reduceAdd, Nat.reduceSub, Nat.reduceMul, Nat.reduceLeDiff, Int.reduceEq, Int.reduceLT, Int.reduceLE, Int.reduceAdd, Int.reduceMul, Int.reduceSub, Int.reduceNeg, Int.reduceToNat, reduceIte, Nat.reduceLT]
  repeat' (first | (first | refine guardW_split (fun h => ?_) (fun h => ?_) | refine condW_split (fun h => ?_) (fun h => ?_) | refine guardW_nsplit (fun h => ?_) (fun h => ?_) | refine condW_nsplit (fun h => ?_) (fun h => ?_) | refine guardW_nbool (fun h => ?_) (fun h => ?_) | refine condW_ncases (fun h => ?_) (fun h => ?_) | refine guardW_bool (fun h => ?_) (fun h => ?_) | refine condW_cases (fun h => ?_) (fun h => ?_)) | simp only [go_sem, reduceCtorEq, Nat.reduceEqDiff, Nat.reduceAdd, Nat.reduceSub, Nat.reduceMul, Nat.reduceLeDiff, Int.reduceEq, Int.reduceLT, Int.reduceLE, Int.reduceAdd, Int.reduceMul, Int.reduceSub, Int.reduceNeg, Int.reduceToNat, reduceIte, Nat.reduceLT, *])
  all_goals simp [viewA, viewFn, viewC, viewFs, viewCs, viewAs, closedC, closedCs, goesF, *]

theorem wrap8 {n : Int} (h : 0 ≤ n ∧ n ≤ 255) : IntKind.wrap .u8 n = n := by
  simp [IntKind.wrap, IntKind.bits, IntKind.signed]; omega
/-- A text of one byte. -/
def one8 (n : Nat) : ByteArray := ⟨#[n.toUInt8]⟩
theorem vB2s_one {n : Nat} {H : Heap} : vB2s (.c (.lst 1 [[.int .u8 (n : Int)]])) H = some (.c (.str (one8 n)), H) := by
  simp [vB2s, fitsSz, Heap.rowsOf, takeBytes, one8]
def opOf (a b : Nat) : OpR := ⟨1 + ((a % 5 : Nat) : Int), one8 (107 + a / 5 % 3), one8 (97 + b % 5), (b : Int) - 100⟩

theorem l8_Op_ok (a b : Nat) (ha : a < 256) (hb : b < 256) : Pr 18 [.c (.int .u8 (a : Int)), .c (.int .u8 (b : Int))] (.agg (opOf a b).cells) := by
  refine pure_of mixed is_l8_Op rfl fun hl T => ?_
  unfold c_l8_Op
  have c1 : IntKind.wrap .i64 (a : Int) = (a : Int) := wrap64 (by omega)
  have c2 : (a : Int).tmod 5 = ((a % 5 : Nat) : Int) := by rw [Int.tmod_eq_emod_of_nonneg (by omega)]; omega
  have c3 : IntKind.wrap .i64 (1 + ((a % 5 : Nat) : Int)) = 1 + ((a % 5 : Nat) : Int) := wrap64 (by omega)
  have k1 : IntKind.wrap .u8 ((a : Int).tdiv 5) = ((a / 5 : Nat) : Int) := by
    have : (a : Int).tdiv 5 = ((a / 5 : Nat) : Int) := by rw [Int.tdiv_eq_ediv_of_nonneg (by omega)]; omega
    rw [this, wrap8 (by omega)]
  have k2 : ((a / 5 : Nat) : Int).tmod 3 = ((a / 5 % 3 : Nat) : Int) := by rw [Int.tmod_eq_emod_of_nonneg (by omega)]; omega
  have k3 : IntKind.wrap .u8 (107 + ((a / 5 % 3 : Nat) : Int)) = ((107 + a / 5 % 3 : Nat) : Int) := by rw [wrap8 (by omega)]; omega
  have k4 : (b : Int).tmod 5 = ((b % 5 : Nat) : Int) := by rw [Int.tmod_eq_emod_of_nonneg (by omega)]; omega
  have k5 : IntKind.wrap .u8 (97 + ((b % 5 : Nat) : Int)) = ((97 + b % 5 : Nat) : Int) := by rw [wrap8 (by omega)]; omega
  have k6 : IntKind.wrap .i64 (IntKind.wrap .i64 (b : Int) - 100) = (b : Int) - 100 := by rw [wrap64 (n := (b : Int)) (by omega), wrap64 (by omega)]
  simp only [go_sem, reduceCtorEq, Nat.reduceEqDiff, Nat.reduceAdd, Nat.reduceSub, Nat.reduceMul, Nat.reduceLeDiff, Int.reduceEq, Int.reduceLT, Int.reduceLE, Int.reduceAdd, Int.reduceMul, Int.reduceSub, Int.reduceNeg, Int.reduceToNat, reduceIte, Nat.reduceLT, c1, c2, c3, k1, k2, k3, k4, k5, k6, vB2s_one]
  simp [viewA, viewFn, viewC, viewFs, viewCs, viewAs, closedC, closedCs, opOf, OpR.cells]

end Go.Proofs.YtnccbccnjjachaaGreatDoor.Eng
