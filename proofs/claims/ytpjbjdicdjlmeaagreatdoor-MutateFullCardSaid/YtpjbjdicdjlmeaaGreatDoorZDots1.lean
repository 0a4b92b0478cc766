/- Contracts of the package dots and of the document's answer: what tells two lists apart. No statement of the seat is proved here. -/
import Derived.Test.YtpjbjdicdjlmeaaGreatDoorZDots0
namespace Go.Proofs.YtpjbjdicdjlmeaaGreatDoor.Eng
open Go
set_option linter.unusedVariables false
set_option linter.unusedSimpArgs false

theorem r7_Has_ok (l : List Rn) (d : Dot) : Pr 7 [.c (runsC l), .agg d.cells] (bC (hasDot l d)) := by
  refine pure_of mixed is_r7_Has (by simp [closedAs, closedA, closed_runsC, Dot.closed]) fun hl T => ?_
  have hlen : l.length ≤ maxLen := by simp [lenAs, lenA, lenC, runsC] at hl; exact hl.1
  unfold c_r7_Has
  dsimp only [runsC]
  generalize hv : hasDot l d = v
  simp only [go_sem, reduceCtorEq, Nat.reduceEqDiff, Nat.reduceAdd, Nat.reduceSub, Nat.reduceMul, Nat.reduceLeDiff, Int.reduceEq, Int.reduceLT, Int.reduceLE, Int.reduceAdd, Int.reduceMul, Int.reduceSub, Int.reduceNeg, Int.reduceToNat, reduceIte, Nat.reduceLT]
  have loop : ∀ (rest pre : List Rn) (e : Env) (H : Heap), l = pre ++ rest → e 0 = .c (.lst 3 (l.map Rn.cells)) → e 3 = .c (.fp d.cells 0) → e 5 = iC pre.length →
      hasDot rest d = v → Run (progT Tryz.prog T) ⟨[.tmp 4], fun u E => viewA E u = some (bC v)⟩ [.loop r7_Has_L0, .blk 0, .code r7_Has_K1] e H := by
    intro rest
    induction rest with
    | nil =>
      intro pre e H hp h0 h3 h5 hm
      have hc := not_lt_at (f := Rn.cells) hp
      refine run_again ?_
      conv => enter [3, 1]; unfold r7_Has_L0
      simp only [go_sem, reduceCtorEq, Nat.reduceEqDiff, Nat.reduceAdd, Nat.reduceSub, Nat.reduceMul, Nat.reduceLeDiff, Int.reduceEq, Int.reduceLT, Int.reduceLE, Int.reduceAdd, Int.reduceMul, Int.reduceSub, Int.reduceNeg, Int.reduceToNat, reduceIte, Nat.reduceLT, h0, h3, h5, hc]
      unfold r7_Has_K1
      simp only [go_sem, reduceCtorEq, Nat.reduceEqDiff, Nat.reduceAdd, Nat.reduceSub, Nat.reduceMul, Nat.reduceLeDiff, Int.reduceEq, Int.reduceLT, Int.reduceLE, Int.reduceAdd, Int.reduceMul, Int.reduceSub, Int.reduceNeg, Int.reduceToNat, reduceIte, Nat.reduceLT]
      simp [viewA, viewFn, viewC, viewFs, viewCs, viewAs, closedC, closedCs, ← hm, hasDot]
    | cons r rest ih =>
      intro pre e H hp h0 h3 h5 hm
      have hc := lt_at (f := Rn.cells) hp
      have hr := map_at' (f := Rn.cells) hp
      have hn := next_at hp hlen
      have go : ∀ e' : Env, e' 0 = e 0 → e' 3 = e 3 → e' 5 = iC (pre ++ [r]).length → hasDot rest d = v → ∀ H', Run (progT Tryz.prog T) ⟨[.tmp 4], fun u E => viewA E u = some (bC v)⟩ [.loop r7_Has_L0, .blk 0, .code r7_Has_K1] e' H' := by
        intro e' g0 g3 g5 gm H'
        exact ih (pre ++ [r]) e' H' (by simp [hp]) (by rw [g0, h0]) (by rw [g3, h3]) g5 gm
      refine run_again ?_
      conv => enter [3, 1]; unfold r7_Has_L0
      simp only [go_sem, reduceCtorEq, Nat.reduceEqDiff, Nat.reduceAdd, Nat.reduceSub, Nat.reduceMul, Nat.reduceLeDiff, Int.reduceEq, Int.reduceLT, Int.reduceLE, Int.reduceAdd, Int.reduceMul, Int.reduceSub, Int.reduceNeg, Int.reduceToNat, reduceIte, Nat.reduceLT, h0, h3, h5, hc, hr]
      clear ih hp hl
      repeat' (first | (first | refine guardW_split (fun h => ?_) (fun h => ?_) | refine condW_split (fun h => ?_) (fun h => ?_) | refine guardW_nsplit (fun h => ?_) (fun h => ?_) | refine condW_nsplit (fun h => ?_) (fun h => ?_) | refine guardW_nbool (fun h => ?_) (fun h => ?_) | refine condW_ncases (fun h => ?_) (fun h => ?_) | refine guardW_bool (fun h => ?_) (fun h => ?_) | refine condW_cases (fun h => ?_) (fun h => ?_)) | simp only [go_sem, reduceCtorEq, Nat.reduceEqDiff, Nat.reduceAdd, Nat.reduceSub, Nat.reduceMul, Nat.reduceLeDiff, Int.reduceEq, Int.reduceLT, Int.reduceLE, Int.reduceAdd, Int.reduceMul, Int.reduceSub, Int.reduceNeg, Int.reduceToNat, reduceIte, Nat.reduceLT, h0, h3, h5, hr, hn, *])
      all_goals first
        | (refine go _ ?_ ?_ ?_ ?_ _ <;> first | (simp only [go_sem, reduceCtorEq, Nat.reduceEqDiff, Nat.reduceAdd, Nat.reduceSub, Nat.reduceMul, Nat.reduceLeDiff, Int.reduceEq, Int.reduceLT, Int.reduceLE, Int.reduceAdd, Int.reduceMul, Int.reduceSub, Int.reduceNeg, Int.reduceToNat, reduceIte, Nat.reduceLT, hn]; done) | (simp [← hm, hasDot, Rn.has, *]; done))
        | (simp [viewA, viewFn, viewC, viewFs, viewCs, viewAs, closedC, closedCs, ← hm, hasDot, Rn.has, *]; done)
  exact loop l [] _ _ rfl rfl rfl rfl hv

theorem eqS_run {neg : Bool} {r q : Rn} {H : Heap} : vEqS neg [0, 0, 0] (.agg [.int .i64 r.dev, .int .i64 r.frm, .int .i64 r.to]) (.agg [.int .i64 q.dev, .int .i64 q.frm, .int .i64 q.to]) H = some (bC (neg != decide (r = q)), H) := by
  obtain ⟨a, b, c⟩ := r
  obtain ⟨a', b', c'⟩ := q
  simp [vEqS, evEqCells, evEqCell, Bool.and_assoc, Bool.decide_and]

theorem r7_SameRuns_ok (a b : List Rn) : Pr 8 [.c (runsC a), .c (runsC b)] (bC (decide (a = b))) := by
  refine pure_of mixed is_r7_SameRuns (by simp [closedAs, closedA, closed_runsC]) fun hl T => ?_
  have hla : a.length ≤ maxLen := by simp [lenAs, lenA, lenC, runsC] at hl; exact hl.1
  unfold c_r7_SameRuns
  dsimp only [runsC]
  generalize hv : decide (a = b) = v
  simp only [go_sem, reduceCtorEq, Nat.reduceEqDiff, Nat.reduceAdd, Nat.reduceSub, Nat.reduceMul, Nat.reduceLeDiff, Int.reduceEq, Int.reduceLT, Int.reduceLE, Int.reduceAdd, Int.reduceMul, Int.reduceSub, Int.reduceNeg, Int.reduceToNat, reduceIte, Nat.reduceLT, List.length_map]
  by_cases hne : (a.length : Int) = b.length
  case neg =>
    simp only [go_sem, reduceCtorEq, Nat.reduceEqDiff, Nat.reduceAdd, Nat.reduceSub, Nat.reduceMul, Nat.reduceLeDiff, Int.reduceEq, Int.reduceLT, Int.reduceLE, Int.reduceAdd, Int.reduceMul, Int.reduceSub, Int.reduceNeg, Int.reduceToNat, reduceIte, Nat.reduceLT, hne]
    have : a ≠ b := by intro h; subst h; exact hne rfl
    simp [viewA, viewFn, viewC, viewFs, viewCs, viewAs, closedC, closedCs, ← hv, this]
  simp only [go_sem, reduceCtorEq, Nat.reduceEqDiff, Nat.reduceAdd, Nat.reduceSub, Nat.reduceMul, Nat.reduceLeDiff, Int.reduceEq, Int.reduceLT, Int.reduceLE, Int.reduceAdd, Int.reduceMul, Int.reduceSub, Int.reduceNeg, Int.reduceToNat, reduceIte, Nat.reduceLT, hne]
  have loop : ∀ (ra rb pa pb : List Rn) (e : Env) (H : Heap), a = pa ++ ra → b = pb ++ rb → pa.length = pb.length → ra.length = rb.length → e 0 = .c (.lst 3 (a.map Rn.cells)) → e 1 = .c (.lst 3 (b.map Rn.cells)) → e 5 = iC pa.length →
      decide (ra = rb) = v → Run (progT Tryz.prog T) ⟨[.tmp 4], fun u E => viewA E u = some (bC v)⟩ [.loop r7_SameRuns_L0, .blk 0, .code r7_SameRuns_K1] e H := by
    intro ra
    induction ra with
    | nil =>
      intro rb pa pb e H hp hq hpq hab h0 h1 h5 hm
      have hrb : rb = [] := List.eq_nil_of_length_eq_zero hab.symm
      subst hrb
      have hc := not_lt_at (f := Rn.cells) hp
      refine run_again ?_
      conv => enter [3, 1]; unfold r7_SameRuns_L0
      simp only [go_sem, reduceCtorEq, Nat.reduceEqDiff, Nat.reduceAdd, Nat.reduceSub, Nat.reduceMul, Nat.reduceLeDiff, Int.reduceEq, Int.reduceLT, Int.reduceLE, Int.reduceAdd, Int.reduceMul, Int.reduceSub, Int.reduceNeg, Int.reduceToNat, reduceIte, Nat.reduceLT, h0, h1, h5, hc]
      unfold r7_SameRuns_K1
      simp only [go_sem, reduceCtorEq, Nat.reduceEqDiff, Nat.reduceAdd, Nat.reduceSub, Nat.reduceMul, Nat.reduceLeDiff, Int.reduceEq, Int.reduceLT, Int.reduceLE, Int.reduceAdd, Int.reduceMul, Int.reduceSub, Int.reduceNeg, Int.reduceToNat, reduceIte, Nat.reduceLT]
      simp [viewA, viewFn, viewC, viewFs, viewCs, viewAs, closedC, closedCs, ← hm]
    | cons x ra ih =>
      intro rb pa pb e H hp hq hpq hab h0 h1 h5 hm
      cases rb with
      | nil => simp at hab
      | cons y rb =>
        have hc := lt_at (f := Rn.cells) hp
        have hx := map_at' (f := Rn.cells) hp
        have hy := map_at' (f := Rn.cells) hq
        rw [← hpq] at hy
        have hn := next_at hp hla
        refine run_again ?_
        conv => enter [3, 1]; unfold r7_SameRuns_L0
        simp only [go_sem, reduceCtorEq, Nat.reduceEqDiff, Nat.reduceAdd, Nat.reduceSub, Nat.reduceMul, Nat.reduceLeDiff, Int.reduceEq, Int.reduceLT, Int.reduceLE, Int.reduceAdd, Int.reduceMul, Int.reduceSub, Int.reduceNeg, Int.reduceToNat, reduceIte, Nat.reduceLT, h0, h1, h5, hc, hx, hy, step_eqS, eqS_run, Bool.true_bne]
        by_cases hxy : x = y
        · subst hxy
          simp only [go_sem, reduceCtorEq, Nat.reduceEqDiff, Nat.reduceAdd, Nat.reduceSub, Nat.reduceMul, Nat.reduceLeDiff, Int.reduceEq, Int.reduceLT, Int.reduceLE, Int.reduceAdd, Int.reduceMul, Int.reduceSub, Int.reduceNeg, Int.reduceToNat, reduceIte, Nat.reduceLT, h5, hn]
          refine ih rb (pa ++ [x]) (pb ++ [x]) _ _ (by simp [hp]) (by simp [hq]) (by simp [hpq]) (by simpa using hab) ?_ ?_ ?_ ?_
          all_goals first | (simp only [go_sem, reduceCtorEq, Nat.reduceEqDiff, Nat.reduceAdd, Nat.reduceSub, Nat.reduceMul, Nat.reduceLeDiff, Int.reduceEq, Int.reduceLT, Int.reduceLE, Int.reduceAdd, Int.reduceMul, Int.reduceSub, Int.reduceNeg, Int.reduceToNat, reduceIte, Nat.reduceLT, h0, h1]; done) | (simp [← hm]; done)
        · simp only [go_sem, reduceCtorEq, Nat.reduceEqDiff, Nat.reduceAdd, Nat.reduceSub, Nat.reduceMul, Nat.reduceLeDiff, Int.reduceEq, Int.reduceLT, Int.reduceLE, Int.reduceAdd, Int.reduceMul, Int.reduceSub, Int.reduceNeg, Int.reduceToNat, reduceIte, Nat.reduceLT, hxy]
          simp [viewA, viewFn, viewC, viewFs, viewCs, viewAs, closedC, closedCs, ← hm, hxy]
  exact loop a b [] [] _ _ rfl rfl rfl (by omega) rfl rfl rfl hv

theorem cmp_isNaN_int_ok (n : Int) : Pr 51 [iC n] (bC false) := by
  refine pure_of mixed is_cmp_isNaN_int rfl fun hl T => ?_
  unfold c_cmp_isNaN_int
  simp only [go_sem, reduceCtorEq, Nat.reduceEqDiff, Nat.reduceAdd, Nat.reduceSub, Nat.reduceMul, Nat.reduceLeDiff, Int.reduceEq, Int.reduceLT, Int.reduceLE, Int.reduceAdd, Int.reduceMul, Int.reduceSub, Int.reduceNeg, Int.reduceToNat, reduceIte, Nat.reduceLT]
  simp [viewA, viewFn, viewC, viewFs, viewCs, viewAs, closedC, closedCs]

def cmpInt (a b : Int) : Int := if a < b then -1 else if b < a then 1 else 0

theorem cmp_Compare_int_ok (a b : Int) : Pr 44 [iC a, iC b] (iC (cmpInt a b)) := by
  refine pure_of mixed is_cmp_Compare_int rfl fun hl T => ?_
  unfold c_cmp_Compare_int
  simp only [go_sem, reduceCtorEq, Nat.reduceEqDiff, Nat.reduceAdd, Nat.reduceSub, Nat.reduceMul, Nat.reduceLeDiff, Int.reduceEq, Int.reduceLT, Int.reduceLE, Int.reduceAdd, Int.reduceMul, Int.reduceSub, Int.reduceNeg, Int.reduceToNat, reduceIte, Nat.reduceLT]
  refine callW_pure (cmp_isNaN_int_ok a) ?_
  simp only [go_sem, reduceCtorEq, Nat.reduceEqDiff, Nat.reduceAdd, Nat.reduceSub, Nat.reduceMul, Nat.reduceLeDiff, Int.reduceEq, Int.reduceLT, Int.reduceLE, Int.reduceAdd, Int.reduceMul, Int.reduceSub, Int.reduceNeg, Int.reduceToNat, reduceIte, Nat.reduceLT]
  refine callW_pure (cmp_isNaN_int_ok b) ?_
  simp only [go_sem, reduceCtorEq, Nat.reduceEqDiff, Nat.reduceAdd, Nat.reduceSub, Nat.reduceMul, Nat.reduceLeDiff, Int.reduceEq, Int.reduceLT, Int.reduceLE, Int.reduceAdd, Int.reduceMul, Int.reduceSub, Int.reduceNeg, Int.reduceToNat, reduceIte, Nat.reduceLT]
  repeat' (first | (first | refine guardW_split (fun h => ?_) (fun h => ?_) | refine condW_split (fun h => ?_) (fun h => ?_) | refine guardW_nsplit (fun h => ?_) (fun h => ?_) | refine condW_nsplit (fun h => ?_) (fun h => ?_) | refine guardW_nbool (fun h => ?_) (fun h => ?_) | refine condW_ncases (fun h => ?_) (fun h => ?_) | refine guardW_bool (fun h => ?_) (fun h => ?_) | refine condW_cases (fun h => ?_) (fun h => ?_)) | simp only [go_sem, reduceCtorEq, Nat.reduceEqDiff, Nat.reduceAdd, Nat.reduceSub, Nat.reduceMul, Nat.reduceLeDiff, Int.reduceEq, Int.reduceLT, Int.reduceLE, Int.reduceAdd, Int.reduceMul, Int.reduceSub, Int.reduceNeg, Int.reduceToNat, reduceIte, Nat.reduceLT, *])
  all_goals simp [viewA, viewFn, viewC, viewFs, viewCs, viewAs, closedC, closedCs, cmpInt, *]

theorem cmp_Or_int2_ok (a b : Int) : Pr 43 [.c (.lst 1 [[.int .i64 a], [.int .i64 b]])] (iC (if a = 0 then b else a)) := by
  refine pure_of mixed is_cmp_Or_int rfl fun hl T => ?_
  unfold c_cmp_Or_int
  have i0 : ∀ H : Heap, vIx 1 (.c (.lst 1 [[.int .i64 a], [.int .i64 b]])) (iC 0) H = some (.c (.fp [.int .i64 a] 0), H) := fun _ => rfl
  have i1 : ∀ H : Heap, vIx 1 (.c (.lst 1 [[.int .i64 a], [.int .i64 b]])) (iC 1) H = some (.c (.fp [.int .i64 b] 0), H) := fun _ => rfl
  have w1 : IntKind.wrap .i64 1 = 1 := by decide
  have w2 : IntKind.wrap .i64 2 = 2 := by decide
  have n2 : ((2 : Nat) : Int) = 2 := rfl
  simp only [go_sem, reduceCtorEq, Nat.reduceEqDiff, Nat.reduceAdd, Nat.reduceSub, Nat.reduceMul, Nat.reduceLeDiff, Int.reduceEq, Int.reduceLT, Int.reduceLE, Int.reduceAdd, Int.reduceMul, Int.reduceSub, Int.reduceNeg, Int.reduceToNat, reduceIte, Nat.reduceLT]
  refine run_again ?_
  conv => enter [3, 1]; unfold cmp_Or_int_L0
  simp only [go_sem, reduceCtorEq, Nat.reduceEqDiff, Nat.reduceAdd, Nat.reduceSub, Nat.reduceMul, Nat.reduceLeDiff, Int.reduceEq, Int.reduceLT, Int.reduceLE, Int.reduceAdd, Int.reduceMul, Int.reduceSub, Int.reduceNeg, Int.reduceToNat, reduceIte, Nat.reduceLT, n2, i0]
  by_cases ha : a = 0
  · simp only [go_sem, reduceCtorEq, Nat.reduceEqDiff, Nat.reduceAdd, Nat.reduceSub, Nat.reduceMul, Nat.reduceLeDiff, Int.reduceEq, Int.reduceLT, Int.reduceLE, Int.reduceAdd, Int.reduceMul, Int.reduceSub, Int.reduceNeg, Int.reduceToNat, reduceIte, Nat.reduceLT, ha, w1]
    refine run_again ?_
    conv => enter [3, 1]; unfold cmp_Or_int_L0
    simp only [ha] at i1
    simp only [go_sem, reduceCtorEq, Nat.reduceEqDiff, Nat.reduceAdd, Nat.reduceSub, Nat.reduceMul, Nat.reduceLeDiff, Int.reduceEq, Int.reduceLT, Int.reduceLE, Int.reduceAdd, Int.reduceMul, Int.reduceSub, Int.reduceNeg, Int.reduceToNat, reduceIte, Nat.reduceLT, n2, i1]
    by_cases hb : b = 0
    · simp only [go_sem, reduceCtorEq, Nat.reduceEqDiff, Nat.reduceAdd, Nat.reduceSub, Nat.reduceMul, Nat.reduceLeDiff, Int.reduceEq, Int.reduceLT, Int.reduceLE, Int.reduceAdd, Int.reduceMul, Int.reduceSub, Int.reduceNeg, Int.reduceToNat, reduceIte, Nat.reduceLT, hb, w2]
      refine run_again ?_
      conv => enter [3, 1]; unfold cmp_Or_int_L0
      simp only [go_sem, reduceCtorEq, Nat.reduceEqDiff, Nat.reduceAdd, Nat.reduceSub, Nat.reduceMul, Nat.reduceLeDiff, Int.reduceEq, Int.reduceLT, Int.reduceLE, Int.reduceAdd, Int.reduceMul, Int.reduceSub, Int.reduceNeg, Int.reduceToNat, reduceIte, Nat.reduceLT, n2]
      unfold cmp_Or_int_K1
      simp only [go_sem, reduceCtorEq, Nat.reduceEqDiff, Nat.reduceAdd, Nat.reduceSub, Nat.reduceMul, Nat.reduceLeDiff, Int.reduceEq, Int.reduceLT, Int.reduceLE, Int.reduceAdd, Int.reduceMul, Int.reduceSub, Int.reduceNeg, Int.reduceToNat, reduceIte, Nat.reduceLT]
      simp [viewA, viewFn, viewC, viewFs, viewCs, viewAs, closedC, closedCs]
    · simp only [go_sem, reduceCtorEq, Nat.reduceEqDiff, Nat.reduceAdd, Nat.reduceSub, Nat.reduceMul, Nat.reduceLeDiff, Int.reduceEq, Int.reduceLT, Int.reduceLE, Int.reduceAdd, Int.reduceMul, Int.reduceSub, Int.reduceNeg, Int.reduceToNat, reduceIte, Nat.reduceLT, hb]
      simp [viewA, viewFn, viewC, viewFs, viewCs, viewAs, closedC, closedCs]
  · simp only [go_sem, reduceCtorEq, Nat.reduceEqDiff, Nat.reduceAdd, Nat.reduceSub, Nat.reduceMul, Nat.reduceLeDiff, Int.reduceEq, Int.reduceLT, Int.reduceLE, Int.reduceAdd, Int.reduceMul, Int.reduceSub, Int.reduceNeg, Int.reduceToNat, reduceIte, Nat.reduceLT, ha]
    simp [viewA, viewFn, viewC, viewFs, viewCs, viewAs, closedC, closedCs, ha]

end Go.Proofs.YtpjbjdicdjlmeaaGreatDoor.Eng
