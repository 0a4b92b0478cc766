/- Contracts of facts and states, both packages': what tells. No statement of the seat is proved here. -/
import Derived.Test.YtnccbccnjjachaaGreatDoorZFactR
import Derived.Test.YtnccbccnjjachaaGreatDoorZPartH
namespace Go.Proofs.YtnccbccnjjachaaGreatDoor.Eng
open Go
set_option linter.unusedVariables false
set_option linter.unusedSimpArgs false

theorem r7_Right_ok (f : Fact) : Pr 33 [.agg f.cells] (bC f.right) := by
  refine pure_of mixed is_r7_Right rfl fun hl T => ?_
  unfold c_r7_Right
  simp only [go_sem, reduceCtorEq, Nat.reduceEqDiff, Nat.reduceAdd, Nat.reduceSub, Nat.reduceMul, Nat.reduceLeDiff, Int.reduceEq, Int.reduceLT, Int.reduceLE, Int.reduceAdd, Int.reduceMul, Int.reduceSub, Int.reduceNeg, Int.reduceToNat, reduceIte, Nat.reduceLT]
  repeat' (first | (first | refine guardW_split (fun h => ?_) (fun h => ?_) | refine condW_split (fun h => ?_) (fun h => ?_) | refine guardW_nsplit (fun h => ?_) (fun h => ?_) | refine condW_nsplit (fun h => ?_) (fun h => ?_) | refine guardW_nbool (fun h => ?_) (fun h => ?_) | refine condW_ncases (fun h => ?_) (fun h => ?_) | refine guardW_bool (fun h => ?_) (fun h => ?_) | refine condW_cases (fun h => ?_) (fun h => ?_)) | simp only [go_sem, reduceCtorEq, Nat.reduceEqDiff, Nat.reduceAdd, Nat.reduceSub, Nat.reduceMul, Nat.reduceLeDiff, Int.reduceEq, Int.reduceLT, Int.reduceLE, Int.reduceAdd, Int.reduceMul, Int.reduceSub, Int.reduceNeg, Int.reduceToNat, reduceIte, Nat.reduceLT, *])
  all_goals first | (simp [viewA, viewFn, viewC, viewFs, viewCs, viewAs, closedC, closedCs, Fact.right, *]; done) | (simp [viewA, viewFn, viewC, viewFs, viewCs, viewAs, closedC, closedCs, Fact.right, *]; omega)

theorem facts_Cmp_ok (a b : Dot) : Pr 65 [.agg a.cells, .agg b.cells] (iC (cmpDot a b)) := by
  refine pure_of mixed is_facts_Cmp rfl fun hl T => ?_
  unfold c_facts_Cmp
  simp only [go_sem, reduceCtorEq, Nat.reduceEqDiff, Nat.reduceAdd, Nat.reduceSub, Nat.reduceMul, Nat.reduceLeDiff, Int.reduceEq, Int.reduceLT, Int.reduceLE, Int.reduceAdd, Int.reduceMul, Int.reduceSub, Int.reduceNeg, Int.reduceToNat, reduceIte, Nat.reduceLT]
  refine callW_pure (cmp_Compare_int_ok a.dev b.dev) ?_
  simp only [go_sem, reduceCtorEq, Nat.reduceEqDiff, Nat.reduceAdd, Nat.reduceSub, Nat.reduceMul, Nat.reduceLeDiff, Int.reduceEq, Int.reduceLT, Int.reduceLE, Int.reduceAdd, Int.reduceMul, Int.reduceSub, Int.reduceNeg, Int.reduceToNat, reduceIte, Nat.reduceLT]
  refine callW_pure (cmp_Compare_int_ok a.n b.n) ?_
  simp only [go_sem, reduceCtorEq, Nat.reduceEqDiff, Nat.reduceAdd, Nat.reduceSub, Nat.reduceMul, Nat.reduceLeDiff, Int.reduceEq, Int.reduceLT, Int.reduceLE, Int.reduceAdd, Int.reduceMul, Int.reduceSub, Int.reduceNeg, Int.reduceToNat, reduceIte, Nat.reduceLT]
  refine callW_pure (cmp_Or_int2_ok (cmpInt a.dev b.dev) (cmpInt a.n b.n)) ?_
  simp only [go_sem, reduceCtorEq, Nat.reduceEqDiff, Nat.reduceAdd, Nat.reduceSub, Nat.reduceMul, Nat.reduceLeDiff, Int.reduceEq, Int.reduceLT, Int.reduceLE, Int.reduceAdd, Int.reduceMul, Int.reduceSub, Int.reduceNeg, Int.reduceToNat, reduceIte, Nat.reduceLT]
  simp [viewA, viewFn, viewC, viewFs, viewCs, viewAs, closedC, closedCs, cmpDot]

theorem eqS_dot {neg : Bool} {r q : Dot} {H : Heap} : vEqS neg [0, 0] (.agg [.int .i64 r.dev, .int .i64 r.n]) (.agg [.int .i64 q.dev, .int .i64 q.n]) H = some (bC (neg != decide (r = q)), H) := by
  obtain ⟨a, b⟩ := r
  obtain ⟨a', b'⟩ := q
  simp [vEqS, evEqCells, evEqCell, Bool.and_assoc, Bool.decide_and]

theorem eqS_fact {neg : Bool} {r q : Fact} {H : Heap} : vEqS neg [0, 0, 1, 0, 1, 0] (.agg [.int .i64 r.dev, .int .i64 r.n, .str r.key, .int .i64 r.kind, .str r.item, .int .i64 r.num])
    (.agg [.int .i64 q.dev, .int .i64 q.n, .str q.key, .int .i64 q.kind, .str q.item, .int .i64 q.num]) H = some (bC (neg != decide (r = q)), H) := by
  obtain ⟨a, b, c, d, e, f⟩ := r
  obtain ⟨a', b', c', d', e', f'⟩ := q
  simp [vEqS, evEqCells, evEqCell, Bool.and_assoc, Bool.decide_and]

theorem eqS_2 {x y x' y' : Int} {H : Heap} : vEqS false [0, 0] (.agg [.int .i64 x, .int .i64 y]) (.agg [.int .i64 x', .int .i64 y']) H = some (bC (decide (x = x' ∧ y = y')), H) := by
  have := eqS_dot (neg := false) (r := ⟨x, y⟩) (q := ⟨x', y'⟩) (H := H)
  simpa using this

theorem r7_Cmp_ok (a b : Dot) : Pr 34 [.agg a.cells, .agg b.cells] (iC (cmpDot a b)) := by
  refine pure_of mixed is_r7_Cmp rfl fun hl T => ?_
  unfold c_r7_Cmp
  obtain ⟨x, y⟩ := a
  obtain ⟨x', y'⟩ := b
  simp only [go_sem, reduceCtorEq, Nat.reduceEqDiff, Nat.reduceAdd, Nat.reduceSub, Nat.reduceMul, Nat.reduceLeDiff, Int.reduceEq, Int.reduceLT, Int.reduceLE, Int.reduceAdd, Int.reduceMul, Int.reduceSub, Int.reduceNeg, Int.reduceToNat, reduceIte, Nat.reduceLT]
  repeat' (first | (first | refine guardW_split (fun h => ?_) (fun h => ?_) | refine condW_split (fun h => ?_) (fun h => ?_) | refine guardW_nsplit (fun h => ?_) (fun h => ?_) | refine condW_nsplit (fun h => ?_) (fun h => ?_) | refine guardW_nbool (fun h => ?_) (fun h => ?_) | refine condW_ncases (fun h => ?_) (fun h => ?_) | refine guardW_bool (fun h => ?_) (fun h => ?_) | refine condW_cases (fun h => ?_) (fun h => ?_)) | simp only [go_sem, reduceCtorEq, Nat.reduceEqDiff, Nat.reduceAdd, Nat.reduceSub, Nat.reduceMul, Nat.reduceLeDiff, Int.reduceEq, Int.reduceLT, Int.reduceLE, Int.reduceAdd, Int.reduceMul, Int.reduceSub, Int.reduceNeg, Int.reduceToNat, reduceIte, Nat.reduceLT, step_eqS, eqS_2, *])
  all_goals simp only [viewA, viewFn, viewC, closedC, if_true, cmpDot, cmpInt, Option.some.injEq, AVal.c.injEq, Cell.int.injEq, true_and]
  all_goals (repeat' split) <;> first | omega | (simp_all; done)

theorem r7_May_ok (s : State) : Pr 11 [.agg s.cells] (bC (mayState s)) := by
  obtain ⟨seen, l⟩ := s
  refine pure_of mixed is_r7_May (by simp [closedAs, closedA, State.closed]) fun hl T => ?_
  have hlen : l.length ≤ maxLen := by simp [lenAs, lenA, lenC, State.cells, runsC, factsC] at hl; exact hl.2
  unfold c_r7_May
  generalize hv : mayState ⟨seen, l⟩ = v
  simp only [go_sem, reduceCtorEq, Nat.reduceEqDiff, Nat.reduceAdd, Nat.reduceSub, Nat.reduceMul, Nat.reduceLeDiff, Int.reduceEq, Int.reduceLT, Int.reduceLE, Int.reduceAdd, Int.reduceMul, Int.reduceSub, Int.reduceNeg, Int.reduceToNat, reduceIte, Nat.reduceLT]
  refine callW_pure (r7_MayRuns_ok seen) ?_
  simp only [go_sem, reduceCtorEq, Nat.reduceEqDiff, Nat.reduceAdd, Nat.reduceSub, Nat.reduceMul, Nat.reduceLeDiff, Int.reduceEq, Int.reduceLT, Int.reduceLE, Int.reduceAdd, Int.reduceMul, Int.reduceSub, Int.reduceNeg, Int.reduceToNat, reduceIte, Nat.reduceLT]
  unfold mayState at hv
  cases hms : mayRuns seen with
  | false =>
    simp only [go_sem, reduceCtorEq, Nat.reduceEqDiff, Nat.reduceAdd, Nat.reduceSub, Nat.reduceMul, Nat.reduceLeDiff, Int.reduceEq, Int.reduceLT, Int.reduceLE, Int.reduceAdd, Int.reduceMul, Int.reduceSub, Int.reduceNeg, Int.reduceToNat, reduceIte, Nat.reduceLT]
    simp [viewA, viewFn, viewC, viewFs, viewCs, viewAs, closedC, closedCs, ← hv, hms]
  | true =>
    simp only [go_sem, reduceCtorEq, Nat.reduceEqDiff, Nat.reduceAdd, Nat.reduceSub, Nat.reduceMul, Nat.reduceLeDiff, Int.reduceEq, Int.reduceLT, Int.reduceLE, Int.reduceAdd, Int.reduceMul, Int.reduceSub, Int.reduceNeg, Int.reduceToNat, reduceIte, Nat.reduceLT, List.length_map]
    by_cases h400 : (400 : Int) < l.length
    · simp only [go_sem, reduceCtorEq, Nat.reduceEqDiff, Nat.reduceAdd, Nat.reduceSub, Nat.reduceMul, Nat.reduceLeDiff, Int.reduceEq, Int.reduceLT, Int.reduceLE, Int.reduceAdd, Int.reduceMul, Int.reduceSub, Int.reduceNeg, Int.reduceToNat, reduceIte, Nat.reduceLT, h400]
      have : ¬ ((l.length : Int) ≤ 400) := by omega
      simp [viewA, viewFn, viewC, viewFs, viewCs, viewAs, closedC, closedCs, ← hv, hms, this]
    simp only [go_sem, reduceCtorEq, Nat.reduceEqDiff, Nat.reduceAdd, Nat.reduceSub, Nat.reduceMul, Nat.reduceLeDiff, Int.reduceEq, Int.reduceLT, Int.reduceLE, Int.reduceAdd, Int.reduceMul, Int.reduceSub, Int.reduceNeg, Int.reduceToNat, reduceIte, Nat.reduceLT, h400]
    have h400' : ((l.length : Int) ≤ 400) := by omega
    simp only [hms, h400', decide_true, Bool.true_and] at hv
    have loop : ∀ (rest pre : List Fact) (e : Env) (H : Heap), l = pre ++ rest → e 1 = .c (.fp [runsC seen, factsC l] 0) → e 3 = iC pre.length →
        factsFrom seen pre.getLast? rest = v → Run (progT Tryz.prog T) ⟨[.tmp 2], fun u E => viewA E u = some (bC v)⟩ [.loop r7_May_L0, .blk 0, .code r7_May_K1] e H := by
      intro rest
      induction rest with
      | nil =>
        intro pre e H hp h1 h3 hm
        have hc := not_lt_at (f := Fact.cells) hp
        refine run_again ?_
        conv => enter [3, 1]; unfold r7_May_L0
        simp only [go_sem, reduceCtorEq, Nat.reduceEqDiff, Nat.reduceAdd, Nat.reduceSub, Nat.reduceMul, Nat.reduceLeDiff, Int.reduceEq, Int.reduceLT, Int.reduceLE, Int.reduceAdd, Int.reduceMul, Int.reduceSub, Int.reduceNeg, Int.reduceToNat, reduceIte, Nat.reduceLT, h1, h3, hc]
        unfold r7_May_K1
        simp only [go_sem, reduceCtorEq, Nat.reduceEqDiff, Nat.reduceAdd, Nat.reduceSub, Nat.reduceMul, Nat.reduceLeDiff, Int.reduceEq, Int.reduceLT, Int.reduceLE, Int.reduceAdd, Int.reduceMul, Int.reduceSub, Int.reduceNeg, Int.reduceToNat, reduceIte, Nat.reduceLT]
        simp [viewA, viewFn, viewC, viewFs, viewCs, viewAs, closedC, closedCs, ← hm, factsFrom]
      | cons r rest ih =>
        intro pre e H hp h1 h3 hm
        have hc := lt_at (f := Fact.cells) hp
        have hr := map_at' (f := Fact.cells) hp
        have hn := next_at hp hlen
        have go : ∀ e' : Env, e' 1 = e 1 → e' 3 = iC (pre ++ [r]).length → factsFrom seen (some r) rest = v → ∀ H', Run (progT Tryz.prog T) ⟨[.tmp 2], fun u E => viewA E u = some (bC v)⟩ [.loop r7_May_L0, .blk 0, .code r7_May_K1] e' H' := by
          intro e' g1 g3 gm H'
          exact ih (pre ++ [r]) e' H' (by simp [hp]) (by rw [g1, h1]) g3 (by rw [← gm]; simp)
        refine run_again ?_
        conv => enter [3, 1]; unfold r7_May_L0
        simp only [go_sem, reduceCtorEq, Nat.reduceEqDiff, Nat.reduceAdd, Nat.reduceSub, Nat.reduceMul, Nat.reduceLeDiff, Int.reduceEq, Int.reduceLT, Int.reduceLE, Int.reduceAdd, Int.reduceMul, Int.reduceSub, Int.reduceNeg, Int.reduceToNat, reduceIte, Nat.reduceLT, h1, h3, hc, hr]
        refine callW_pure (r7_Right_ok r) ?_
        simp only [go_sem, reduceCtorEq, Nat.reduceEqDiff, Nat.reduceAdd, Nat.reduceSub, Nat.reduceMul, Nat.reduceLeDiff, Int.reduceEq, Int.reduceLT, Int.reduceLE, Int.reduceAdd, Int.reduceMul, Int.reduceSub, Int.reduceNeg, Int.reduceToNat, reduceIte, Nat.reduceLT]
        cases hright : r.right with
        | false =>
          simp only [go_sem, reduceCtorEq, Nat.reduceEqDiff, Nat.reduceAdd, Nat.reduceSub, Nat.reduceMul, Nat.reduceLeDiff, Int.reduceEq, Int.reduceLT, Int.reduceLE, Int.reduceAdd, Int.reduceMul, Int.reduceSub, Int.reduceNeg, Int.reduceToNat, reduceIte, Nat.reduceLT]
          simp [viewA, viewFn, viewC, viewFs, viewCs, viewAs, closedC, closedCs, ← hm, factsFrom, hright]
        | true =>
          simp only [go_sem, reduceCtorEq, Nat.reduceEqDiff, Nat.reduceAdd, Nat.reduceSub, Nat.reduceMul, Nat.reduceLeDiff, Int.reduceEq, Int.reduceLT, Int.reduceLE, Int.reduceAdd, Int.reduceMul, Int.reduceSub, Int.reduceNeg, Int.reduceToNat, reduceIte, Nat.reduceLT, h1]
          refine callW_pure (r7_Has_ok seen r.dot) ?_
          simp only [go_sem, reduceCtorEq, Nat.reduceEqDiff, Nat.reduceAdd, Nat.reduceSub, Nat.reduceMul, Nat.reduceLeDiff, Int.reduceEq, Int.reduceLT, Int.reduceLE, Int.reduceAdd, Int.reduceMul, Int.reduceSub, Int.reduceNeg, Int.reduceToNat, reduceIte, Nat.reduceLT]
          cases hhas : hasDot seen r.dot with
          | false =>
            simp only [go_sem, reduceCtorEq, Nat.reduceEqDiff, Nat.reduceAdd, Nat.reduceSub, Nat.reduceMul, Nat.reduceLeDiff, Int.reduceEq, Int.reduceLT, Int.reduceLE, Int.reduceAdd, Int.reduceMul, Int.reduceSub, Int.reduceNeg, Int.reduceToNat, reduceIte, Nat.reduceLT]
            simp [viewA, viewFn, viewC, viewFs, viewCs, viewAs, closedC, closedCs, ← hm, factsFrom, hright, hhas]
          | true =>
            rcases List.eq_nil_or_concat pre with rfl | ⟨pre', q, rfl⟩
            · simp only [go_sem, reduceCtorEq, Nat.reduceEqDiff, Nat.reduceAdd, Nat.reduceSub, Nat.reduceMul, Nat.reduceLeDiff, Int.reduceEq, Int.reduceLT, Int.reduceLE, Int.reduceAdd, Int.reduceMul, Int.reduceSub, Int.reduceNeg, Int.reduceToNat, reduceIte, Nat.reduceLT, h3]
              refine go _ ?_ ?_ ?_ _
              all_goals first | (simp only [go_sem, reduceCtorEq, Nat.reduceEqDiff, Nat.reduceAdd, Nat.reduceSub, Nat.reduceMul, Nat.reduceLeDiff, Int.reduceEq, Int.reduceLT, Int.reduceLE, Int.reduceAdd, Int.reduceMul, Int.reduceSub, Int.reduceNeg, Int.reduceToNat, reduceIte, Nat.reduceLT]; done) | rfl | (simp [← hm, factsFrom, hright, hhas]; done)
            · have hq : (l.map Fact.cells)[pre'.length]? = some q.cells := by rw [hp]; simp
              have hprev := prev_at (pre := pre') (x := q) (by rw [hp] at hlen; simp at hlen ⊢; omega)
              simp only [List.concat_eq_append] at h3 hn go hm ⊢
              clear ih hp hl hr hc
              simp only [go_sem, reduceCtorEq, Nat.reduceEqDiff, Nat.reduceAdd, Nat.reduceSub, Nat.reduceMul, Nat.reduceLeDiff, Int.reduceEq, Int.reduceLT, Int.reduceLE, Int.reduceAdd, Int.reduceMul, Int.reduceSub, Int.reduceNeg, Int.reduceToNat, reduceIte, Nat.reduceLT, pos_at, h1, h3, hprev, hq]
              refine callW_pure (r7_Cmp_ok q.dot r.dot) ?_
              by_cases hcmp : 0 ≤ cmpDot q.dot r.dot
              · simp only [go_sem, reduceCtorEq, Nat.reduceEqDiff, Nat.reduceAdd, Nat.reduceSub, Nat.reduceMul, Nat.reduceLeDiff, Int.reduceEq, Int.reduceLT, Int.reduceLE, Int.reduceAdd, Int.reduceMul, Int.reduceSub, Int.reduceNeg, Int.reduceToNat, reduceIte, Nat.reduceLT, hcmp]
                have : ¬ (cmpDot q.dot r.dot < 0) := by omega
                simp [viewA, viewFn, viewC, viewFs, viewCs, viewAs, closedC, closedCs, ← hm, factsFrom, hright, hhas, this]
              · simp only [go_sem, reduceCtorEq, Nat.reduceEqDiff, Nat.reduceAdd, Nat.reduceSub, Nat.reduceMul, Nat.reduceLeDiff, Int.reduceEq, Int.reduceLT, Int.reduceLE, Int.reduceAdd, Int.reduceMul, Int.reduceSub, Int.reduceNeg, Int.reduceToNat, reduceIte, Nat.reduceLT, hcmp, h3, hn]
                have : (cmpDot q.dot r.dot < 0) := by omega
                refine go _ ?_ ?_ ?_ _ <;> first | (simp only [go_sem, reduceCtorEq, Nat.reduceEqDiff, Nat.reduceAdd, Nat.reduceSub, Nat.reduceMul, Nat.reduceLeDiff, Int.reduceEq, Int.reduceLT, Int.reduceLE, Int.reduceAdd, Int.reduceMul, Int.reduceSub, Int.reduceNeg, Int.reduceToNat, reduceIte, Nat.reduceLT, hn]; done) | (simp [← hm, factsFrom, hright, hhas, this]; done)
    exact loop l [] _ _ rfl rfl rfl hv

theorem r7_Same_ok (a b : State) : Pr 15 [.agg a.cells, .agg b.cells] (bC (decide (a = b))) := by
  obtain ⟨sa, a⟩ := a
  obtain ⟨sb, b⟩ := b
  refine pure_of mixed is_r7_Same (by simp [closedAs, closedA, State.closed]) fun hl T => ?_
  have hla : a.length ≤ maxLen := by simp [lenAs, lenA, lenC, State.cells, runsC, factsC] at hl; exact hl.1.2
  unfold c_r7_Same
  generalize hv : decide (State.mk sa a = State.mk sb b) = v
  simp only [go_sem, reduceCtorEq, Nat.reduceEqDiff, Nat.reduceAdd, Nat.reduceSub, Nat.reduceMul, Nat.reduceLeDiff, Int.reduceEq, Int.reduceLT, Int.reduceLE, Int.reduceAdd, Int.reduceMul, Int.reduceSub, Int.reduceNeg, Int.reduceToNat, reduceIte, Nat.reduceLT]
  refine callW_pure (r7_SameRuns_ok sa sb) ?_
  by_cases hs : sa = sb
  case neg =>
    simp only [go_sem, reduceCtorEq, Nat.reduceEqDiff, Nat.reduceAdd, Nat.reduceSub, Nat.reduceMul, Nat.reduceLeDiff, Int.reduceEq, Int.reduceLT, Int.reduceLE, Int.reduceAdd, Int.reduceMul, Int.reduceSub, Int.reduceNeg, Int.reduceToNat, reduceIte, Nat.reduceLT, hs]
    simp [viewA, viewFn, viewC, viewFs, viewCs, viewAs, closedC, closedCs, ← hv, hs]
  subst hs
  simp only [go_sem, reduceCtorEq, Nat.reduceEqDiff, Nat.reduceAdd, Nat.reduceSub, Nat.reduceMul, Nat.reduceLeDiff, Int.reduceEq, Int.reduceLT, Int.reduceLE, Int.reduceAdd, Int.reduceMul, Int.reduceSub, Int.reduceNeg, Int.reduceToNat, reduceIte, Nat.reduceLT, List.length_map]
  by_cases hne : (a.length : Int) = b.length
  case neg =>
    simp only [go_sem, reduceCtorEq, Nat.reduceEqDiff, Nat.reduceAdd, Nat.reduceSub, Nat.reduceMul, Nat.reduceLeDiff, Int.reduceEq, Int.reduceLT, Int.reduceLE, Int.reduceAdd, Int.reduceMul, Int.reduceSub, Int.reduceNeg, Int.reduceToNat, reduceIte, Nat.reduceLT, hne]
    have : a ≠ b := by intro h; subst h; exact hne rfl
    simp [viewA, viewFn, viewC, viewFs, viewCs, viewAs, closedC, closedCs, ← hv, this]
  simp only [go_sem, reduceCtorEq, Nat.reduceEqDiff, Nat.reduceAdd, Nat.reduceSub, Nat.reduceMul, Nat.reduceLeDiff, Int.reduceEq, Int.reduceLT, Int.reduceLE, Int.reduceAdd, Int.reduceMul, Int.reduceSub, Int.reduceNeg, Int.reduceToNat, reduceIte, Nat.reduceLT, hne]
  have hv' : decide (a = b) = v := by rw [← hv]; simp
  have loop : ∀ (ra rb pa pb : List Fact) (e : Env) (H : Heap), a = pa ++ ra → b = pb ++ rb → pa.length = pb.length → ra.length = rb.length → e 2 = .c (.fp [runsC sa, factsC a] 0) → e 3 = .c (.fp [runsC sa, factsC b] 0) → e 5 = iC pa.length →
      decide (ra = rb) = v → Run (progT Tryz.prog T) ⟨[.tmp 4], fun u E => viewA E u = some (bC v)⟩ [.loop r7_Same_L0, .blk 0, .code r7_Same_K1] e H := by
    intro ra
    induction ra with
    | nil =>
      intro rb pa pb e H hp hq hpq hab h0 h1 h5 hm
      have hrb : rb = [] := List.eq_nil_of_length_eq_zero hab.symm
      subst hrb
      have hc := not_lt_at (f := Fact.cells) hp
      refine run_again ?_
      conv => enter [3, 1]; unfold r7_Same_L0
      simp only [go_sem, reduceCtorEq, Nat.reduceEqDiff, Nat.reduceAdd, Nat.reduceSub, Nat.reduceMul, Nat.reduceLeDiff, Int.reduceEq, Int.reduceLT, Int.reduceLE, Int.reduceAdd, Int.reduceMul, Int.reduceSub, Int.reduceNeg, Int.reduceToNat, reduceIte, Nat.reduceLT, h0, h1, h5, hc]
      unfold r7_Same_K1
      simp only [go_sem, reduceCtorEq, Nat.reduceEqDiff, Nat.reduceAdd, Nat.reduceSub, Nat.reduceMul, Nat.reduceLeDiff, Int.reduceEq, Int.reduceLT, Int.reduceLE, Int.reduceAdd, Int.reduceMul, Int.reduceSub, Int.reduceNeg, Int.reduceToNat, reduceIte, Nat.reduceLT]
      simp [viewA, viewFn, viewC, viewFs, viewCs, viewAs, closedC, closedCs, ← hm]
    | cons x ra ih =>
      intro rb pa pb e H hp hq hpq hab h0 h1 h5 hm
      cases rb with
      | nil => simp at hab
      | cons y rb =>
        have hc := lt_at (f := Fact.cells) hp
        have hx := map_at' (f := Fact.cells) hp
        have hy := map_at' (f := Fact.cells) hq
        rw [← hpq] at hy
        have hn := next_at hp hla
        refine run_again ?_
        conv => enter [3, 1]; unfold r7_Same_L0
        simp only [go_sem, reduceCtorEq, Nat.reduceEqDiff, Nat.reduceAdd, Nat.reduceSub, Nat.reduceMul, Nat.reduceLeDiff, Int.reduceEq, Int.reduceLT, Int.reduceLE, Int.reduceAdd, Int.reduceMul, Int.reduceSub, Int.reduceNeg, Int.reduceToNat, reduceIte, Nat.reduceLT, h0, h1, h5, hc, hx, hy, step_eqS, eqS_fact, Bool.true_bne]
        by_cases hxy : x = y
        · subst hxy
          simp only [go_sem, reduceCtorEq, Nat.reduceEqDiff, Nat.reduceAdd, Nat.reduceSub, Nat.reduceMul, Nat.reduceLeDiff, Int.reduceEq, Int.reduceLT, Int.reduceLE, Int.reduceAdd, Int.reduceMul, Int.reduceSub, Int.reduceNeg, Int.reduceToNat, reduceIte, Nat.reduceLT, h5, hn]
          refine ih rb (pa ++ [x]) (pb ++ [x]) _ _ (by simp [hp]) (by simp [hq]) (by simp [hpq]) (by simpa using hab) ?_ ?_ ?_ ?_
          all_goals first | (simp only [go_sem, reduceCtorEq, Nat.reduceEqDiff, Nat.reduceAdd, Nat.reduceSub, Nat.reduceMul, Nat.reduceLeDiff, Int.reduceEq, Int.reduceLT, Int.reduceLE, Int.reduceAdd, Int.reduceMul, Int.reduceSub, Int.reduceNeg, Int.reduceToNat, reduceIte, Nat.reduceLT, h0, h1]; done) | (simp [← hm]; done)
        · simp only [go_sem, reduceCtorEq, Nat.reduceEqDiff, Nat.reduceAdd, Nat.reduceSub, Nat.reduceMul, Nat.reduceLeDiff, Int.reduceEq, Int.reduceLT, Int.reduceLE, Int.reduceAdd, Int.reduceMul, Int.reduceSub, Int.reduceNeg, Int.reduceToNat, reduceIte, Nat.reduceLT, hxy]
          simp [viewA, viewFn, viewC, viewFs, viewCs, viewAs, closedC, closedCs, ← hm, hxy]
  exact loop a b [] [] _ _ rfl rfl rfl (by omega) rfl rfl rfl hv'

def bigFact (f : Fact) : Bool := decide (100 < (f.key.size : Int)) || decide (400 < (f.item.size : Int))
def greatFrom : Nat → List Fact → Bool
  | 0, _ => false
  | _ + 1, [] => false
  | n + 1, f :: r => bigFact f || greatFrom n r
def great (s : State) : Bool := greatFrom 100 s.facts || decide (60 < (s.seen.length : Int)) || decide (80 < (s.facts.length : Int))

theorem l8_Great_ok (s : State) : Pr 10 [.agg s.cells] (bC (great s)) := by
  obtain ⟨seen, l⟩ := s
  refine pure_of mixed is_l8_Great (by simp [closedAs, closedA, closedC, State.closed]) fun hl T => ?_
  have hlen : l.length ≤ maxLen := by simp [lenAs, lenA, lenC, State.cells, runsC, factsC] at hl; exact hl.2
  unfold c_l8_Great
  generalize hv : great ⟨seen, l⟩ = v
  simp only [go_sem, reduceCtorEq, Nat.reduceEqDiff, Nat.reduceAdd, Nat.reduceSub, Nat.reduceMul, Nat.reduceLeDiff, Int.reduceEq, Int.reduceLT, Int.reduceLE, Int.reduceAdd, Int.reduceMul, Int.reduceSub, Int.reduceNeg, Int.reduceToNat, reduceIte, Nat.reduceLT]
  have loop : ∀ (rest pre : List Fact) (n : Nat) (e : Env) (H : Heap), l = pre ++ rest → n + pre.length = 100 → e 1 = .c (.fp [runsC seen, factsC l] 0) → e 3 = iC pre.length →
      (greatFrom n rest || decide (60 < (seen.length : Int)) || decide (80 < (l.length : Int))) = v → Run (progT Tryz.prog T) ⟨[.tmp 2], fun u E => viewA E u = some (bC v)⟩ [.loop l8_Great_L0, .blk 0, .code l8_Great_K1] e H := by
    have out : ∀ (e : Env) (H : Heap), e 1 = .c (.fp [runsC seen, factsC l] 0) → (decide (60 < (seen.length : Int)) || decide (80 < (l.length : Int))) = v → Run (progT Tryz.prog T) ⟨[.tmp 2], fun u E => viewA E u = some (bC v)⟩ [.code l8_Great_K1] e H := by
      intro e H h1 hm
      unfold l8_Great_K1
      simp only [go_sem, reduceCtorEq, Nat.reduceEqDiff, Nat.reduceAdd, Nat.reduceSub, Nat.reduceMul, Nat.reduceLeDiff, Int.reduceEq, Int.reduceLT, Int.reduceLE, Int.reduceAdd, Int.reduceMul, Int.reduceSub, Int.reduceNeg, Int.reduceToNat, reduceIte, Nat.reduceLT, h1, List.length_map]
      repeat' (first | (first | refine guardW_split (fun h => ?_) (fun h => ?_) | refine condW_split (fun h => ?_) (fun h => ?_) | refine guardW_nsplit (fun h => ?_) (fun h => ?_) | refine condW_nsplit (fun h => ?_) (fun h => ?_) | refine guardW_nbool (fun h => ?_) (fun h => ?_) | refine condW_ncases (fun h => ?_) (fun h => ?_) | refine guardW_bool (fun h => ?_) (fun h => ?_) | refine condW_cases (fun h => ?_) (fun h => ?_)) | simp only [go_sem, reduceCtorEq, Nat.reduceEqDiff, Nat.reduceAdd, Nat.reduceSub, Nat.reduceMul, Nat.reduceLeDiff, Int.reduceEq, Int.reduceLT, Int.reduceLE, Int.reduceAdd, Int.reduceMul, Int.reduceSub, Int.reduceNeg, Int.reduceToNat, reduceIte, Nat.reduceLT, h1, List.length_map, *])
      all_goals simp [viewA, viewFn, viewC, viewFs, viewCs, viewAs, closedC, closedCs, ← hm, *]
    intro rest
    induction rest with
    | nil =>
      intro pre n e H hp hn h1 h3 hm
      have hc := not_lt_at (f := Fact.cells) hp
      refine run_again ?_
      conv => enter [3, 1]; unfold l8_Great_L0
      simp only [go_sem, reduceCtorEq, Nat.reduceEqDiff, Nat.reduceAdd, Nat.reduceSub, Nat.reduceMul, Nat.reduceLeDiff, Int.reduceEq, Int.reduceLT, Int.reduceLE, Int.reduceAdd, Int.reduceMul, Int.reduceSub, Int.reduceNeg, Int.reduceToNat, reduceIte, Nat.reduceLT, h1, h3, hc]
      refine out _ _ (by simp only [go_sem, reduceCtorEq, Nat.reduceEqDiff, Nat.reduceAdd, Nat.reduceSub, Nat.reduceMul, Nat.reduceLeDiff, Int.reduceEq, Int.reduceLT, Int.reduceLE, Int.reduceAdd, Int.reduceMul, Int.reduceSub, Int.reduceNeg, Int.reduceToNat, reduceIte, Nat.reduceLT, h1]) ?_
      rw [← hm]
      cases n <;> simp [greatFrom]
    | cons r rest ih =>
      intro pre n e H hp hn h1 h3 hm
      have hc := lt_at (f := Fact.cells) hp
      have hr := map_at' (f := Fact.cells) hp
      have hnx := next_at hp hlen
      refine run_again ?_
      conv => enter [3, 1]; unfold l8_Great_L0
      simp only [go_sem, reduceCtorEq, Nat.reduceEqDiff, Nat.reduceAdd, Nat.reduceSub, Nat.reduceMul, Nat.reduceLeDiff, Int.reduceEq, Int.reduceLT, Int.reduceLE, Int.reduceAdd, Int.reduceMul, Int.reduceSub, Int.reduceNeg, Int.reduceToNat, reduceIte, Nat.reduceLT, h1, h3, hc, hr]
      cases n with
      | zero =>
        have h100 : ¬ ((pre.length : Int) < 100) := by omega
        simp only [go_sem, reduceCtorEq, Nat.reduceEqDiff, Nat.reduceAdd, Nat.reduceSub, Nat.reduceMul, Nat.reduceLeDiff, Int.reduceEq, Int.reduceLT, Int.reduceLE, Int.reduceAdd, Int.reduceMul, Int.reduceSub, Int.reduceNeg, Int.reduceToNat, reduceIte, Nat.reduceLT, h100]
        refine out _ _ (by simp only [go_sem, reduceCtorEq, Nat.reduceEqDiff, Nat.reduceAdd, Nat.reduceSub, Nat.reduceMul, Nat.reduceLeDiff, Int.reduceEq, Int.reduceLT, Int.reduceLE, Int.reduceAdd, Int.reduceMul, Int.reduceSub, Int.reduceNeg, Int.reduceToNat, reduceIte, Nat.reduceLT, h1]) ?_
        rw [← hm]
        simp [greatFrom]
      | succ n =>
        have h100 : ((pre.length : Int) < 100) := by omega
        have go : ∀ (e' : Env), e' 1 = e 1 → e' 3 = iC (pre ++ [r]).length → bigFact r = false → Run (progT Tryz.prog T) ⟨[.tmp 2], fun u E => viewA E u = some (bC v)⟩ [.loop l8_Great_L0, .blk 0, .code l8_Great_K1] e' H := by
          intro e' g1 g3 gm
          exact ih (pre ++ [r]) n e' H (by simp [hp]) (by simp; omega) (by rw [g1, h1]) g3 (by rw [← hm]; simp [greatFrom, gm])
        clear ih hp hl out
        simp only [go_sem, reduceCtorEq, Nat.reduceEqDiff, Nat.reduceAdd, Nat.reduceSub, Nat.reduceMul, Nat.reduceLeDiff, Int.reduceEq, Int.reduceLT, Int.reduceLE, Int.reduceAdd, Int.reduceMul, Int.reduceSub, Int.reduceNeg, Int.reduceToNat, reduceIte, Nat.reduceLT, h100, h1, h3, hr]
        repeat' (first | (first | refine guardW_split (fun h => ?_) (fun h => ?_) | refine condW_split (fun h => ?_) (fun h => ?_) | refine guardW_nsplit (fun h => ?_) (fun h => ?_) | refine condW_nsplit (fun h => ?_) (fun h => ?_) | refine guardW_nbool (fun h => ?_) (fun h => ?_) | refine condW_ncases (fun h => ?_) (fun h => ?_) | refine guardW_bool (fun h => ?_) (fun h => ?_) | refine condW_cases (fun h => ?_) (fun h => ?_)) | simp only [go_sem, reduceCtorEq, Nat.reduceEqDiff, Nat.reduceAdd, Nat.reduceSub, Nat.reduceMul, Nat.reduceLeDiff, Int.reduceEq, Int.reduceLT, Int.reduceLE, Int.reduceAdd, Int.reduceMul, Int.reduceSub, Int.reduceNeg, Int.reduceToNat, reduceIte, Nat.reduceLT, h1, h3, hnx, *])
        all_goals first
          | (refine go _ ?_ ?_ ?_ <;> first | (simp only [go_sem, reduceCtorEq, Nat.reduceEqDiff, Nat.reduceAdd, Nat.reduceSub, Nat.reduceMul, Nat.reduceLeDiff, Int.reduceEq, Int.reduceLT, Int.reduceLE, Int.reduceAdd, Int.reduceMul, Int.reduceSub, Int.reduceNeg, Int.reduceToNat, reduceIte, Nat.reduceLT, hnx]; done) | (simp [bigFact, *]; done))
          | (simp [viewA, viewFn, viewC, viewFs, viewCs, viewAs, closedC, closedCs, ← hm, greatFrom, bigFact, *]; done)
  exact loop l [] 100 _ _ rfl rfl rfl rfl hv

end Go.Proofs.YtnccbccnjjachaaGreatDoor.Eng
