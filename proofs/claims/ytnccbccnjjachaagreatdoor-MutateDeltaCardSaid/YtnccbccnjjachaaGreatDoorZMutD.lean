/- The contract of mutate.delta. No statement of the seat is proved here. -/
import Derived.Test.YtnccbccnjjachaaGreatDoorZMutR
import Derived.Test.YtnccbccnjjachaaGreatDoorZPartG
import Derived.Test.YtnccbccnjjachaaGreatDoorZErrB
import Derived.Test.YtnccbccnjjachaaGreatDoorZPartC
import Derived.Test.YtnccbccnjjachaaGreatDoorZLitY
namespace Go.Proofs.YtnccbccnjjachaaGreatDoor.Eng
open Go
set_option linter.unusedVariables false
set_option linter.unusedSimpArgs false

def errC (e : Int) : Cell := if e = 0 then .nilI else refusalC e
def madeL (s : State) (dev : Int) (o : OpR) : List Fact := if makes o then [madeF s dev o] else []
theorem delta_out (s : State) (dev : Int) (o : OpR) : deltaL s dev o = ⟨dotsL ((goneL s dev o ++ madeL s dev o).map Fact.dot), madeL s dev o⟩ := by
  unfold deltaL madeL
  cases makes o <;> simp
theorem madeBy_is (s : State) (dev : Int) (o : OpR) : madeBy o ⟨dev, lastL s.seen dev + 1⟩ (goneL s dev o) = madeF s dev o := by
  unfold madeBy madeF
  rw [sumFrom_gone]
  rfl
theorem slices_Concat_Fact_ok (a b : List Fact) (hs : a.length + b.length ≤ 1000000) (h0 : a ++ b ≠ []) : Pr 46 [.c (.lst 1 [[factsC a], [factsC b]])] (.c (factsC (a ++ b))) := by
  obtain ⟨v, G, h1, _, _, _, h2⟩ := slices_Concat_Fact_own a b hs []
  obtain ⟨blk, rfl, hb⟩ := h2 (by simpa using h0)
  refine h1.pure (by simp [closedAs, closedA, closedC, closedR, closedCs, closed_factsC]) ?_
  have hl : (List.map Fact.cells (a ++ b)).length ≠ 0 := by
    intro e; exact h0 (by simpa using List.eq_nil_of_length_eq_zero e)
  have ht : ((a ++ b).map Fact.cells).take ((a ++ b).map Fact.cells).length = (a ++ b).map Fact.cells := List.take_length
  simp only [viewA, viewFn, viewC, hl, if_false, hb, ht, closed_facts, Nat.zero_add, Nat.le_refl, and_self, if_true, List.drop_zero]
  rfl

section
variable {s : State} {dev : Int} {o : OpR} {v : State × Int}
theorem told_err {E : Heap} {q : Int} (hq : q ≠ 0) : viewW E (.tup [.agg [.nilS, .nilS], .c (.iface 77 true [.int .i64 q])]) (.tup [.agg (State.cells ⟨[], []⟩), .c (errC q)]) := by
  refine viewW_tup2 (SC.nil.told) ?_
  unfold errC
  rw [if_neg hq]
  exact ⟨_, by simp [viewA, viewFn, viewC, viewFs, viewCs, viewAs, closedC, closedCs], .same _⟩

/-- Behind all tests: whether there is room. -/
theorem mutate_delta_K2_ok (T : Nat → Option AFun) (hg : Good s) (hd : Good (deltaL s dev o)) (hs1 : s.seen.length ≤ 100000) (hs2 : s.facts.length ≤ 1000) (hv : (if 400 < (joinL s (deltaL s dev o)).facts.length then (⟨[], []⟩, 4) else (deltaL s dev o, 0)) = v)
    {e : Env} {H : Heap} (h3 : e 3 = .c (.fp s.cells 0)) (h6 : e 6 = .c (.ptr 0 0 0)) (h9 : e 9 = .c (.ptr 1 0 0)) (k0 : H[0]? = some { sz := 2, rows := [[.nilS, .nilS]], own := true, live := true }) (k1 : H[1]? = some { sz := 2, rows := [(deltaL s dev o).cells], own := true, live := true }) :
    Run (progT Tryz.prog T) ⟨[.cell 6 true 2, .tmp 7], fun u E => viewW E u (.tup [.agg v.1.cells, .c (errC v.2)])⟩ [.code mutate_delta_K2] e H := by
  obtain ⟨l1, l2⟩ := delta_len (s := s) (dev := dev) (o := o)
  have hj := join_Join_ok s (deltaL s dev o) hg hd (by omega) (by omega)
  unfold mutate_delta_K2
  generalize deltaL s dev o = d at *
  simp only [State.cells, runsC, factsC] at k1
  simp only [go_sem, reduceCtorEq, Nat.reduceEqDiff, Nat.reduceAdd, Nat.reduceSub, Nat.reduceMul, Nat.reduceLeDiff, Int.reduceEq, Int.reduceLT, Int.reduceLE, Int.reduceAdd, Int.reduceMul, Int.reduceSub, Int.reduceNeg, Int.reduceToNat, reduceIte, Nat.reduceLT, h3, h6, h9, box_row k1]
  refine callW_pure hj ?_
  generalize joinL s d = j at *
  by_cases hl : 400 < j.facts.length
  · have hl' : ((j.facts.map Fact.cells).length : Int) > 400 := by simp; omega
    rw [if_pos hl] at hv
    subst hv
    have n0 := set_get (B' := { sz := 2, rows := [[.nilS, .nilS]], own := true, live := true }) k0
    simp only [go_sem, reduceCtorEq, Nat.reduceEqDiff, Nat.reduceAdd, Nat.reduceSub, Nat.reduceMul, Nat.reduceLeDiff, Int.reduceEq, Int.reduceLT, Int.reduceLE, Int.reduceAdd, Int.reduceMul, Int.reduceSub, Int.reduceNeg, Int.reduceToNat, reduceIte, Nat.reduceLT, h6, hl', box_mine k0, box_put k0, box_row k0, box_row n0]
    exact told_err (by omega)
  · have hl' : ¬ ((j.facts.map Fact.cells).length : Int) > 400 := by simp; omega
    rw [if_neg hl] at hv
    subst hv
    have n0 := set_get (B' := { sz := 2, rows := [d.cells], own := true, live := true }) k0
    simp only [State.cells, runsC, factsC] at n0
    simp only [go_sem, reduceCtorEq, Nat.reduceEqDiff, Nat.reduceAdd, Nat.reduceSub, Nat.reduceMul, Nat.reduceLeDiff, Int.reduceEq, Int.reduceLT, Int.reduceLE, Int.reduceAdd, Int.reduceMul, Int.reduceSub, Int.reduceNeg, Int.reduceToNat, reduceIte, Nat.reduceLT, h6, h9, hl', box_mine k0, box_put k0, box_row k0, box_row k1, box_row n0]
    refine viewW_tup2 (told_S _ d) ?_
    exact ⟨_, rfl, .same _⟩

theorem mutate_delta_L1_ok (T : Nat → Option AFun) (hg : Good s) (hb : badOp dev o = false) (hs1 : s.seen.length ≤ 100000) (hs2 : s.facts.length ≤ 1000)
    (hv : (if (makes o && largeF (madeF s dev o)) = true then (⟨[], []⟩, 4) else if 400 < (joinL s (deltaL s dev o)).facts.length then (⟨[], []⟩, 4) else (deltaL s dev o, 0)) = v)
    {e : Env} {H : Heap} (h3 : e 3 = .c (.fp s.cells 0)) (h6 : e 6 = .c (.ptr 0 0 0)) (h9 : e 9 = .c (.ptr 1 0 0)) (h67 : e 67 = .c (.lst 6 ((madeL s dev o).map Fact.cells))) (h68 : e 68 = iC (madeL s dev o).length) (h69 : e 69 = iC 0)
    (k0 : H[0]? = some { sz := 2, rows := [[.nilS, .nilS]], own := true, live := true }) (k1 : H[1]? = some { sz := 2, rows := [(deltaL s dev o).cells], own := true, live := true }) :
    Run (progT Tryz.prog T) ⟨[.cell 6 true 2, .tmp 7], fun u E => viewW E u (.tup [.agg v.1.cells, .c (errC v.2)])⟩ [.loop mutate_delta_L1, .blk 2, .code mutate_delta_K2] e H := by
  have hl0 := (List.getElem?_eq_some_iff.1 k0).1
  have hl1 := (List.getElem?_eq_some_iff.1 k1).1
  refine run_again ?_
  conv => enter [3, 1]; unfold mutate_delta_L1
  cases hm : makes o with
  | false =>
    have hml : madeL s dev o = [] := by unfold madeL; rw [hm]; rfl
    have hd := delta_good hg hb (by rw [hm]; rfl : (makes o && largeF (madeF s dev o)) = false)
    rw [hm, Bool.false_and, if_neg (by simp)] at hv
    rw [hml] at h67 h68
    simp only [go_sem, reduceCtorEq, Nat.reduceEqDiff, Nat.reduceAdd, Nat.reduceSub, Nat.reduceMul, Nat.reduceLeDiff, Int.reduceEq, Int.reduceLT, Int.reduceLE, Int.reduceAdd, Int.reduceMul, Int.reduceSub, Int.reduceNeg, Int.reduceToNat, reduceIte, Nat.reduceLT, h67, h68, h69]
    refine mutate_delta_K2_ok T hg hd hs1 hs2 hv ?_ ?_ ?_ k0 k1
    all_goals simp only [go_sem, reduceCtorEq, Nat.reduceEqDiff, Nat.reduceAdd, Nat.reduceSub, Nat.reduceMul, Nat.reduceLeDiff, Int.reduceEq, Int.reduceLT, Int.reduceLE, Int.reduceAdd, Int.reduceMul, Int.reduceSub, Int.reduceNeg, Int.reduceToNat, reduceIte, Nat.reduceLT, h3, h6, h9, State.cells]
  | true =>
    have hml : madeL s dev o = [madeF s dev o] := by unfold madeL; rw [hm]; rfl
    rw [hm, Bool.true_and] at hv
    rw [hml] at h67 h68
    have c1 : (((1 : Nat) : Int)) = 1 := rfl
    have c01 : (0 : Int) < 1 := by decide
    have cx : ∀ (x : List Cell) (H : Heap), vIx 6 (.c (.lst 6 [x])) (iC 0) H = some (.c (.fp x 0), H) := fun _ _ => rfl
    have w1 : IntKind.wrap .i64 1 = 1 := by decide
    have w01 : IntKind.wrap .i64 (0 + 1) = 1 := by decide
    generalize hf : madeF s dev o = f at *
    have hw := mutate_wide_ok f.num
    have n0 := set_get (B' := { sz := 2, rows := [[.nilS, .nilS]], own := true, live := true }) k0
    have hrr : ∀ K : Blk, Heap.row (H.set 0 { sz := 2, rows := [[.nilS, .nilS]], own := true, live := true } ++ [K]) 0 0 = some [.nilS, .nilS] := fun K => by rw [row_prev (by simpa using hl0), box_row n0]
    by_cases hn : f.n > 4503599627370496
    · have hlarge : largeF f = true := by unfold largeF; simp [hn]
      rw [if_pos hlarge] at hv
      subst hv
      simp only [go_sem, reduceCtorEq, Nat.reduceEqDiff, Nat.reduceAdd, Nat.reduceSub, Nat.reduceMul, Nat.reduceLeDiff, Int.reduceEq, Int.reduceLT, Int.reduceLE, Int.reduceAdd, Int.reduceMul, Int.reduceSub, Int.reduceNeg, Int.reduceToNat, reduceIte, Nat.reduceLT, h3, h6, h67, h68, h69, c1, c01, cx, hn, hl0, hl1, box_mine k0, box_put k0, box_row k0, hrr]
      exact told_err (by omega)
    · simp only [go_sem, reduceCtorEq, Nat.reduceEqDiff, Nat.reduceAdd, Nat.reduceSub, Nat.reduceMul, Nat.reduceLeDiff, Int.reduceEq, Int.reduceLT, Int.reduceLE, Int.reduceAdd, Int.reduceMul, Int.reduceSub, Int.reduceNeg, Int.reduceToNat, reduceIte, Nat.reduceLT, h3, h6, h67, h68, h69, c1, c01, cx, hn, hl0, hl1]
      refine callW_pure hw ?_
      cases hwd : wideN f.num with
      | false =>
        have hlarge : largeF f = true := by
          unfold wideN at hwd
          unfold largeF
          simp only [Bool.and_eq_false_iff, decide_eq_false_iff_not, Bool.or_eq_true, decide_eq_true_eq] at hwd ⊢
          omega
        rw [if_pos hlarge] at hv
        subst hv
        simp only [go_sem, reduceCtorEq, Nat.reduceEqDiff, Nat.reduceAdd, Nat.reduceSub, Nat.reduceMul, Nat.reduceLeDiff, Int.reduceEq, Int.reduceLT, Int.reduceLE, Int.reduceAdd, Int.reduceMul, Int.reduceSub, Int.reduceNeg, Int.reduceToNat, reduceIte, Nat.reduceLT, h3, h6, h67, h68, h69, hl0, hl1, box_mine k0, box_put k0, box_row k0, hrr]
        exact told_err (by omega)
      | true =>
        have hlarge : largeF f = false := by
          unfold wideN at hwd
          unfold largeF
          simp only [Bool.and_eq_true, decide_eq_true_eq, Bool.or_eq_false_iff, decide_eq_false_iff_not] at hwd ⊢
          omega
        rw [if_neg (by simp [hlarge])] at hv
        have hd := delta_good hg hb (by rw [hf, hlarge, Bool.and_false] : (makes o && largeF (madeF s dev o)) = false)
        simp only [go_sem, reduceCtorEq, Nat.reduceEqDiff, Nat.reduceAdd, Nat.reduceSub, Nat.reduceMul, Nat.reduceLeDiff, Int.reduceEq, Int.reduceLT, Int.reduceLE, Int.reduceAdd, Int.reduceMul, Int.reduceSub, Int.reduceNeg, Int.reduceToNat, reduceIte, Nat.reduceLT, h69, w1, w01]
        refine run_again ?_
        conv => enter [3, 1]; unfold mutate_delta_L1
        simp only [go_sem, reduceCtorEq, Nat.reduceEqDiff, Nat.reduceAdd, Nat.reduceSub, Nat.reduceMul, Nat.reduceLeDiff, Int.reduceEq, Int.reduceLT, Int.reduceLE, Int.reduceAdd, Int.reduceMul, Int.reduceSub, Int.reduceNeg, Int.reduceToNat, reduceIte, Nat.reduceLT, h68, c1]
        refine mutate_delta_K2_ok T hg hd hs1 hs2 hv ?_ ?_ ?_ ?_ ?_
        any_goals simp only [go_sem, reduceCtorEq, Nat.reduceEqDiff, Nat.reduceAdd, Nat.reduceSub, Nat.reduceMul, Nat.reduceLeDiff, Int.reduceEq, Int.reduceLT, Int.reduceLE, Int.reduceAdd, Int.reduceMul, Int.reduceSub, Int.reduceNeg, Int.reduceToNat, reduceIte, Nat.reduceLT, h3, h6, h9, State.cells]
        · rw [get_prev hl0]; exact k0
        · rw [get_prev hl1]; exact k1

theorem mutate_delta_loop (T : Nat → Option AFun) (hg : Good s) (hb : badOp dev o = false) (hs1 : s.seen.length ≤ 100000) (hs2 : s.facts.length ≤ 1000) (l : List Fact) (hl : l = goneL s dev o ++ madeL s dev o) (hll : l.length ≤ 1001)
    (hv : (if (makes o && largeF (madeF s dev o)) = true then (⟨[], []⟩, 4) else if 400 < (joinL s (deltaL s dev o)).facts.length then (⟨[], []⟩, 4) else (deltaL s dev o, 0)) = v) :
    ∀ (rest pre : List Fact) (e : Env) (H : Heap), l = pre ++ rest → e 3 = .c (.fp s.cells 0) → e 6 = .c (.ptr 0 0 0) → e 9 = .c (.ptr 1 0 0) → e 51 = .c (.lst 6 (l.map Fact.cells)) → e 52 = iC l.length → e 53 = iC pre.length →
      H[0]? = some { sz := 2, rows := [[.nilS, .nilS]], own := true, live := true } → H[1]? = some { sz := 2, rows := [[.nilS, factsC (madeL s dev o)]], own := true, live := true } → NB (e 10) 0 → NB (e 10) 1 → Acc 2 ((pre.map Fact.dot).map Dot.cells) (e 10) H →
      Run (progT Tryz.prog T) ⟨[.cell 6 true 2, .tmp 7], fun u E => viewW E u (.tup [.agg v.1.cells, .c (errC v.2)])⟩ [.loop mutate_delta_L0, .blk 0, .code mutate_delta_K3] e H := by
  intro rest
  induction rest with
  | nil =>
    intro pre e H hp h3 h6 h9 h51 h52 h53 k0 k1 n0 n1 hacc
    have hc : ¬ ((pre.length : Int) < (l.length : Int)) := by rw [hp]; simp
    refine run_again ?_
    conv => enter [3, 1]; unfold mutate_delta_L0
    simp only [go_sem, reduceCtorEq, Nat.reduceEqDiff, Nat.reduceAdd, Nat.reduceSub, Nat.reduceMul, Nat.reduceLeDiff, Int.reduceEq, Int.reduceLT, Int.reduceLE, Int.reduceAdd, Int.reduceMul, Int.reduceSub, Int.reduceNeg, Int.reduceToNat, reduceIte, Nat.reduceLT, h51, h52, h53, hc]
    unfold mutate_delta_K3
    refine Acc.fz_keep (sz := 2) (rows := (pre.map Fact.dot).map Dot.cells) (by simp only [go_sem, reduceCtorEq, Nat.reduceEqDiff, Nat.reduceAdd, Nat.reduceSub, Nat.reduceMul, Nat.reduceLeDiff, Int.reduceEq, Int.reduceLT, Int.reduceLE, Int.reduceAdd, Int.reduceMul, Int.reduceSub, Int.reduceNeg, Int.reduceToNat, reduceIte, Nat.reduceLT]; exact hacc) fun e' H' g10 gc gp gh gl => ?_
    have g3 : e' 3 = .c (.fp s.cells 0) := gc 3 _ (by simp only [go_sem, reduceCtorEq, Nat.reduceEqDiff, Nat.reduceAdd, Nat.reduceSub, Nat.reduceMul, Nat.reduceLeDiff, Int.reduceEq, Int.reduceLT, Int.reduceLE, Int.reduceAdd, Int.reduceMul, Int.reduceSub, Int.reduceNeg, Int.reduceToNat, reduceIte, Nat.reduceLT, h3]) (State.closed s) (by omega)
    have g6 : e' 6 = .c (.ptr 0 0 0) := gp 6 0 0 0 (by simp only [go_sem, reduceCtorEq, Nat.reduceEqDiff, Nat.reduceAdd, Nat.reduceSub, Nat.reduceMul, Nat.reduceLeDiff, Int.reduceEq, Int.reduceLT, Int.reduceLE, Int.reduceAdd, Int.reduceMul, Int.reduceSub, Int.reduceNeg, Int.reduceToNat, reduceIte, Nat.reduceLT, h6]) (by simp only [go_sem, reduceCtorEq, Nat.reduceEqDiff, Nat.reduceAdd, Nat.reduceSub, Nat.reduceMul, Nat.reduceLeDiff, Int.reduceEq, Int.reduceLT, Int.reduceLE, Int.reduceAdd, Int.reduceMul, Int.reduceSub, Int.reduceNeg, Int.reduceToNat, reduceIte, Nat.reduceLT]; exact n0)
    have g9 : e' 9 = .c (.ptr 1 0 0) := gp 9 1 0 0 (by simp only [go_sem, reduceCtorEq, Nat.reduceEqDiff, Nat.reduceAdd, Nat.reduceSub, Nat.reduceMul, Nat.reduceLeDiff, Int.reduceEq, Int.reduceLT, Int.reduceLE, Int.reduceAdd, Int.reduceMul, Int.reduceSub, Int.reduceNeg, Int.reduceToNat, reduceIte, Nat.reduceLT, h9]) (by simp only [go_sem, reduceCtorEq, Nat.reduceEqDiff, Nat.reduceAdd, Nat.reduceSub, Nat.reduceMul, Nat.reduceLeDiff, Int.reduceEq, Int.reduceLT, Int.reduceLE, Int.reduceAdd, Int.reduceMul, Int.reduceSub, Int.reduceNeg, Int.reduceToNat, reduceIte, Nat.reduceLT]; exact n1)
    have j0 := gh 0 _ k0 (by simp only [go_sem, reduceCtorEq, Nat.reduceEqDiff, Nat.reduceAdd, Nat.reduceSub, Nat.reduceMul, Nat.reduceLeDiff, Int.reduceEq, Int.reduceLT, Int.reduceLE, Int.reduceAdd, Int.reduceMul, Int.reduceSub, Int.reduceNeg, Int.reduceToNat, reduceIte, Nat.reduceLT]; exact n0)
    have j1 := gh 1 _ k1 (by simp only [go_sem, reduceCtorEq, Nat.reduceEqDiff, Nat.reduceAdd, Nat.reduceSub, Nat.reduceMul, Nat.reduceLeDiff, Int.reduceEq, Int.reduceLT, Int.reduceLE, Int.reduceAdd, Int.reduceMul, Int.reduceSub, Int.reduceNeg, Int.reduceToNat, reduceIte, Nat.reduceLT]; exact n1)
    rw [List.append_nil] at hp
    have hof := dots_Of_is (pre.map Fact.dot) (by unfold Sm; rw [← hp]; simp; omega)
    have hdel : deltaL s dev o = ⟨dotsL (pre.map Fact.dot), madeL s dev o⟩ := by rw [delta_out, ← hl, hp]
    simp only [go_sem, reduceCtorEq, Nat.reduceEqDiff, Nat.reduceAdd, Nat.reduceSub, Nat.reduceMul, Nat.reduceLeDiff, Int.reduceEq, Int.reduceLT, Int.reduceLE, Int.reduceAdd, Int.reduceMul, Int.reduceSub, Int.reduceNeg, Int.reduceToNat, reduceIte, Nat.reduceLT, g10]
    refine callW_pure hof ?_
    have m1 := set_get (B' := { sz := 2, rows := [[runsC (dotsL (pre.map Fact.dot)), factsC (madeL s dev o)]], own := true, live := true }) j1
    have m0 := set_get_ne (B' := { sz := 2, rows := [[runsC (dotsL (pre.map Fact.dot)), factsC (madeL s dev o)]], own := true, live := true }) j0 (b := 1) (by omega)
    simp only [runsC, factsC] at j1 m1 m0
    simp only [go_sem, reduceCtorEq, Nat.reduceEqDiff, Nat.reduceAdd, Nat.reduceSub, Nat.reduceMul, Nat.reduceLeDiff, Int.reduceEq, Int.reduceLT, Int.reduceLE, Int.reduceAdd, Int.reduceMul, Int.reduceSub, Int.reduceNeg, Int.reduceToNat, reduceIte, Nat.reduceLT, g9, box_row j1, box_mine j1, box_put j1, box_row m1, List.length_map]
    refine mutate_delta_L1_ok T hg hb hs1 hs2 hv ?_ ?_ ?_ ?_ ?_ ?_ m0 (by rw [hdel]; exact m1)
    all_goals simp only [go_sem, reduceCtorEq, Nat.reduceEqDiff, Nat.reduceAdd, Nat.reduceSub, Nat.reduceMul, Nat.reduceLeDiff, Int.reduceEq, Int.reduceLT, Int.reduceLE, Int.reduceAdd, Int.reduceMul, Int.reduceSub, Int.reduceNeg, Int.reduceToNat, reduceIte, Nat.reduceLT, g3, g6, g9, State.cells]
  | cons r rest ih =>
    intro pre e H hp h3 h6 h9 h51 h52 h53 k0 k1 n0 n1 hacc
    have hc : ((pre.length : Int) < (l.length : Int)) := by rw [hp]; simp; omega
    have hr := map_at' (f := Fact.cells) hp
    have hn := next_at hp (by unfold maxLen; omega)
    have hpl : pre.length < l.length := by rw [hp]; simp
    have hl0 := (List.getElem?_eq_some_iff.1 k0).1
    have hl1 := (List.getElem?_eq_some_iff.1 k1).1
    refine run_again ?_
    conv => enter [3, 1]; unfold mutate_delta_L0
    simp only [go_sem, reduceCtorEq, Nat.reduceEqDiff, Nat.reduceAdd, Nat.reduceSub, Nat.reduceMul, Nat.reduceLeDiff, Int.reduceEq, Int.reduceLT, Int.reduceLE, Int.reduceAdd, Int.reduceMul, Int.reduceSub, Int.reduceNeg, Int.reduceToNat, reduceIte, Nat.reduceLT, h51, h52, h53, hc, hr]
    refine (hacc.snoc).app_keep (bytes := 16) (new := [[.int .i64 r.dev, .int .i64 r.n]]) (by simp; omega) fun v' H' hv' hkeep => ?_
    obtain ⟨q0, q0'⟩ := hkeep 0 _ n0 (by rw [get_prev hl0]; exact k0)
    obtain ⟨q1, q1'⟩ := hkeep 1 _ n1 (by rw [get_prev hl1]; exact k1)
    simp only [go_sem, reduceCtorEq, Nat.reduceEqDiff, Nat.reduceAdd, Nat.reduceSub, Nat.reduceMul, Nat.reduceLeDiff, Int.reduceEq, Int.reduceLT, Int.reduceLE, Int.reduceAdd, Int.reduceMul, Int.reduceSub, Int.reduceNeg, Int.reduceToNat, reduceIte, Nat.reduceLT, h53, hn]
    refine ih (pre ++ [r]) _ _ (by simp [hp]) ?_ ?_ ?_ ?_ ?_ ?_ q0 q1 ?_ ?_ ?_
    any_goals simp only [go_sem, reduceCtorEq, Nat.reduceEqDiff, Nat.reduceAdd, Nat.reduceSub, Nat.reduceMul, Nat.reduceLeDiff, Int.reduceEq, Int.reduceLT, Int.reduceLE, Int.reduceAdd, Int.reduceMul, Int.reduceSub, Int.reduceNeg, Int.reduceToNat, reduceIte, Nat.reduceLT, h3, h6, h9, h51, h52, hn]
    · exact q0'
    · exact q1'
    · simpa [Dot.cells, Fact.dot] using hv'
end

end Go.Proofs.YtnccbccnjjachaaGreatDoor.Eng
