/- Contracts of the package join: two states as one, all states as one. No statement of the seat is proved here. -/
import Derived.Test.YtpjbjdicdjlmeaaGreatDoorZJoinS
import Derived.Test.YtpjbjdicdjlmeaaGreatDoorZPartG
import Derived.Test.YtpjbjdicdjlmeaaGreatDoorZLayS
namespace Go.Proofs.YtpjbjdicdjlmeaaGreatDoor.Eng
open Go
set_option linter.unusedVariables false
set_option linter.unusedSimpArgs false

/-! ### A contract of which the answer and the heap are not told exactly -/
theorem sound_ex (hm : Tryz.prog.follows .mixedOrders = true) {f : Nat} {a : AFun} (hf : cmpFun Tryz.prog f = some a.erase) {args : List AVal} {H : Heap} {R : AVal → Heap → Prop}
    (h : ∀ T, Run (progT Tryz.prog T) ⟨a.res, R⟩ [.code a.body] (initEnv args) H) : ∃ v H', CallSound Tryz.prog f args H v H' ∧ R v H' := by
  obtain ⟨u, E, h1, h2⟩ := wcall_of (G := P1 Tryz.prog f a) (f := f) (by simp [P1, progT, one]) (h _)
  exact ⟨u, E, sound1 (one_ok hf) hm h1, h2⟩

/-- What is built behind a heap: in a block of its own, with nothing behind its rows; or nothing at all. -/
def AccX (H0 : Heap) (sz : Nat) (rows : List (List Cell)) (v : AVal) (H : Heap) : Prop :=
  H0 <+: H ∧ Acc sz rows v H ∧ (∀ b, b < H0.length → NB v b) ∧ (rows ≠ [] → ∃ b, v = .c (.slc b 0 rows.length sz false) ∧ H[b]? = some { sz := sz, rows := rows, own := true, live := true })
theorem prefix_keep {H0 H H' : Heap} (h : H0 <+: H) (hk : ∀ b, b < H0.length → H'[b]? = H[b]?) (hl : H0.length ≤ H'.length) : H0 <+: H' := by
  rw [List.prefix_iff_getElem?] at h ⊢
  intro i hi
  rw [hk i hi]
  exact h i hi
theorem AccX.app {H0 : Heap} {sz : Nat} {rows new : List (List Cell)} {v : AVal} {H : Heap} (h : AccX H0 sz rows v H) {bytes : Nat} (hb : (rows.length + new.length) * bytes ≤ 140737488355328) :
    ∃ v' H', vApp sz bytes v (.c (.lst sz new)) H = some (v', H') ∧ AccX H0 sz (rows ++ new) v' H' := by
  obtain ⟨hp, ha, hn, hx⟩ := h
  have hle := hp.length_le
  by_cases h0 : new = []
  · subst h0
    obtain ⟨v', H', h1, h2⟩ := ha.appL (new := []) hb
    have e : v' = v ∧ H' = H := by
      rcases ha with ⟨rfl, rfl | rfl⟩ | ⟨b, ext, rfl, h3⟩ <;> simp [vApp, evApp, Heap.rowsOf, fitsSz] at h1 <;> exact ⟨h1.1.symm, h1.2.symm⟩
    obtain ⟨rfl, rfl⟩ := e
    exact ⟨_, _, h1, hp, h2, hn, by simpa using hx⟩
  · have hl : new.length ≠ 0 := fun e => h0 (List.eq_nil_of_length_eq_zero e)
    rcases ha with ⟨rfl, hv⟩ | ⟨b, ext, rfl, h3⟩
    · have h1 : vApp sz bytes v (.c (.lst sz new)) H = some (.c (.slc H.length 0 new.length sz false), H ++ [{ sz := sz, rows := new }]) := by
        rcases hv with rfl | rfl <;> (simp only [vApp, evApp, Heap.rowsOf, fitsSz, beq_self_eq_true, if_true]; rw [if_neg hl, if_pos (by simpa using hb)])
      refine ⟨_, _, h1, hp.trans (List.prefix_append _ _), .last, fun b hb n s q z e => ?_, fun _ => ⟨H.length, rfl, get_last⟩⟩
      injection e with e; injection e with e; omega
    · have hbl := (List.getElem?_eq_some_iff.1 h3).1
      have h1 : vApp sz bytes (.c (.slc b 0 rows.length sz false)) (.c (.lst sz new)) H = some (.c (.slc H.length 0 (rows.length + new.length) sz false), (H.set b { sz := sz, rows := rows ++ ext, own := true, live := false }) ++ [{ sz := sz, rows := rows ++ new }]) := by
        simp only [vApp, evApp, Heap.rowsOf, fitsSz, beq_self_eq_true, if_true]
        rw [if_neg hl, if_pos ⟨trivial, hb⟩]
        simp only [h3, Bool.false_eq_true, if_false]
        rw [if_pos ⟨trivial, trivial, trivial, by simp⟩]
        simp
      have hnb : H0.length ≤ b := Nat.le_of_not_lt fun hlt => hn b hlt _ _ _ _ rfl
      have hget : (H.set b { sz := sz, rows := rows ++ ext, own := true, live := false } ++ [{ sz := sz, rows := rows ++ new }] : Heap)[H.length]? = some { sz := sz, rows := rows ++ new } := by simp
      refine ⟨_, _, h1, prefix_keep hp (fun i hi => ?_) (by simp; omega), .inr ⟨H.length, [], by rw [List.length_append], by simp⟩, fun b' hb' n s q z e => ?_, fun _ => ⟨H.length, by rw [List.length_append], hget⟩⟩
      · rw [get_prev (by simp; omega), List.getElem?_set_ne (by omega)]
      · injection e with e; injection e with e; omega
theorem AccX.app_step {G : Prog} {p : Post} {k : List Itm} {d : Bool} {e : Env} {H0 H : Heap} {l : List AInstr} {dst : Option Nat} {sz bytes : Nat} {rows new : List (List Cell)} {v : AVal}
    (h : AccX H0 sz rows v H) (hb : (rows.length + new.length) * bytes ≤ 140737488355328) (hw : ∀ v' H', AccX H0 sz (rows ++ new) v' H' → WL G p k d l (updO e dst v') H') : thenW G p k d (vApp sz bytes v (.c (.lst sz new)) H) dst l e := by
  obtain ⟨v', H', h1, h2⟩ := h.app (new := new) hb
  exact thenW_of h1 (hw v' H' h2)

theorem slices_Grow_Fact_own (n : Nat) (hn : n ≤ 2000000) (H : Heap) : ∃ v H', CallSound Tryz.prog 28 [.c .nilS, iC n] H v H' ∧ AccX H 6 [] v H' := by
  have hw0 : IntKind.wrap .i64 0 = 0 := by decide
  by_cases h0 : n = 0
  · subst h0
    refine ⟨.c .nilS, H, sound_of mixed is_slices_Grow_Fact fun T => ?_, List.prefix_refl _, .nil, fun b _ n s q z e => (by cases e), fun h => absurd rfl h⟩
    unfold c_slices_Grow_Fact
    simp only [go_sem, reduceCtorEq, Nat.reduceEqDiff, Nat.reduceAdd, Nat.reduceSub, Nat.reduceMul, Nat.reduceLeDiff, Int.reduceEq, Int.reduceLT, Int.reduceLE, Int.reduceAdd, Int.reduceMul, Int.reduceSub, Int.reduceNeg, Int.reduceToNat, reduceIte, Nat.reduceLT, hw0]
  · refine ⟨.c (.slc H.length 0 0 6 false), H ++ [{ sz := 6, rows := List.replicate n [.int .i64 0, .int .i64 0, .str ⟨#[]⟩, .int .i64 0, .str ⟨#[]⟩, .int .i64 0] }], sound_of mixed is_slices_Grow_Fact fun T => ?_, List.prefix_append _ _, .inr ⟨H.length, _, rfl, by simp; rfl⟩, fun b hb n s q z e => ?_, fun h => absurd rfl h⟩
    · unfold c_slices_Grow_Fact
      have hw2 : IntKind.wrap .i64 (n : Int) = (n : Int) := wrap64 (by omega)
      have hneg : ¬ ((n : Int) < 0) := by omega
      have hpos : (0 : Int) < (n : Int) := by omega
      have hap : vAppM 6 64 [.int .i64 0, .int .i64 0, .str ⟨#[]⟩, .int .i64 0, .str ⟨#[]⟩, .int .i64 0] (.c .nilS) (iC (n : Int)) H = some (.c (.slc H.length 0 n 6 false), H ++ [{ sz := 6, rows := List.replicate n [.int .i64 0, .int .i64 0, .str ⟨#[]⟩, .int .i64 0, .str ⟨#[]⟩, .int .i64 0] }]) := by
        simp only [vAppM]
        rw [if_pos ⟨hpos, by omega, by omega⟩]
        simp
      simp only [go_sem, reduceCtorEq, Nat.reduceEqDiff, Nat.reduceAdd, Nat.reduceSub, Nat.reduceMul, Nat.reduceLeDiff, Int.reduceEq, Int.reduceLT, Int.reduceLE, Int.reduceAdd, Int.reduceMul, Int.reduceSub, Int.reduceNeg, Int.reduceToNat, reduceIte, Nat.reduceLT, hw0, hw2, hneg, hpos, Int.sub_zero, hap]
      rw [vSl_nil_hi (ik := .i64) (by simp only [go_sem, reduceCtorEq, Nat.reduceEqDiff, Nat.reduceAdd, Nat.reduceSub, Nat.reduceMul, Nat.reduceLeDiff, Int.reduceEq, Int.reduceLT, Int.reduceLE, Int.reduceAdd, Int.reduceMul, Int.reduceSub, Int.reduceNeg, Int.reduceToNat, reduceIte, Nat.reduceLT])]
      simp only [go_sem, reduceCtorEq, Nat.reduceEqDiff, Nat.reduceAdd, Nat.reduceSub, Nat.reduceMul, Nat.reduceLeDiff, Int.reduceEq, Int.reduceLT, Int.reduceLE, Int.reduceAdd, Int.reduceMul, Int.reduceSub, Int.reduceNeg, Int.reduceToNat, reduceIte, Nat.reduceLT, hw0, hap]
      rw [vSl_slc_0 (ik := .i64) (by simp only [go_sem, reduceCtorEq, Nat.reduceEqDiff, Nat.reduceAdd, Nat.reduceSub, Nat.reduceMul, Nat.reduceLeDiff, Int.reduceEq, Int.reduceLT, Int.reduceLE, Int.reduceAdd, Int.reduceMul, Int.reduceSub, Int.reduceNeg, Int.reduceToNat, reduceIte, Nat.reduceLT])]
      simp only [go_sem, reduceCtorEq, Nat.reduceEqDiff, Nat.reduceAdd, Nat.reduceSub, Nat.reduceMul, Nat.reduceLeDiff, Int.reduceEq, Int.reduceLT, Int.reduceLE, Int.reduceAdd, Int.reduceMul, Int.reduceSub, Int.reduceNeg, Int.reduceToNat, reduceIte, Nat.reduceLT]
    · injection e with e; injection e with e; omega

theorem slices_Concat_Fact_own (a b : List Fact) (hs : a.length + b.length ≤ 1000000) (H : Heap) : ∃ v H', CallSound Tryz.prog 16 [.c (.lst 1 [[factsC a], [factsC b]])] H v H' ∧ AccX H 6 ((a ++ b).map Fact.cells) v H' := by
  refine sound_ex mixed is_slices_Concat_Fact fun T => ?_
  unfold c_slices_Concat_Fact
  have w1 : IntKind.wrap .i64 (0 + (a.length : Int)) = (a.length : Int) := by rw [wrap64 (by omega)]; omega
  have w2 : IntKind.wrap .i64 ((a.length : Int) + (b.length : Int)) = ((a.length + b.length : Nat) : Int) := by rw [wrap64 (by omega)]; omega
  have n1 : ¬ ((a.length : Int) < 0) := by omega
  have n2 : ¬ (((a.length + b.length : Nat) : Int) < 0) := by omega
  have w01 : IntKind.wrap .i64 1 = 1 := by decide
  have w02 : IntKind.wrap .i64 2 = 2 := by decide
  have c2 : ((2 : Nat) : Int) = 2 := rfl
  have ix0 : ∀ (x y : List Cell) (H : Heap), vIx 1 (.c (.lst 1 [x, y])) (iC 0) H = some (.c (.fp x 0), H) := fun _ _ _ => rfl
  have ix1 : ∀ (x y : List Cell) (H : Heap), vIx 1 (.c (.lst 1 [x, y])) (iC 1) H = some (.c (.fp y 0), H) := fun _ _ _ => rfl
  simp only [go_sem, reduceCtorEq, Nat.reduceEqDiff, Nat.reduceAdd, Nat.reduceSub, Nat.reduceMul, Nat.reduceLeDiff, Int.reduceEq, Int.reduceLT, Int.reduceLE, Int.reduceAdd, Int.reduceMul, Int.reduceSub, Int.reduceNeg, Int.reduceToNat, reduceIte, Nat.reduceLT]
  refine run_again ?_
  conv => enter [3, 1]; unfold slices_Concat_Fact_L0
  simp only [go_sem, reduceCtorEq, Nat.reduceEqDiff, Nat.reduceAdd, Nat.reduceSub, Nat.reduceMul, Nat.reduceLeDiff, Int.reduceEq, Int.reduceLT, Int.reduceLE, Int.reduceAdd, Int.reduceMul, Int.reduceSub, Int.reduceNeg, Int.reduceToNat, reduceIte, Nat.reduceLT, c2, ix0, factsC, List.length_map, w1, n1, w01]
  refine run_again ?_
  conv => enter [3, 1]; unfold slices_Concat_Fact_L0
  simp only [go_sem, reduceCtorEq, Nat.reduceEqDiff, Nat.reduceAdd, Nat.reduceSub, Nat.reduceMul, Nat.reduceLeDiff, Int.reduceEq, Int.reduceLT, Int.reduceLE, Int.reduceAdd, Int.reduceMul, Int.reduceSub, Int.reduceNeg, Int.reduceToNat, reduceIte, Nat.reduceLT, c2, ix1, factsC, List.length_map, w2, n2, w02]
  refine run_again ?_
  conv => enter [3, 1]; unfold slices_Concat_Fact_L0
  simp only [go_sem, reduceCtorEq, Nat.reduceEqDiff, Nat.reduceAdd, Nat.reduceSub, Nat.reduceMul, Nat.reduceLeDiff, Int.reduceEq, Int.reduceLT, Int.reduceLE, Int.reduceAdd, Int.reduceMul, Int.reduceSub, Int.reduceNeg, Int.reduceToNat, reduceIte, Nat.reduceLT, c2]
  unfold slices_Concat_Fact_K3
  simp only [go_sem, reduceCtorEq, Nat.reduceEqDiff, Nat.reduceAdd, Nat.reduceSub, Nat.reduceMul, Nat.reduceLeDiff, Int.reduceEq, Int.reduceLT, Int.reduceLE, Int.reduceAdd, Int.reduceMul, Int.reduceSub, Int.reduceNeg, Int.reduceToNat, reduceIte, Nat.reduceLT]
  obtain ⟨g, H1, hg, ha⟩ := slices_Grow_Fact_own (a.length + b.length) (by omega) H
  refine callW_at hg (fun h => by cases h) ?_
  simp only [go_sem, reduceCtorEq, Nat.reduceEqDiff, Nat.reduceAdd, Nat.reduceSub, Nat.reduceMul, Nat.reduceLeDiff, Int.reduceEq, Int.reduceLT, Int.reduceLE, Int.reduceAdd, Int.reduceMul, Int.reduceSub, Int.reduceNeg, Int.reduceToNat, reduceIte, Nat.reduceLT, c2]
  refine run_again ?_
  conv => enter [3, 1]; unfold slices_Concat_Fact_L1
  simp only [go_sem, reduceCtorEq, Nat.reduceEqDiff, Nat.reduceAdd, Nat.reduceSub, Nat.reduceMul, Nat.reduceLeDiff, Int.reduceEq, Int.reduceLT, Int.reduceLE, Int.reduceAdd, Int.reduceMul, Int.reduceSub, Int.reduceNeg, Int.reduceToNat, reduceIte, Nat.reduceLT, c2, ix0]
  refine ha.app_step (by simp; omega) fun v2 H2 ha2 => ?_
  simp only [go_sem, reduceCtorEq, Nat.reduceEqDiff, Nat.reduceAdd, Nat.reduceSub, Nat.reduceMul, Nat.reduceLeDiff, Int.reduceEq, Int.reduceLT, Int.reduceLE, Int.reduceAdd, Int.reduceMul, Int.reduceSub, Int.reduceNeg, Int.reduceToNat, reduceIte, Nat.reduceLT, c2, w01]
  refine run_again ?_
  conv => enter [3, 1]; unfold slices_Concat_Fact_L1
  simp only [go_sem, reduceCtorEq, Nat.reduceEqDiff, Nat.reduceAdd, Nat.reduceSub, Nat.reduceMul, Nat.reduceLeDiff, Int.reduceEq, Int.reduceLT, Int.reduceLE, Int.reduceAdd, Int.reduceMul, Int.reduceSub, Int.reduceNeg, Int.reduceToNat, reduceIte, Nat.reduceLT, c2, ix1]
  refine ha2.app_step (by simp; omega) fun v3 H3 ha3 => ?_
  simp only [go_sem, reduceCtorEq, Nat.reduceEqDiff, Nat.reduceAdd, Nat.reduceSub, Nat.reduceMul, Nat.reduceLeDiff, Int.reduceEq, Int.reduceLT, Int.reduceLE, Int.reduceAdd, Int.reduceMul, Int.reduceSub, Int.reduceNeg, Int.reduceToNat, reduceIte, Nat.reduceLT, c2, w02]
  refine run_again ?_
  conv => enter [3, 1]; unfold slices_Concat_Fact_L1
  simp only [go_sem, reduceCtorEq, Nat.reduceEqDiff, Nat.reduceAdd, Nat.reduceSub, Nat.reduceMul, Nat.reduceLeDiff, Int.reduceEq, Int.reduceLT, Int.reduceLE, Int.reduceAdd, Int.reduceMul, Int.reduceSub, Int.reduceNeg, Int.reduceToNat, reduceIte, Nat.reduceLT, c2]
  unfold slices_Concat_Fact_K2
  simp only [go_sem, reduceCtorEq, Nat.reduceEqDiff, Nat.reduceAdd, Nat.reduceSub, Nat.reduceMul, Nat.reduceLeDiff, Int.reduceEq, Int.reduceLT, Int.reduceLE, Int.reduceAdd, Int.reduceMul, Int.reduceSub, Int.reduceNeg, Int.reduceToNat, reduceIte, Nat.reduceLT]
  simpa using ha3

theorem join_Join_1_ok (f g : Fact) : Pr 33 [.agg f.cells, .agg g.cells] (iC (cmpFact f g)) := by
  refine pure_of mixed is_join_Join_1 rfl fun hl T => ?_
  unfold c_join_Join_1
  simp only [go_sem, reduceCtorEq, Nat.reduceEqDiff, Nat.reduceAdd, Nat.reduceSub, Nat.reduceMul, Nat.reduceLeDiff, Int.reduceEq, Int.reduceLT, Int.reduceLE, Int.reduceAdd, Int.reduceMul, Int.reduceSub, Int.reduceNeg, Int.reduceToNat, reduceIte, Nat.reduceLT]
  refine callW_pure (facts_Cmp_ok f.dot g.dot) ?_
  simp only [go_sem, reduceCtorEq, Nat.reduceEqDiff, Nat.reduceAdd, Nat.reduceSub, Nat.reduceMul, Nat.reduceLeDiff, Int.reduceEq, Int.reduceLT, Int.reduceLE, Int.reduceAdd, Int.reduceMul, Int.reduceSub, Int.reduceNeg, Int.reduceToNat, reduceIte, Nat.reduceLT]
  simp [viewA, viewFn, viewC, viewFs, viewCs, viewAs, closedC, closedCs, cmpFact]

theorem Fact.cells_det (x : Fact) (m : LMap) (σ : Mem) (vs : List Value) (h : All2 (VR m σ) x.cells vs) : vs = [.int .i64 x.dev, .int .i64 x.n, .string x.key, .int .i64 x.kind, .string x.item, .int .i64 x.num] := by
  unfold Fact.cells at h
  cases h with
  | cons a h => cases h with
    | cons b h => cases h with
      | cons c h => cases h with
        | cons d h => cases h with
          | cons e h => cases h with
            | cons f h => cases h; cases a; cases b; cases c; cases d; cases e; cases f; rfl

theorem SortFunc_Fact_own {l : List Fact} {H : Heap} {b : Nat} (hs : Sm l) (h0 : l ≠ []) (hb : H[b]? = some { sz := 6, rows := l.map Fact.cells, own := true, live := true }) :
    CallSound Tryz.prog 32 [.c (.slc b 0 l.length 6 false), .c (.fn 33 [])] H (.tup []) (H.set b { sz := 6, rows := (sortL cmpFact l).map Fact.cells, own := true, live := true }) :=
  sort_sound (P := Tryz.prog) laySortFact (k := 6) (by kernel_rfl) (by kernel_rfl) (by omega) (f := Fact.cells) (enc := fun x => [.int .i64 x.dev, .int .i64 x.n, .string x.key, .int .i64 x.kind, .string x.item, .int .i64 x.num]) (fun _ => rfl)
    (fun x m σ => .cons (.int _ _) (.cons (.int _ _) (.cons (.str _) (.cons (.int _ _) (.cons (.str _) (.cons (.int _ _) .nil)))))) Fact.cells_det cmpFact_swo join_Join_1_ok hb (by omega) h0

theorem slices_Concat_Fact_none : Pr 16 [.c (.lst 1 [[factsC []], [factsC []]])] (.c .nilS) := by
  refine pure_of mixed is_slices_Concat_Fact rfl fun hl T => ?_
  unfold c_slices_Concat_Fact
  have w0 : IntKind.wrap .i64 0 = 0 := by decide
  have w01 : IntKind.wrap .i64 1 = 1 := by decide
  have w02 : IntKind.wrap .i64 2 = 2 := by decide
  have c2 : ((2 : Nat) : Int) = 2 := rfl
  have ix0 : ∀ (x y : List Cell) (H : Heap), vIx 1 (.c (.lst 1 [x, y])) (iC 0) H = some (.c (.fp x 0), H) := fun _ _ _ => rfl
  have ix1 : ∀ (x y : List Cell) (H : Heap), vIx 1 (.c (.lst 1 [x, y])) (iC 1) H = some (.c (.fp y 0), H) := fun _ _ _ => rfl
  have ap : ∀ H : Heap, vApp 6 64 (.c .nilS) (.c (.lst 6 [])) H = some (.c .nilS, H) := fun _ => rfl
  simp only [go_sem, reduceCtorEq, Nat.reduceEqDiff, Nat.reduceAdd, Nat.reduceSub, Nat.reduceMul, Nat.reduceLeDiff, Int.reduceEq, Int.reduceLT, Int.reduceLE, Int.reduceAdd, Int.reduceMul, Int.reduceSub, Int.reduceNeg, Int.reduceToNat, reduceIte, Nat.reduceLT]
  refine run_again ?_
  conv => enter [3, 1]; unfold slices_Concat_Fact_L0
  simp only [go_sem, reduceCtorEq, Nat.reduceEqDiff, Nat.reduceAdd, Nat.reduceSub, Nat.reduceMul, Nat.reduceLeDiff, Int.reduceEq, Int.reduceLT, Int.reduceLE, Int.reduceAdd, Int.reduceMul, Int.reduceSub, Int.reduceNeg, Int.reduceToNat, reduceIte, Nat.reduceLT, c2, ix0, factsC, w0, w01]
  refine run_again ?_
  conv => enter [3, 1]; unfold slices_Concat_Fact_L0
  simp only [go_sem, reduceCtorEq, Nat.reduceEqDiff, Nat.reduceAdd, Nat.reduceSub, Nat.reduceMul, Nat.reduceLeDiff, Int.reduceEq, Int.reduceLT, Int.reduceLE, Int.reduceAdd, Int.reduceMul, Int.reduceSub, Int.reduceNeg, Int.reduceToNat, reduceIte, Nat.reduceLT, c2, ix1, factsC, w0, w02]
  refine run_again ?_
  conv => enter [3, 1]; unfold slices_Concat_Fact_L0
  simp only [go_sem, reduceCtorEq, Nat.reduceEqDiff, Nat.reduceAdd, Nat.reduceSub, Nat.reduceMul, Nat.reduceLeDiff, Int.reduceEq, Int.reduceLT, Int.reduceLE, Int.reduceAdd, Int.reduceMul, Int.reduceSub, Int.reduceNeg, Int.reduceToNat, reduceIte, Nat.reduceLT, c2]
  unfold slices_Concat_Fact_K3
  simp only [go_sem, reduceCtorEq, Nat.reduceEqDiff, Nat.reduceAdd, Nat.reduceSub, Nat.reduceMul, Nat.reduceLeDiff, Int.reduceEq, Int.reduceLT, Int.reduceLE, Int.reduceAdd, Int.reduceMul, Int.reduceSub, Int.reduceNeg, Int.reduceToNat, reduceIte, Nat.reduceLT]
  have hg : CallSound Tryz.prog 28 [.c .nilS, iC 0] [] (.c .nilS) [] := by
    refine sound_of mixed is_slices_Grow_Fact fun T => ?_
    have hw0 : IntKind.wrap .i64 0 = 0 := by decide
    unfold c_slices_Grow_Fact
    simp only [go_sem, reduceCtorEq, Nat.reduceEqDiff, Nat.reduceAdd, Nat.reduceSub, Nat.reduceMul, Nat.reduceLeDiff, Int.reduceEq, Int.reduceLT, Int.reduceLE, Int.reduceAdd, Int.reduceMul, Int.reduceSub, Int.reduceNeg, Int.reduceToNat, reduceIte, Nat.reduceLT, hw0]
  refine callW_at hg (fun h => by cases h) ?_
  simp only [go_sem, reduceCtorEq, Nat.reduceEqDiff, Nat.reduceAdd, Nat.reduceSub, Nat.reduceMul, Nat.reduceLeDiff, Int.reduceEq, Int.reduceLT, Int.reduceLE, Int.reduceAdd, Int.reduceMul, Int.reduceSub, Int.reduceNeg, Int.reduceToNat, reduceIte, Nat.reduceLT, c2]
  refine run_again ?_
  conv => enter [3, 1]; unfold slices_Concat_Fact_L1
  simp only [go_sem, reduceCtorEq, Nat.reduceEqDiff, Nat.reduceAdd, Nat.reduceSub, Nat.reduceMul, Nat.reduceLeDiff, Int.reduceEq, Int.reduceLT, Int.reduceLE, Int.reduceAdd, Int.reduceMul, Int.reduceSub, Int.reduceNeg, Int.reduceToNat, reduceIte, Nat.reduceLT, c2, ix0, ap, w01]
  refine run_again ?_
  conv => enter [3, 1]; unfold slices_Concat_Fact_L1
  simp only [go_sem, reduceCtorEq, Nat.reduceEqDiff, Nat.reduceAdd, Nat.reduceSub, Nat.reduceMul, Nat.reduceLeDiff, Int.reduceEq, Int.reduceLT, Int.reduceLE, Int.reduceAdd, Int.reduceMul, Int.reduceSub, Int.reduceNeg, Int.reduceToNat, reduceIte, Nat.reduceLT, c2, ix1, ap, w02]
  refine run_again ?_
  conv => enter [3, 1]; unfold slices_Concat_Fact_L1
  simp only [go_sem, reduceCtorEq, Nat.reduceEqDiff, Nat.reduceAdd, Nat.reduceSub, Nat.reduceMul, Nat.reduceLeDiff, Int.reduceEq, Int.reduceLT, Int.reduceLE, Int.reduceAdd, Int.reduceMul, Int.reduceSub, Int.reduceNeg, Int.reduceToNat, reduceIte, Nat.reduceLT, c2]
  unfold slices_Concat_Fact_K2
  simp only [go_sem, reduceCtorEq, Nat.reduceEqDiff, Nat.reduceAdd, Nat.reduceSub, Nat.reduceMul, Nat.reduceLeDiff, Int.reduceEq, Int.reduceLT, Int.reduceLE, Int.reduceAdd, Int.reduceMul, Int.reduceSub, Int.reduceNeg, Int.reduceToNat, reduceIte, Nat.reduceLT]
  simp [viewA, viewFn, viewC, viewFs, viewCs, viewAs, closedC, closedCs]

theorem left_keepA {a b : State} : a.facts.filter (leftB b true) = a.facts.filter (keepA b) := List.filter_congr fun f _ => by
  unfold leftB keepA
  cases atD b.facts f.dot <;> simp
theorem left_keepB {a b : State} (ha : Good a) : b.facts.filter (leftB a false) = b.facts.filter (keepB a) := List.filter_congr fun f _ => by
  unfold leftB keepB
  cases h : atD a.facts f.dot
  · simp
  · simp [ha.at h]

theorem join_Join_ok (a b : State) (ha : Good a) (hb : Good b) (hs : a.seen.length + b.seen.length ≤ 1000000) (hf : a.facts.length + b.facts.length ≤ 1000000) : Pr 19 [.agg a.cells, .agg b.cells] (.agg (joinL a b).cells) := by
  refine pure_ofW mixed is_join_Join (by simp [closedAs, closedA, State.closed]) fun hl T => ?_
  unfold c_join_Join
  have e1 := join_left_ok a b true hb.asc (by omega) (by omega)
  have e2 := join_left_ok b a false ha.asc (by omega) (by omega)
  rw [left_keepA] at e1
  rw [left_keepB ha] at e2
  have hu := dots_Union_is a.seen b.seen hs ha.norm.right hb.norm.right
  have n1 := List.length_filter_le (keepA b) a.facts
  have n2 := List.length_filter_le (keepB a) b.facts
  have hj : joinL a b = ⟨unionL a.seen b.seen, sortL cmpFact (a.facts.filter (keepA b) ++ b.facts.filter (keepB a))⟩ := rfl
  rw [hj]
  generalize a.facts.filter (keepA b) = l1 at *
  generalize b.facts.filter (keepB a) = l2 at *
  simp only [go_sem, reduceCtorEq, Nat.reduceEqDiff, Nat.reduceAdd, Nat.reduceSub, Nat.reduceMul, Nat.reduceLeDiff, Int.reduceEq, Int.reduceLT, Int.reduceLE, Int.reduceAdd, Int.reduceMul, Int.reduceSub, Int.reduceNeg, Int.reduceToNat, reduceIte, Nat.reduceLT]
  refine callW_pure e1 ?_
  simp only [go_sem, reduceCtorEq, Nat.reduceEqDiff, Nat.reduceAdd, Nat.reduceSub, Nat.reduceMul, Nat.reduceLeDiff, Int.reduceEq, Int.reduceLT, Int.reduceLE, Int.reduceAdd, Int.reduceMul, Int.reduceSub, Int.reduceNeg, Int.reduceToNat, reduceIte, Nat.reduceLT]
  refine callW_pure e2 ?_
  simp only [go_sem, reduceCtorEq, Nat.reduceEqDiff, Nat.reduceAdd, Nat.reduceSub, Nat.reduceMul, Nat.reduceLeDiff, Int.reduceEq, Int.reduceLT, Int.reduceLE, Int.reduceAdd, Int.reduceMul, Int.reduceSub, Int.reduceNeg, Int.reduceToNat, reduceIte, Nat.reduceLT]
  by_cases h0 : l1 ++ l2 = []
  · obtain ⟨rfl, rfl⟩ := List.append_eq_nil_iff.1 h0
    simp only [go_sem, reduceCtorEq, Nat.reduceEqDiff, Nat.reduceAdd, Nat.reduceSub, Nat.reduceMul, Nat.reduceLeDiff, Int.reduceEq, Int.reduceLT, Int.reduceLE, Int.reduceAdd, Int.reduceMul, Int.reduceSub, Int.reduceNeg, Int.reduceToNat, reduceIte, Nat.reduceLT]
    refine callW_pure slices_Concat_Fact_none ?_
    simp only [go_sem, reduceCtorEq, Nat.reduceEqDiff, Nat.reduceAdd, Nat.reduceSub, Nat.reduceMul, Nat.reduceLeDiff, Int.reduceEq, Int.reduceLT, Int.reduceLE, Int.reduceAdd, Int.reduceMul, Int.reduceSub, Int.reduceNeg, Int.reduceToNat, reduceIte, Nat.reduceLT]
    refine callW_at ((sort_none laySortFact (sz := 6)).wk (.cons (.c (.nilS 6)) (.cons (.same _) .nil))) (fun h => by cases h) ?_
    simp only [go_sem, reduceCtorEq, Nat.reduceEqDiff, Nat.reduceAdd, Nat.reduceSub, Nat.reduceMul, Nat.reduceLeDiff, Int.reduceEq, Int.reduceLT, Int.reduceLE, Int.reduceAdd, Int.reduceMul, Int.reduceSub, Int.reduceNeg, Int.reduceToNat, reduceIte, Nat.reduceLT]
    refine callW_pure hu ?_
    simp only [go_sem, reduceCtorEq, Nat.reduceEqDiff, Nat.reduceAdd, Nat.reduceSub, Nat.reduceMul, Nat.reduceLeDiff, Int.reduceEq, Int.reduceLT, Int.reduceLE, Int.reduceAdd, Int.reduceMul, Int.reduceSub, Int.reduceNeg, Int.reduceToNat, reduceIte, Nat.reduceLT]
    have hsn : sortL cmpFact [] = [] := by
      have := (sortL_spec cmpFact_swo ([] : List Fact)).1
      simpa using this
    rw [hsn]
    exact told_state .nil
  · obtain ⟨v, H', hc, hp, hacc, hn, hx⟩ := slices_Concat_Fact_own l1 l2 (by omega) [{ sz := 2, rows := [[.nilS, .nilS]] }]
    obtain ⟨blk, rfl, hblk⟩ := hx (by simpa using h0)
    have hne : blk ≠ 0 := fun e => hn 0 (by simp) _ _ _ _ (by rw [e])
    have h00 : H'[0]? = some { sz := 2, rows := [[.nilS, .nilS]] } := by
      rw [List.prefix_iff_getElem?] at hp
      simpa using hp 0 (by simp)
    refine callW_at hc (fun _ => hp) ?_
    simp only [go_sem, reduceCtorEq, Nat.reduceEqDiff, Nat.reduceAdd, Nat.reduceSub, Nat.reduceMul, Nat.reduceLeDiff, Int.reduceEq, Int.reduceLT, Int.reduceLE, Int.reduceAdd, Int.reduceMul, Int.reduceSub, Int.reduceNeg, Int.reduceToNat, reduceIte, Nat.reduceLT, List.length_map]
    have hsl : Sm (l1 ++ l2) := by unfold Sm; simp; omega
    refine callW_at (SortFunc_Fact_own (b := blk) hsl h0 hblk) (fun h => by cases h) ?_
    simp only [go_sem, reduceCtorEq, Nat.reduceEqDiff, Nat.reduceAdd, Nat.reduceSub, Nat.reduceMul, Nat.reduceLeDiff, Int.reduceEq, Int.reduceLT, Int.reduceLE, Int.reduceAdd, Int.reduceMul, Int.reduceSub, Int.reduceNeg, Int.reduceToNat, reduceIte, Nat.reduceLT]
    refine callW_pure hu ?_
    have k0 := set_get_ne (B' := { sz := 6, rows := (sortL cmpFact (l1 ++ l2)).map Fact.cells }) h00 (b := blk) (Ne.symm hne)
    have k1 := set_get (B' := { sz := 6, rows := (sortL cmpFact (l1 ++ l2)).map Fact.cells }) hblk
    simp only [go_sem, reduceCtorEq, Nat.reduceEqDiff, Nat.reduceAdd, Nat.reduceSub, Nat.reduceMul, Nat.reduceLeDiff, Int.reduceEq, Int.reduceLT, Int.reduceLE, Int.reduceAdd, Int.reduceMul, Int.reduceSub, Int.reduceNeg, Int.reduceToNat, reduceIte, Nat.reduceLT, box_row k0, box_mine k0, box_put k0, box_row (set_get k0)]
    have hlen : (l1 ++ l2).length = (sortL cmpFact (l1 ++ l2)).length := ((sortL_spec cmpFact_swo _).1.length_eq).symm
    rw [hlen]
    exact told_state (l := sortL cmpFact (l1 ++ l2)) (.inr ⟨blk, [], by rw [List.length_map], by rw [List.append_nil]; exact set_get_ne k1 hne⟩)

end Go.Proofs.YtpjbjdicdjlmeaaGreatDoor.Eng
