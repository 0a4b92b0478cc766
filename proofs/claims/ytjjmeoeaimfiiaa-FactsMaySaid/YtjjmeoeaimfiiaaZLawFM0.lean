/- The law FactsMade: its call comes to true. -/
import Derived.Test.YtjjmeoeaimfiiaaZFactC
import Derived.Test.YtjjmeoeaimfiiaaZMakeR
import Derived.Test.YtjjmeoeaimfiiaaZLitH
namespace Go.Proofs.Ytjjmeoeaimfiiaa.Eng
open Go
set_option linter.unusedVariables false
set_option linter.unusedSimpArgs false

theorem beq_eq {p : Bool} : (p == p) = true := by cases p <;> rfl
/-- A state of which the facts lie in a block that is written: as it stands. -/
theorem view_own {H : Heap} {b : Nat} {s : List Rn} {l : List Fact} (h : H[b]? = some { sz := 6, rows := l.map Fact.cells, own := true, live := true }) (h0 : l ≠ []) :
    viewA H (.agg [runsC s, .slc b 0 l.length 6 false]) = some (.agg (State.cells ⟨s, l⟩)) := by
  have : ¬ l.length = 0 := fun e => h0 (List.eq_nil_of_length_eq_zero e)
  have ht : (l.map Fact.cells).take l.length = l.map Fact.cells := List.take_of_length_le (by simp)
  simp [viewA, viewFn, viewC, viewFs, viewCs, viewAs, closedC, closedCs, runsC, closed_runs, State.cells, factsC, this, h, ht, closed_facts]

theorem rowg_1 {H : Heap} {k0 : Blk} {sz q : Nat} {rows : List (List Cell)} {o : Bool} : Heap.row (k0 :: { sz := sz, rows := rows, own := o, live := true } :: H) 1 q = rows[q]? := rfl
theorem putg_1 {H : Heap} {k0 : Blk} {sz q : Nat} {rows : List (List Cell)} {o l : Bool} {r : List Cell} : Heap.put (k0 :: { sz := sz, rows := rows, own := o, live := l } :: H) 1 q r = k0 :: { sz := sz, rows := rows.set q r, own := o, live := l } :: H := rfl
theorem rowg_3 {H : Heap} {k0 k1 k2 : Blk} {sz q : Nat} {rows : List (List Cell)} {o : Bool} : Heap.row (k0 :: k1 :: k2 :: { sz := sz, rows := rows, own := o, live := true } :: H) 3 q = rows[q]? := rfl
theorem putg_3 {H : Heap} {k0 k1 k2 : Blk} {sz q : Nat} {rows : List (List Cell)} {o l : Bool} {r : List Cell} : Heap.put (k0 :: k1 :: k2 :: { sz := sz, rows := rows, own := o, live := l } :: H) 3 q r = k0 :: k1 :: k2 :: { sz := sz, rows := rows.set q r, own := o, live := l } :: H := rfl
theorem vAppZ_zer {H : Heap} {sz bytes : Nat} {rows : List (List Cell)} (h0 : rows ≠ []) (hb : rows.length * bytes ≤ 140737488355328) :
    vAppZ sz bytes (.c (.zer sz)) (.c (.lst sz rows)) H = some (.c (.slc H.length 0 rows.length sz false), H ++ [{ sz := sz, rows := rows }]) := by
  have hl : rows.length ≠ 0 := fun e => h0 (List.eq_nil_of_length_eq_zero e)
  simp only [vAppZ, evApp, Heap.rowsOf, fitsSz, beq_self_eq_true, if_true]
  rw [if_neg hl, if_pos hb]

theorem rowg_2 {H : Heap} {k0 k1 : Blk} {sz q : Nat} {rows : List (List Cell)} {o : Bool} : Heap.row (k0 :: k1 :: { sz := sz, rows := rows, own := o, live := true } :: H) 2 q = rows[q]? := rfl
theorem putg_2 {H : Heap} {k0 k1 : Blk} {sz q : Nat} {rows : List (List Cell)} {o l : Bool} {r : List Cell} : Heap.put (k0 :: k1 :: { sz := sz, rows := rows, own := o, live := l } :: H) 2 q r = k0 :: k1 :: { sz := sz, rows := rows.set q r, own := o, live := l } :: H := rfl

set_option maxHeartbeats 4000000 in
theorem l8_FactsMade_ok (xs ys : List Nat) (hla : xs.length ≤ maxLen) (hlb : ys.length ≤ maxLen) (ha : ∀ n ∈ xs, n < 256) (hb : ∀ n ∈ ys, n < 256) (w k q : Nat) (hw : w < 256) (hk : k < 256) (hq : q < 256) :
    Pr 5 [.c (bytesC xs), .c (bytesC ys), .c (.int .u8 (w : Int)), .c (.int .u8 (k : Int)), .c (.int .u8 (q : Int))] (bC true) := by
  refine pure_of mixed is_l8_FactsMade (by simp [closedAs, closedA, closedC, bytesC, closed_bytes]) fun hl T => ?_
  unfold c_l8_FactsMade
  simp only [go_sem, reduceCtorEq, Nat.reduceEqDiff, Nat.reduceAdd, Nat.reduceSub, Nat.reduceMul, Nat.reduceLeDiff, Int.reduceEq, Int.reduceLT, Int.reduceLE, Int.reduceAdd, Int.reduceMul, Int.reduceSub, Int.reduceNeg, Int.reduceToNat, reduceIte, Nat.reduceLT]
  refine callW_pure (l8_Make_ok xs hla ha) ?_
  simp only [go_sem, reduceCtorEq, Nat.reduceEqDiff, Nat.reduceAdd, Nat.reduceSub, Nat.reduceMul, Nat.reduceLeDiff, Int.reduceEq, Int.reduceLT, Int.reduceLE, Int.reduceAdd, Int.reduceMul, Int.reduceSub, Int.reduceNeg, Int.reduceToNat, reduceIte, Nat.reduceLT]
  refine callW_pure (l8_Make_ok ys hlb hb) ?_
  obtain ⟨fa, la, _⟩ := makeS_fine xs
  generalize makeS xs = a at *
  generalize makeS ys = b at *
  have k1 : (k : Int).tmod 4 = ((k % 4 : Nat) : Int) := by rw [Int.tmod_eq_emod_of_nonneg (by omega)]; omega
  have k2 : IntKind.wrap .u8 (107 + ((k % 4 : Nat) : Int)) = ((107 + k % 4 : Nat) : Int) := by rw [wrap8 (by omega)]; omega
  have q1 : IntKind.wrap .i64 (q : Int) = (q : Int) := wrap64 (by omega)
  have may : mayState a = true := mayState_iff.2 ⟨fa, by omega⟩
  have cm := facts_May_ok a
  rw [may] at cm
  have cf := facts_Find_ok a (one8 (107 + k % 4)) ((q : Int).tmod 5) (by omega)
  have cf2 := r7_Find_ok a (one8 (107 + k % 4)) ((q : Int).tmod 5) (by omega)
  generalize a.facts.filter (Fact.of (one8 (107 + k % 4)) ((q : Int).tmod 5)) = fl at cf cf2
  simp only [go_sem, reduceCtorEq, Nat.reduceEqDiff, Nat.reduceAdd, Nat.reduceSub, Nat.reduceMul, Nat.reduceLeDiff, Int.reduceEq, Int.reduceLT, Int.reduceLE, Int.reduceAdd, Int.reduceMul, Int.reduceSub, Int.reduceNeg, Int.reduceToNat, reduceIte, Nat.reduceLT, vBin_rem, k1, k2, vB2s_one]
  refine callW_pure cm ?_
  simp only [go_sem, reduceCtorEq, Nat.reduceEqDiff, Nat.reduceAdd, Nat.reduceSub, Nat.reduceMul, Nat.reduceLeDiff, Int.reduceEq, Int.reduceLT, Int.reduceLE, Int.reduceAdd, Int.reduceMul, Int.reduceSub, Int.reduceNeg, Int.reduceToNat, reduceIte, Nat.reduceLT, q1, vBin_rem]
  refine callW_pure cf ?_
  simp only [go_sem, reduceCtorEq, Nat.reduceEqDiff, Nat.reduceAdd, Nat.reduceSub, Nat.reduceMul, Nat.reduceLeDiff, Int.reduceEq, Int.reduceLT, Int.reduceLE, Int.reduceAdd, Int.reduceMul, Int.reduceSub, Int.reduceNeg, Int.reduceToNat, reduceIte, Nat.reduceLT, q1, vBin_rem]
  refine callW_pure cf2 ?_
  simp only [go_sem, reduceCtorEq, Nat.reduceEqDiff, Nat.reduceAdd, Nat.reduceSub, Nat.reduceMul, Nat.reduceLeDiff, Int.reduceEq, Int.reduceLT, Int.reduceLE, Int.reduceAdd, Int.reduceMul, Int.reduceSub, Int.reduceNeg, Int.reduceToNat, reduceIte, Nat.reduceLT]
  refine callW_pure (r7_SameFacts_ok fl fl) ?_
  simp only [go_sem, reduceCtorEq, Nat.reduceEqDiff, Nat.reduceAdd, Nat.reduceSub, Nat.reduceMul, Nat.reduceLeDiff, Int.reduceEq, Int.reduceLT, Int.reduceLE, Int.reduceAdd, Int.reduceMul, Int.reduceSub, Int.reduceNeg, Int.reduceToNat, reduceIte, Nat.reduceLT]
  refine callW_pure (facts_Same_ok a b) ?_
  simp only [go_sem, reduceCtorEq, Nat.reduceEqDiff, Nat.reduceAdd, Nat.reduceSub, Nat.reduceMul, Nat.reduceLeDiff, Int.reduceEq, Int.reduceLT, Int.reduceLE, Int.reduceAdd, Int.reduceMul, Int.reduceSub, Int.reduceNeg, Int.reduceToNat, reduceIte, Nat.reduceLT]
  refine callW_pure (r7_Same_ok a b) ?_
  simp only [go_sem, reduceCtorEq, Nat.reduceEqDiff, Nat.reduceAdd, Nat.reduceSub, Nat.reduceMul, Nat.reduceLeDiff, Int.reduceEq, Int.reduceLT, Int.reduceLE, Int.reduceAdd, Int.reduceMul, Int.reduceSub, Int.reduceNeg, Int.reduceToNat, reduceIte, Nat.reduceLT, beq_self_eq_true]
  by_cases h0 : a.facts = []
  · simp only [go_sem, reduceCtorEq, Nat.reduceEqDiff, Nat.reduceAdd, Nat.reduceSub, Nat.reduceMul, Nat.reduceLeDiff, Int.reduceEq, Int.reduceLT, Int.reduceLE, Int.reduceAdd, Int.reduceMul, Int.reduceSub, Int.reduceNeg, Int.reduceToNat, reduceIte, Nat.reduceLT, h0]
    refine callW_pure l8_awake_ok ?_
    simp only [go_sem, reduceCtorEq, Nat.reduceEqDiff, Nat.reduceAdd, Nat.reduceSub, Nat.reduceMul, Nat.reduceLeDiff, Int.reduceEq, Int.reduceLT, Int.reduceLE, Int.reduceAdd, Int.reduceMul, Int.reduceSub, Int.reduceNeg, Int.reduceToNat, reduceIte, Nat.reduceLT]
    rfl
  have e0 : ¬ ((a.facts.map Fact.cells).length : Int) = 0 := by
    simp only [List.length_map]
    have : a.facts.length ≠ 0 := fun e => h0 (List.eq_nil_of_length_eq_zero e)
    omega
  have hn0 : 0 < a.facts.length := List.length_pos_iff.2 h0
  have h0' : a.facts.map Fact.cells ≠ [] := by simpa using h0
  have hap := fun H : Heap => vAppZ_zer (H := H) (sz := 6) (bytes := 64) h0' (by simp; omega)
  have w1 : IntKind.wrap .i64 (w : Int) = (w : Int) := wrap64 (by omega)
  have w2 : (w : Int).tmod ((a.facts.map Fact.cells).length : Int) = ((w % a.facts.length : Nat) : Int) := by rw [List.length_map, Int.tmod_eq_emod_of_nonneg (by omega)]; simp
  have hi : w % a.facts.length < a.facts.length := Nat.mod_lt _ hn0
  have w3 : IntKind.wrap .u8 ((w : Int).tdiv 16) = ((w / 16 : Nat) : Int) := by
    have : (w : Int).tdiv 16 = ((w / 16 : Nat) : Int) := by rw [Int.tdiv_eq_ediv_of_nonneg (by omega)]; omega
    rw [this, wrap8 (by omega)]
  have w4 : ((w / 16 : Nat) : Int).tmod 5 = ((w / 16 % 5 : Nat) : Int) := by rw [Int.tmod_eq_emod_of_nonneg (by omega)]; omega
  have hc5 : w / 16 % 5 < 5 := Nat.mod_lt _ (by omega)
  generalize w % a.facts.length = i at *
  generalize w / 16 % 5 = c at *
  have hin : i < (a.facts.map Fact.cells).length := by simpa using hi
  have ix : ∀ (H : Heap), vIx 6 (.c (.slc 2 0 (a.facts.map Fact.cells).length 6 false)) (iC (i : Int)) H = some (.c (.ptr 2 i 0), H) := fun H => vIx_slc hin
  obtain ⟨f, hff⟩ : ∃ f, a.facts[i]? = some f := ⟨a.facts[i], by simp [hi]⟩
  have rf : (a.facts.map Fact.cells)[i]? = some f.cells := by simp [hff]
  have mf : f ∈ a.facts := List.mem_of_getElem? hff
  have hsz : f.item.size ≤ 200 := by
    have := fa.right f mf
    unfold Fact.right at this
    simp only [Bool.and_eq_true] at this
    have h3 := this.2
    split at h3
    · simp at h3; omega
    · split at h3
      · simp at h3; rw [h3.1.1]; decide
      · cases h3
  have hcat : ∀ H : Heap, vBin .add (.c (.str f.item)) (.c (.str ⟨#[120]⟩)) H = some (.c (.str (f.item ++ ⟨#[120]⟩)), H) := fun H => vBin_cat (by
    show f.item.size + 1 ≤ _
    omega)
  have view : ∀ f' : Fact, viewA [{ sz := 2, rows := [a.cells] }, { sz := 2, rows := [b.cells] }, { sz := 6, rows := (a.facts.map Fact.cells).set i f'.cells }, { sz := 2, rows := [[runsC a.seen, .slc 2 0 (a.facts.map Fact.cells).length 6 false]] }]
      (.agg [runsC a.seen, .slc 2 0 (a.facts.map Fact.cells).length 6 false]) = some (.agg (State.cells ⟨a.seen, a.facts.set i f'⟩)) := fun f' => by
    have hl : (a.facts.map Fact.cells).length = (a.facts.set i f').length := by simp
    rw [hl]
    refine view_own ?_ (fun e => by have := congrArg List.length e; simp at this; exact h0 this)
    rw [List.map_set]
    rfl
  have hv : ∀ f' : Fact, viewAs [{ sz := 2, rows := [a.cells] }, { sz := 2, rows := [b.cells] }, { sz := 6, rows := (a.facts.map Fact.cells).set i f'.cells }, { sz := 2, rows := [[runsC a.seen, .slc 2 0 (a.facts.map Fact.cells).length 6 false]] }]
      [.agg [runsC a.seen, .slc 2 0 (a.facts.map Fact.cells).length 6 false]] = some [.agg (State.cells ⟨a.seen, a.facts.set i f'⟩)] := fun f' => by
    simp only [viewAs, view f']
  have hv2 : ∀ f' : Fact, viewAs [{ sz := 2, rows := [a.cells] }, { sz := 2, rows := [b.cells] }, { sz := 6, rows := (a.facts.map Fact.cells).set i f'.cells }, { sz := 2, rows := [[runsC a.seen, .slc 2 0 (a.facts.map Fact.cells).length 6 false]] }]
      [.agg a.cells, .agg [runsC a.seen, .slc 2 0 (a.facts.map Fact.cells).length 6 false]] = some [.agg a.cells, .agg (State.cells ⟨a.seen, a.facts.set i f'⟩)] := fun f' => by
    have : ∀ H, viewA H (.agg a.cells) = some (.agg a.cells) := fun H => by simp [viewA, viewFn, viewC, viewFs, viewCs, viewAs, closedC, closedCs, State.cells, runsC, factsC, closed_runs, closed_facts]
    simp only [viewAs, view f', this]
  simp only [go_sem, reduceCtorEq, Nat.reduceEqDiff, Nat.reduceAdd, Nat.reduceSub, Nat.reduceMul, Nat.reduceLeDiff, Int.reduceEq, Int.reduceLT, Int.reduceLE, Int.reduceAdd, Int.reduceMul, Int.reduceSub, Int.reduceNeg, Int.reduceToNat, reduceIte, Nat.reduceLT, e0, hap, w1, vBin_rem, w2, ix]
  simp only [go_sem, reduceCtorEq, Nat.reduceEqDiff, Nat.reduceAdd, Nat.reduceSub, Nat.reduceMul, Nat.reduceLeDiff, Int.reduceEq, Int.reduceLT, Int.reduceLE, Int.reduceAdd, Int.reduceMul, Int.reduceSub, Int.reduceNeg, Int.reduceToNat, reduceIte, Nat.reduceLT, vBin_quo, w3, vBin_rem, w4]
  by_cases x0 : c = 0
  · have x0' : ((c : Int) = 0) := by omega
    simp only [go_sem, reduceCtorEq, Nat.reduceEqDiff, Nat.reduceAdd, Nat.reduceSub, Nat.reduceMul, Nat.reduceLeDiff, Int.reduceEq, Int.reduceLT, Int.reduceLE, Int.reduceAdd, Int.reduceMul, Int.reduceSub, Int.reduceNeg, Int.reduceToNat, reduceIte, Nat.reduceLT, x0', rowg_2, putg_2, rf, vBin_rem, hcat]
    refine callW_view (facts_May_ok ⟨a.seen, a.facts.set i ⟨f.dev, W (f.n + 40), f.key, f.kind, f.item, f.num⟩⟩) (hv ⟨f.dev, W (f.n + 40), f.key, f.kind, f.item, f.num⟩) rfl ?_
    simp only [go_sem, reduceCtorEq, Nat.reduceEqDiff, Nat.reduceAdd, Nat.reduceSub, Nat.reduceMul, Nat.reduceLeDiff, Int.reduceEq, Int.reduceLT, Int.reduceLE, Int.reduceAdd, Int.reduceMul, Int.reduceSub, Int.reduceNeg, Int.reduceToNat, reduceIte, Nat.reduceLT]
    refine callW_view (r7_May_ok ⟨a.seen, a.facts.set i ⟨f.dev, W (f.n + 40), f.key, f.kind, f.item, f.num⟩⟩) (hv ⟨f.dev, W (f.n + 40), f.key, f.kind, f.item, f.num⟩) rfl ?_
    simp only [go_sem, reduceCtorEq, Nat.reduceEqDiff, Nat.reduceAdd, Nat.reduceSub, Nat.reduceMul, Nat.reduceLeDiff, Int.reduceEq, Int.reduceLT, Int.reduceLE, Int.reduceAdd, Int.reduceMul, Int.reduceSub, Int.reduceNeg, Int.reduceToNat, reduceIte, Nat.reduceLT, beq_self_eq_true]
    refine callW_view (facts_Same_ok a ⟨a.seen, a.facts.set i ⟨f.dev, W (f.n + 40), f.key, f.kind, f.item, f.num⟩⟩) (hv2 ⟨f.dev, W (f.n + 40), f.key, f.kind, f.item, f.num⟩) rfl ?_
    simp only [go_sem, reduceCtorEq, Nat.reduceEqDiff, Nat.reduceAdd, Nat.reduceSub, Nat.reduceMul, Nat.reduceLeDiff, Int.reduceEq, Int.reduceLT, Int.reduceLE, Int.reduceAdd, Int.reduceMul, Int.reduceSub, Int.reduceNeg, Int.reduceToNat, reduceIte, Nat.reduceLT]
    refine callW_view (r7_Same_ok a ⟨a.seen, a.facts.set i ⟨f.dev, W (f.n + 40), f.key, f.kind, f.item, f.num⟩⟩) (hv2 ⟨f.dev, W (f.n + 40), f.key, f.kind, f.item, f.num⟩) rfl ?_
    simp only [go_sem, reduceCtorEq, Nat.reduceEqDiff, Nat.reduceAdd, Nat.reduceSub, Nat.reduceMul, Nat.reduceLeDiff, Int.reduceEq, Int.reduceLT, Int.reduceLE, Int.reduceAdd, Int.reduceMul, Int.reduceSub, Int.reduceNeg, Int.reduceToNat, reduceIte, Nat.reduceLT, beq_self_eq_true]
    refine callW_pure l8_awake_ok ?_
    simp only [go_sem, reduceCtorEq, Nat.reduceEqDiff, Nat.reduceAdd, Nat.reduceSub, Nat.reduceMul, Nat.reduceLeDiff, Int.reduceEq, Int.reduceLT, Int.reduceLE, Int.reduceAdd, Int.reduceMul, Int.reduceSub, Int.reduceNeg, Int.reduceToNat, reduceIte, Nat.reduceLT]
    rfl
  have y0 : ¬ ((c : Int) = 0) := by omega
  by_cases x1 : c = 1
  · have x1' : ((c : Int) = 1) := by omega
    simp only [go_sem, reduceCtorEq, Nat.reduceEqDiff, Nat.reduceAdd, Nat.reduceSub, Nat.reduceMul, Nat.reduceLeDiff, Int.reduceEq, Int.reduceLT, Int.reduceLE, Int.reduceAdd, Int.reduceMul, Int.reduceSub, Int.reduceNeg, Int.reduceToNat, reduceIte, Nat.reduceLT, x1', y0, rowg_2, putg_2, rf, vBin_rem, hcat]
    refine callW_view (facts_May_ok ⟨a.seen, a.facts.set i ⟨f.dev, f.n, f.key, W (1 + f.kind.tmod 3), f.item, f.num⟩⟩) (hv ⟨f.dev, f.n, f.key, W (1 + f.kind.tmod 3), f.item, f.num⟩) rfl ?_
    simp only [go_sem, reduceCtorEq, Nat.reduceEqDiff, Nat.reduceAdd, Nat.reduceSub, Nat.reduceMul, Nat.reduceLeDiff, Int.reduceEq, Int.reduceLT, Int.reduceLE, Int.reduceAdd, Int.reduceMul, Int.reduceSub, Int.reduceNeg, Int.reduceToNat, reduceIte, Nat.reduceLT]
    refine callW_view (r7_May_ok ⟨a.seen, a.facts.set i ⟨f.dev, f.n, f.key, W (1 + f.kind.tmod 3), f.item, f.num⟩⟩) (hv ⟨f.dev, f.n, f.key, W (1 + f.kind.tmod 3), f.item, f.num⟩) rfl ?_
    simp only [go_sem, reduceCtorEq, Nat.reduceEqDiff, Nat.reduceAdd, Nat.reduceSub, Nat.reduceMul, Nat.reduceLeDiff, Int.reduceEq, Int.reduceLT, Int.reduceLE, Int.reduceAdd, Int.reduceMul, Int.reduceSub, Int.reduceNeg, Int.reduceToNat, reduceIte, Nat.reduceLT, beq_self_eq_true]
    refine callW_view (facts_Same_ok a ⟨a.seen, a.facts.set i ⟨f.dev, f.n, f.key, W (1 + f.kind.tmod 3), f.item, f.num⟩⟩) (hv2 ⟨f.dev, f.n, f.key, W (1 + f.kind.tmod 3), f.item, f.num⟩) rfl ?_
    simp only [go_sem, reduceCtorEq, Nat.reduceEqDiff, Nat.reduceAdd, Nat.reduceSub, Nat.reduceMul, Nat.reduceLeDiff, Int.reduceEq, Int.reduceLT, Int.reduceLE, Int.reduceAdd, Int.reduceMul, Int.reduceSub, Int.reduceNeg, Int.reduceToNat, reduceIte, Nat.reduceLT]
    refine callW_view (r7_Same_ok a ⟨a.seen, a.facts.set i ⟨f.dev, f.n, f.key, W (1 + f.kind.tmod 3), f.item, f.num⟩⟩) (hv2 ⟨f.dev, f.n, f.key, W (1 + f.kind.tmod 3), f.item, f.num⟩) rfl ?_
    simp only [go_sem, reduceCtorEq, Nat.reduceEqDiff, Nat.reduceAdd, Nat.reduceSub, Nat.reduceMul, Nat.reduceLeDiff, Int.reduceEq, Int.reduceLT, Int.reduceLE, Int.reduceAdd, Int.reduceMul, Int.reduceSub, Int.reduceNeg, Int.reduceToNat, reduceIte, Nat.reduceLT, beq_self_eq_true]
    refine callW_pure l8_awake_ok ?_
    simp only [go_sem, reduceCtorEq, Nat.reduceEqDiff, Nat.reduceAdd, Nat.reduceSub, Nat.reduceMul, Nat.reduceLeDiff, Int.reduceEq, Int.reduceLT, Int.reduceLE, Int.reduceAdd, Int.reduceMul, Int.reduceSub, Int.reduceNeg, Int.reduceToNat, reduceIte, Nat.reduceLT]
    rfl
  have y1 : ¬ ((c : Int) = 1) := by omega
  by_cases x2 : c = 2
  · have x2' : ((c : Int) = 2) := by omega
    simp only [go_sem, reduceCtorEq, Nat.reduceEqDiff, Nat.reduceAdd, Nat.reduceSub, Nat.reduceMul, Nat.reduceLeDiff, Int.reduceEq, Int.reduceLT, Int.reduceLE, Int.reduceAdd, Int.reduceMul, Int.reduceSub, Int.reduceNeg, Int.reduceToNat, reduceIte, Nat.reduceLT, x2', y0, y1, rowg_2, putg_2, rf, vBin_rem, hcat]
    refine callW_view (facts_May_ok ⟨a.seen, a.facts.set i ⟨f.dev, f.n, f.key, f.kind, f.item, W (f.num + 1)⟩⟩) (hv ⟨f.dev, f.n, f.key, f.kind, f.item, W (f.num + 1)⟩) rfl ?_
    simp only [go_sem, reduceCtorEq, Nat.reduceEqDiff, Nat.reduceAdd, Nat.reduceSub, Nat.reduceMul, Nat.reduceLeDiff, Int.reduceEq, Int.reduceLT, Int.reduceLE, Int.reduceAdd, Int.reduceMul, Int.reduceSub, Int.reduceNeg, Int.reduceToNat, reduceIte, Nat.reduceLT]
    refine callW_view (r7_May_ok ⟨a.seen, a.facts.set i ⟨f.dev, f.n, f.key, f.kind, f.item, W (f.num + 1)⟩⟩) (hv ⟨f.dev, f.n, f.key, f.kind, f.item, W (f.num + 1)⟩) rfl ?_
    simp only [go_sem, reduceCtorEq, Nat.reduceEqDiff, Nat.reduceAdd, Nat.reduceSub, Nat.reduceMul, Nat.reduceLeDiff, Int.reduceEq, Int.reduceLT, Int.reduceLE, Int.reduceAdd, Int.reduceMul, Int.reduceSub, Int.reduceNeg, Int.reduceToNat, reduceIte, Nat.reduceLT, beq_self_eq_true]
    refine callW_view (facts_Same_ok a ⟨a.seen, a.facts.set i ⟨f.dev, f.n, f.key, f.kind, f.item, W (f.num + 1)⟩⟩) (hv2 ⟨f.dev, f.n, f.key, f.kind, f.item, W (f.num + 1)⟩) rfl ?_
    simp only [go_sem, reduceCtorEq, Nat.reduceEqDiff, Nat.reduceAdd, Nat.reduceSub, Nat.reduceMul, Nat.reduceLeDiff, Int.reduceEq, Int.reduceLT, Int.reduceLE, Int.reduceAdd, Int.reduceMul, Int.reduceSub, Int.reduceNeg, Int.reduceToNat, reduceIte, Nat.reduceLT]
    refine callW_view (r7_Same_ok a ⟨a.seen, a.facts.set i ⟨f.dev, f.n, f.key, f.kind, f.item, W (f.num + 1)⟩⟩) (hv2 ⟨f.dev, f.n, f.key, f.kind, f.item, W (f.num + 1)⟩) rfl ?_
    simp only [go_sem, reduceCtorEq, Nat.reduceEqDiff, Nat.reduceAdd, Nat.reduceSub, Nat.reduceMul, Nat.reduceLeDiff, Int.reduceEq, Int.reduceLT, Int.reduceLE, Int.reduceAdd, Int.reduceMul, Int.reduceSub, Int.reduceNeg, Int.reduceToNat, reduceIte, Nat.reduceLT, beq_self_eq_true]
    refine callW_pure l8_awake_ok ?_
    simp only [go_sem, reduceCtorEq, Nat.reduceEqDiff, Nat.reduceAdd, Nat.reduceSub, Nat.reduceMul, Nat.reduceLeDiff, Int.reduceEq, Int.reduceLT, Int.reduceLE, Int.reduceAdd, Int.reduceMul, Int.reduceSub, Int.reduceNeg, Int.reduceToNat, reduceIte, Nat.reduceLT]
    rfl
  have y2 : ¬ ((c : Int) = 2) := by omega
  by_cases x3 : c = 3
  · have x3' : ((c : Int) = 3) := by omega
    simp only [go_sem, reduceCtorEq, Nat.reduceEqDiff, Nat.reduceAdd, Nat.reduceSub, Nat.reduceMul, Nat.reduceLeDiff, Int.reduceEq, Int.reduceLT, Int.reduceLE, Int.reduceAdd, Int.reduceMul, Int.reduceSub, Int.reduceNeg, Int.reduceToNat, reduceIte, Nat.reduceLT, x3', y0, y1, y2, rowg_2, putg_2, rf, vBin_rem, hcat]
    refine callW_view (facts_May_ok ⟨a.seen, a.facts.set i ⟨f.dev, f.n, f.key, f.kind, f.item ++ (⟨#[120]⟩ : ByteArray), f.num⟩⟩) (hv ⟨f.dev, f.n, f.key, f.kind, f.item ++ (⟨#[120]⟩ : ByteArray), f.num⟩) rfl ?_
    simp only [go_sem, reduceCtorEq, Nat.reduceEqDiff, Nat.reduceAdd, Nat.reduceSub, Nat.reduceMul, Nat.reduceLeDiff, Int.reduceEq, Int.reduceLT, Int.reduceLE, Int.reduceAdd, Int.reduceMul, Int.reduceSub, Int.reduceNeg, Int.reduceToNat, reduceIte, Nat.reduceLT]
    refine callW_view (r7_May_ok ⟨a.seen, a.facts.set i ⟨f.dev, f.n, f.key, f.kind, f.item ++ (⟨#[120]⟩ : ByteArray), f.num⟩⟩) (hv ⟨f.dev, f.n, f.key, f.kind, f.item ++ (⟨#[120]⟩ : ByteArray), f.num⟩) rfl ?_
    simp only [go_sem, reduceCtorEq, Nat.reduceEqDiff, Nat.reduceAdd, Nat.reduceSub, Nat.reduceMul, Nat.reduceLeDiff, Int.reduceEq, Int.reduceLT, Int.reduceLE, Int.reduceAdd, Int.reduceMul, Int.reduceSub, Int.reduceNeg, Int.reduceToNat, reduceIte, Nat.reduceLT, beq_self_eq_true]
    refine callW_view (facts_Same_ok a ⟨a.seen, a.facts.set i ⟨f.dev, f.n, f.key, f.kind, f.item ++ (⟨#[120]⟩ : ByteArray), f.num⟩⟩) (hv2 ⟨f.dev, f.n, f.key, f.kind, f.item ++ (⟨#[120]⟩ : ByteArray), f.num⟩) rfl ?_
    simp only [go_sem, reduceCtorEq, Nat.reduceEqDiff, Nat.reduceAdd, Nat.reduceSub, Nat.reduceMul, Nat.reduceLeDiff, Int.reduceEq, Int.reduceLT, Int.reduceLE, Int.reduceAdd, Int.reduceMul, Int.reduceSub, Int.reduceNeg, Int.reduceToNat, reduceIte, Nat.reduceLT]
    refine callW_view (r7_Same_ok a ⟨a.seen, a.facts.set i ⟨f.dev, f.n, f.key, f.kind, f.item ++ (⟨#[120]⟩ : ByteArray), f.num⟩⟩) (hv2 ⟨f.dev, f.n, f.key, f.kind, f.item ++ (⟨#[120]⟩ : ByteArray), f.num⟩) rfl ?_
    simp only [go_sem, reduceCtorEq, Nat.reduceEqDiff, Nat.reduceAdd, Nat.reduceSub, Nat.reduceMul, Nat.reduceLeDiff, Int.reduceEq, Int.reduceLT, Int.reduceLE, Int.reduceAdd, Int.reduceMul, Int.reduceSub, Int.reduceNeg, Int.reduceToNat, reduceIte, Nat.reduceLT, beq_self_eq_true]
    refine callW_pure l8_awake_ok ?_
    simp only [go_sem, reduceCtorEq, Nat.reduceEqDiff, Nat.reduceAdd, Nat.reduceSub, Nat.reduceMul, Nat.reduceLeDiff, Int.reduceEq, Int.reduceLT, Int.reduceLE, Int.reduceAdd, Int.reduceMul, Int.reduceSub, Int.reduceNeg, Int.reduceToNat, reduceIte, Nat.reduceLT]
    rfl
  have y3 : ¬ ((c : Int) = 3) := by omega
  simp only [go_sem, reduceCtorEq, Nat.reduceEqDiff, Nat.reduceAdd, Nat.reduceSub, Nat.reduceMul, Nat.reduceLeDiff, Int.reduceEq, Int.reduceLT, Int.reduceLE, Int.reduceAdd, Int.reduceMul, Int.reduceSub, Int.reduceNeg, Int.reduceToNat, reduceIte, Nat.reduceLT, y0, y1, y2, y3, rowg_2, putg_2, rf, vBin_rem, hcat]
  refine callW_view (facts_May_ok ⟨a.seen, a.facts.set i ⟨(W (f.dev + 1)).tmod 4, f.n, f.key, f.kind, f.item, f.num⟩⟩) (hv ⟨(W (f.dev + 1)).tmod 4, f.n, f.key, f.kind, f.item, f.num⟩) rfl ?_
  simp only [go_sem, reduceCtorEq, Nat.reduceEqDiff, Nat.reduceAdd, Nat.reduceSub, Nat.reduceMul, Nat.reduceLeDiff, Int.reduceEq, Int.reduceLT, Int.reduceLE, Int.reduceAdd, Int.reduceMul, Int.reduceSub, Int.reduceNeg, Int.reduceToNat, reduceIte, Nat.reduceLT]
  refine callW_view (r7_May_ok ⟨a.seen, a.facts.set i ⟨(W (f.dev + 1)).tmod 4, f.n, f.key, f.kind, f.item, f.num⟩⟩) (hv ⟨(W (f.dev + 1)).tmod 4, f.n, f.key, f.kind, f.item, f.num⟩) rfl ?_
  simp only [go_sem, reduceCtorEq, Nat.reduceEqDiff, Nat.reduceAdd, Nat.reduceSub, Nat.reduceMul, Nat.reduceLeDiff, Int.reduceEq, Int.reduceLT, Int.reduceLE, Int.reduceAdd, Int.reduceMul, Int.reduceSub, Int.reduceNeg, Int.reduceToNat, reduceIte, Nat.reduceLT, beq_self_eq_true]
  refine callW_view (facts_Same_ok a ⟨a.seen, a.facts.set i ⟨(W (f.dev + 1)).tmod 4, f.n, f.key, f.kind, f.item, f.num⟩⟩) (hv2 ⟨(W (f.dev + 1)).tmod 4, f.n, f.key, f.kind, f.item, f.num⟩) rfl ?_
  simp only [go_sem, reduceCtorEq, Nat.reduceEqDiff, Nat.reduceAdd, Nat.reduceSub, Nat.reduceMul, Nat.reduceLeDiff, Int.reduceEq, Int.reduceLT, Int.reduceLE, Int.reduceAdd, Int.reduceMul, Int.reduceSub, Int.reduceNeg, Int.reduceToNat, reduceIte, Nat.reduceLT]
  refine callW_view (r7_Same_ok a ⟨a.seen, a.facts.set i ⟨(W (f.dev + 1)).tmod 4, f.n, f.key, f.kind, f.item, f.num⟩⟩) (hv2 ⟨(W (f.dev + 1)).tmod 4, f.n, f.key, f.kind, f.item, f.num⟩) rfl ?_
  simp only [go_sem, reduceCtorEq, Nat.reduceEqDiff, Nat.reduceAdd, Nat.reduceSub, Nat.reduceMul, Nat.reduceLeDiff, Int.reduceEq, Int.reduceLT, Int.reduceLE, Int.reduceAdd, Int.reduceMul, Int.reduceSub, Int.reduceNeg, Int.reduceToNat, reduceIte, Nat.reduceLT, beq_self_eq_true]
  refine callW_pure l8_awake_ok ?_
  simp only [go_sem, reduceCtorEq, Nat.reduceEqDiff, Nat.reduceAdd, Nat.reduceSub, Nat.reduceMul, Nat.reduceLeDiff, Int.reduceEq, Int.reduceLT, Int.reduceLE, Int.reduceAdd, Int.reduceMul, Int.reduceSub, Int.reduceNeg, Int.reduceToNat, reduceIte, Nat.reduceLT]
  rfl

theorem l8_FactsMade_law (xs : List Nat) (hla : xs.length ≤ maxLen) (ha : ∀ n ∈ xs, n < 256) (ys : List Nat) (hlb : ys.length ≤ maxLen) (hb : ∀ n ∈ ys, n < 256) (w : Int) (hw : IntKind.min .u8 ≤ w ∧ w ≤ IntKind.max .u8)
    (k : Int) (hk : IntKind.min .u8 ≤ k ∧ k ≤ IntKind.max .u8) (q : Int) (hq : IntKind.min .u8 ≤ q ∧ q ≤ IntKind.max .u8) : Pr 5 [.c (bytesC xs), .c (bytesC ys), .c (.int .u8 w), .c (.int .u8 k), .c (.int .u8 q)] (bC true) := by
  have a1 : 0 ≤ w := hw.1
  have a2 : w ≤ 255 := hw.2
  have b1 : 0 ≤ k := hk.1
  have b2 : k ≤ 255 := hk.2
  have c1 : 0 ≤ q := hq.1
  have c2 : q ≤ 255 := hq.2
  have := l8_FactsMade_ok xs ys hla hlb ha hb w.toNat k.toNat q.toNat (by omega) (by omega) (by omega)
  rwa [Int.toNat_of_nonneg a1, Int.toNat_of_nonneg b1, Int.toNat_of_nonneg c1] at this

end Go.Proofs.Ytjjmeoeaimfiiaa.Eng
