/- Contracts of the package buffer: copied, Add, Since, Ack; two buffers alike. No statement of the seat is proved here. -/
import Derived.Test.YtnccbccnjjachaaGreatZCopR
import Derived.Test.YtnccbccnjjachaaGreatZJoinV
import Derived.Test.YtnccbccnjjachaaGreatZLitE
namespace Go.Proofs.YtnccbccnjjachaaGreat.Eng
open Go
set_option linter.unusedVariables false
set_option linter.unusedSimpArgs false

theorem slices_Clone_State_nil : Pr 16 [.c .nilS] (.c .nilS) := by
  refine pure_of mixed is_slices_Clone_State rfl fun hl T => ?_
  unfold c_slices_Clone_State
  simp only [go_sem, reduceCtorEq, Nat.reduceEqDiff, Nat.reduceAdd, Nat.reduceSub, Nat.reduceMul, Nat.reduceLeDiff, Int.reduceEq, Int.reduceLT, Int.reduceLE, Int.reduceAdd, Int.reduceMul, Int.reduceSub, Int.reduceNeg, Int.reduceToNat, reduceIte, Nat.reduceLT, bne_self_eq_false]
  refine condW_true ?_
  simp only [go_sem, reduceCtorEq, Nat.reduceEqDiff, Nat.reduceAdd, Nat.reduceSub, Nat.reduceMul, Nat.reduceLeDiff, Int.reduceEq, Int.reduceLT, Int.reduceLE, Int.reduceAdd, Int.reduceMul, Int.reduceSub, Int.reduceNeg, Int.reduceToNat, reduceIte, Nat.reduceLT]
  simp [viewA, viewFn, viewC, viewFs, viewCs, viewAs, closedC, closedCs]
theorem slices_Clone_State_emp : Pr 16 [.c (.emp 2)] (.c (.zer 2)) := by
  refine pure_of mixed is_slices_Clone_State rfl fun hl T => ?_
  unfold c_slices_Clone_State
  have ha : vAppZ 2 48 (.c (.zer 2)) (.c (.emp 2)) [] = some (.c (.zer 2), []) := rfl
  simp only [go_sem, reduceCtorEq, Nat.reduceEqDiff, Nat.reduceAdd, Nat.reduceSub, Nat.reduceMul, Nat.reduceLeDiff, Int.reduceEq, Int.reduceLT, Int.reduceLE, Int.reduceAdd, Int.reduceMul, Int.reduceSub, Int.reduceNeg, Int.reduceToNat, reduceIte, Nat.reduceLT, bne_self_eq_false, ha]
  simp [viewA, viewFn, viewC, viewFs, viewCs, viewAs, closedC, closedCs]
theorem slices_Clone_State_none : Pr 16 [.c (.lst 2 [])] (.c (.zer 2)) := fun H =>
  CallSound.empty (pre := []) (post := []) (Pure.wkr slices_Clone_State_nil (.c (.nilZ 2)) H) (slices_Clone_State_emp H)

theorem buffer_copied_at {x : Cell} {l : List State} {H : Heap} (hr : H.rowsOf x = some (l.map State.cells)) (hf : fitsSz 2 x = true) (hn : evNil true x .nilS = some false) (h0 : l ≠ []) (hs : Sm l) (hz : ∀ s ∈ l, Sm s.seen ∧ Sm s.facts) :
    ∃ G, CallSound Tryz.prog 15 [.c x] H (.c (.slc H.length 0 l.length 2 false)) G ∧ H <+: G ∧ G[H.length]? = some { sz := 2, rows := l.map State.cells, own := true, live := true } := by
  obtain ⟨v, G, h1, h2, h3, h4⟩ := sound_ex mixed is_buffer_copied (R := fun u G => u = .c (.slc H.length 0 l.length 2 false) ∧ H <+: G ∧ G[H.length]? = some { sz := 2, rows := l.map State.cells, own := true, live := true }) fun T => buffer_copied_run hr hf hn h0 hs hz T _ fun G h1 h2 => ⟨rfl, h1, h2⟩
  subst h2
  exact ⟨G, h1, h3, h4⟩

theorem lst_not_nil {sz : Nat} {rows : List (List Cell)} (h : rows ≠ []) : evNil true (.lst sz rows) .nilS = some false := by
  cases rows with
  | nil => exact absurd rfl h
  | cons => rfl
theorem view_states {G : Heap} {b : Nat} {l : List State} (h0 : l ≠ []) (h : G[b]? = some { sz := 2, rows := l.map State.cells, own := true, live := true }) : viewC G (.slc b 0 l.length 2 false) = some (statesC l) := by
  have hl : l.length ≠ 0 := fun e => h0 (List.eq_nil_of_length_eq_zero e)
  have hc : closedR (l.map State.cells) = true := closedR_map State.closed l
  have ht : (l.map State.cells).take l.length = l.map State.cells := List.take_of_length_le (by simp)
  simp [viewC, hl, h, ht, hc, statesC]

theorem buffer_copied_ok (l : List State) (hs : Sm l) (hz : ∀ s ∈ l, Sm s.seen ∧ Sm s.facts) : Pr 15 [.c (statesC l)] (.c (statesC l)) := by
  by_cases h0 : l = []
  · subst h0
    intro H
    refine CallSound.empty (pre := []) (post := []) ?_ ?_
    · refine Pure.wkr (v := .c .nilS) (pure_of mixed is_buffer_copied rfl fun hl T => ?_) (.c (.nilS _)) H
      unfold c_buffer_copied
      simp only [go_sem, reduceCtorEq, Nat.reduceEqDiff, Nat.reduceAdd, Nat.reduceSub, Nat.reduceMul, Nat.reduceLeDiff, Int.reduceEq, Int.reduceLT, Int.reduceLE, Int.reduceAdd, Int.reduceMul, Int.reduceSub, Int.reduceNeg, Int.reduceToNat, reduceIte, Nat.reduceLT]
      refine callW_pure slices_Clone_State_nil ?_
      simp only [go_sem, reduceCtorEq, Nat.reduceEqDiff, Nat.reduceAdd, Nat.reduceSub, Nat.reduceMul, Nat.reduceLeDiff, Int.reduceEq, Int.reduceLT, Int.reduceLE, Int.reduceAdd, Int.reduceMul, Int.reduceSub, Int.reduceNeg, Int.reduceToNat, reduceIte, Nat.reduceLT]
      refine run_again ?_
      conv => enter [3, 1]; unfold buffer_copied_L0
      simp only [go_sem, reduceCtorEq, Nat.reduceEqDiff, Nat.reduceAdd, Nat.reduceSub, Nat.reduceMul, Nat.reduceLeDiff, Int.reduceEq, Int.reduceLT, Int.reduceLE, Int.reduceAdd, Int.reduceMul, Int.reduceSub, Int.reduceNeg, Int.reduceToNat, reduceIte, Nat.reduceLT]
      unfold buffer_copied_K1
      simp only [go_sem, reduceCtorEq, Nat.reduceEqDiff, Nat.reduceAdd, Nat.reduceSub, Nat.reduceMul, Nat.reduceLeDiff, Int.reduceEq, Int.reduceLT, Int.reduceLE, Int.reduceAdd, Int.reduceMul, Int.reduceSub, Int.reduceNeg, Int.reduceToNat, reduceIte, Nat.reduceLT]
      simp [viewA, viewFn, viewC, viewFs, viewCs, viewAs, closedC, closedCs]
    · refine Pure.wkr (v := .c (.zer 2)) (pure_of mixed is_buffer_copied rfl fun hl T => ?_) (.c (.zer _)) H
      unfold c_buffer_copied
      simp only [go_sem, reduceCtorEq, Nat.reduceEqDiff, Nat.reduceAdd, Nat.reduceSub, Nat.reduceMul, Nat.reduceLeDiff, Int.reduceEq, Int.reduceLT, Int.reduceLE, Int.reduceAdd, Int.reduceMul, Int.reduceSub, Int.reduceNeg, Int.reduceToNat, reduceIte, Nat.reduceLT]
      refine callW_pure slices_Clone_State_emp ?_
      simp only [go_sem, reduceCtorEq, Nat.reduceEqDiff, Nat.reduceAdd, Nat.reduceSub, Nat.reduceMul, Nat.reduceLeDiff, Int.reduceEq, Int.reduceLT, Int.reduceLE, Int.reduceAdd, Int.reduceMul, Int.reduceSub, Int.reduceNeg, Int.reduceToNat, reduceIte, Nat.reduceLT]
      refine run_again ?_
      conv => enter [3, 1]; unfold buffer_copied_L0
      simp only [go_sem, reduceCtorEq, Nat.reduceEqDiff, Nat.reduceAdd, Nat.reduceSub, Nat.reduceMul, Nat.reduceLeDiff, Int.reduceEq, Int.reduceLT, Int.reduceLE, Int.reduceAdd, Int.reduceMul, Int.reduceSub, Int.reduceNeg, Int.reduceToNat, reduceIte, Nat.reduceLT]
      unfold buffer_copied_K1
      simp only [go_sem, reduceCtorEq, Nat.reduceEqDiff, Nat.reduceAdd, Nat.reduceSub, Nat.reduceMul, Nat.reduceLeDiff, Int.reduceEq, Int.reduceLT, Int.reduceLE, Int.reduceAdd, Int.reduceMul, Int.reduceSub, Int.reduceNeg, Int.reduceToNat, reduceIte, Nat.reduceLT]
      simp [viewA, viewFn, viewC, viewFs, viewCs, viewAs, closedC, closedCs]
  · obtain ⟨G, h1, h2, h3⟩ := buffer_copied_at (x := statesC l) (H := []) rfl rfl (lst_not_nil (by simpa using h0)) h0 hs hz
    refine h1.pure (by simp [closedAs, closedA, closed_statesC]) ?_
    simp only [viewA, viewFn]
    rw [show ([] : Heap).length = 0 from rfl] at h3 ⊢
    rw [view_states h0 h3]

theorem buffer_Add_ok (b : Buf) (s : State) (hs : Sm (b.l ++ [s])) (hz : ∀ t ∈ b.l ++ [s], Sm t.seen ∧ Sm t.facts) : Pr 6 [.agg b.cells, .agg s.cells] (.agg (Buf.cells ⟨b.first, b.l ++ [s]⟩)) := by
  refine pure_of mixed is_buffer_Add (by simp [closedAs, closedA, closedC, Buf.closed, State.closed]) fun hl T => ?_
  unfold c_buffer_Add
  obtain ⟨first, l⟩ := b
  have hlc : closedR (l.map State.cells) = true := closedR_map State.closed l
  have hsc0 := State.closed s
  have hne : l ++ [s] ≠ [] := by simp
  have hsl : Sm l := by unfold Sm at *; simp at hs; omega
  have hln : (l ++ [s]).length = l.length + 1 := by simp
  have fin : ∀ (x : Cell) (H : Heap), H.rowsOf x = some ((l ++ [s]).map State.cells) → fitsSz 2 x = true → evNil true x .nilS = some false →
      H[0]? = some { sz := 2, rows := [[.int .i64 first, .lst 2 (l.map State.cells)]], own := true, live := true } → H[1]? = some { sz := 2, rows := [[.int .i64 0, .nilS]], own := true, live := true } →
      ∃ G, CallSound Tryz.prog 15 [.c x] H (.c (.slc H.length 0 (l.length + 1) 2 false)) G ∧ H <+: G ∧ 1 < H.length ∧ G[H.length]? = some { sz := 2, rows := (l ++ [s]).map State.cells, own := true, live := true } ∧
        G[0]? = some { sz := 2, rows := [[.int .i64 first, .lst 2 (l.map State.cells)]], own := true, live := true } ∧ G[1]? = some { sz := 2, rows := [[.int .i64 0, .nilS]], own := true, live := true } := by
    intro x H hr hf hn k0 k1
    obtain ⟨G, g1, g2, g3⟩ := buffer_copied_at hr hf hn hne hs hz
    rw [hln] at g1
    have l1 := (List.getElem?_eq_some_iff.1 k1).1
    exact ⟨G, g1, g2, l1, g3, by rw [prefix_get g2 (by omega)]; exact k0, by rw [prefix_get g2 (by omega)]; exact k1⟩
  dsimp only [Buf.cells]
  simp only [go_sem, reduceCtorEq, Nat.reduceEqDiff, Nat.reduceAdd, Nat.reduceSub, Nat.reduceMul, Nat.reduceLeDiff, Int.reduceEq, Int.reduceLT, Int.reduceLE, Int.reduceAdd, Int.reduceMul, Int.reduceSub, Int.reduceNeg, Int.reduceToNat, reduceIte, Nat.reduceLT, hlc, hsc0]
  rw [vBox_agg]
  have hsc1 : closedCs [Cell.lst 3 (s.seen.map Rn.cells), Cell.lst 6 (s.facts.map Fact.cells)] = true := hsc0
  simp only [go_sem, reduceCtorEq, Nat.reduceEqDiff, Nat.reduceAdd, Nat.reduceSub, Nat.reduceMul, Nat.reduceLeDiff, Int.reduceEq, Int.reduceLT, Int.reduceLE, Int.reduceAdd, Int.reduceMul, Int.reduceSub, Int.reduceNeg, Int.reduceToNat, reduceIte, Nat.reduceLT, hlc, hsc0, hsc1, closed_runs, closed_facts]
  by_cases h0 : l = []
  · subst h0
    refine callW_pure (v := .c (.zer 2)) slices_Clone_State_none ?_
    have ha : vApp 2 48 (.c (.zer 2)) (.c (.lst 2 [[.lst 3 (s.seen.map Rn.cells), .lst 6 (s.facts.map Fact.cells)]])) [{ sz := 2, rows := [[.int .i64 first, .lst 2 []]] }, { sz := 2, rows := [[.int .i64 0, .nilS]] }] = some (.c (.slc 2 0 1 2 false), [{ sz := 2, rows := [[.int .i64 first, .lst 2 []]] }, { sz := 2, rows := [[.int .i64 0, .nilS]] }, { sz := 2, rows := [s.cells] }]) := rfl
    have hsc : closedCs s.cells = true := State.closed s
    simp only [go_sem, reduceCtorEq, Nat.reduceEqDiff, Nat.reduceAdd, Nat.reduceSub, Nat.reduceMul, Nat.reduceLeDiff, Int.reduceEq, Int.reduceLT, Int.reduceLE, Int.reduceAdd, Int.reduceMul, Int.reduceSub, Int.reduceNeg, Int.reduceToNat, reduceIte, Nat.reduceLT, hsc, ha]
    obtain ⟨G, g1, g2, g3, g4, g5, g6⟩ := fin (.slc 2 0 1 2 false) [{ sz := 2, rows := [[.int .i64 first, .lst 2 []]] }, { sz := 2, rows := [[.int .i64 0, .nilS]] }, { sz := 2, rows := [s.cells] }] rfl rfl rfl rfl rfl
    simp only [List.length_cons, List.length_nil, Nat.zero_add, Nat.reduceAdd] at g1 g4
    refine callW_at g1 (fun _ => g2) ?_
    have n0 := set_get (B' := { sz := 2, rows := [[.int .i64 first, .slc 3 0 1 2 false]], own := true, live := true }) g5
    have n1 := set_get_ne (B' := { sz := 2, rows := [[.int .i64 first, .slc 3 0 1 2 false]], own := true, live := true }) g6 (b := 0) (by omega)
    have n3 := set_get_ne (B' := { sz := 2, rows := [[.int .i64 first, .slc 3 0 1 2 false]], own := true, live := true }) g4 (b := 0) (by omega)
    simp only [go_sem, reduceCtorEq, Nat.reduceEqDiff, Nat.reduceAdd, Nat.reduceSub, Nat.reduceMul, Nat.reduceLeDiff, Int.reduceEq, Int.reduceLT, Int.reduceLE, Int.reduceAdd, Int.reduceMul, Int.reduceSub, Int.reduceNeg, Int.reduceToNat, reduceIte, Nat.reduceLT, box_row g5, box_mine g5, box_put g5, box_row n0, box_row n1, box_mine n1, box_put n1, box_row (set_get n1)]
    have n4 := set_get_ne (B' := { sz := 2, rows := [[.int .i64 first, .slc 3 0 1 2 false]], own := true, live := true }) n3 (b := 1) (by omega)
    have hv := view_states (l := [s]) (by simp) n4
    have hi : ∀ G : Heap, viewC G (.int .i64 first) = some (.int .i64 first) := fun _ => rfl
    simp only [List.length_cons, List.length_nil, Nat.zero_add] at hv
    simp only [viewA, viewFs, viewFn, hv, hi]
    rfl
  · have hcl := slices_Clone_State_at (x := statesC l) (rows := l.map State.cells) (H := [{ sz := 2, rows := [[.int .i64 first, .lst 2 (l.map State.cells)]] }, { sz := 2, rows := [[.int .i64 0, .nilS]] }]) rfl rfl (lst_not_nil (by simpa using h0)) (by simpa using h0) (by simp; exact hsl)
    refine callW_at hcl (fun _ => List.prefix_append _ _) ?_
    have ha : vApp 2 48 (.c (.slc 2 0 (l.map State.cells).length 2 false)) (.c (.lst 2 [[.lst 3 (s.seen.map Rn.cells), .lst 6 (s.facts.map Fact.cells)]])) [{ sz := 2, rows := [[.int .i64 first, .lst 2 (l.map State.cells)]] }, { sz := 2, rows := [[.int .i64 0, .nilS]] }, { sz := 2, rows := l.map State.cells }] =
        some (.c (.slc 3 0 (l.length + 1) 2 false), [{ sz := 2, rows := [[.int .i64 first, .lst 2 (l.map State.cells)]] }, { sz := 2, rows := [[.int .i64 0, .nilS]] }, { sz := 2, rows := l.map State.cells, live := false }, { sz := 2, rows := (l ++ [s]).map State.cells }]) := by
      have e1 : (l.map State.cells).take l.length = l.map State.cells := List.take_of_length_le (by simp)
      have e2 : (l.length + 1) * 48 ≤ 140737488355328 := by unfold Sm at hsl; omega
      simp [vApp, evApp, Heap.rowsOf, fitsSz, e1, e2, State.cells, runsC, factsC]
    have hsc : closedCs s.cells = true := State.closed s
    simp only [List.length_cons, List.length_nil, Nat.zero_add, Nat.reduceAdd, List.cons_append, List.nil_append]
    simp only [go_sem, reduceCtorEq, Nat.reduceEqDiff, Nat.reduceAdd, Nat.reduceSub, Nat.reduceMul, Nat.reduceLeDiff, Int.reduceEq, Int.reduceLT, Int.reduceLE, Int.reduceAdd, Int.reduceMul, Int.reduceSub, Int.reduceNeg, Int.reduceToNat, reduceIte, Nat.reduceLT, hsc, ha]
    have ht : ((l ++ [s]).map State.cells).take (l.length + 1) = (l ++ [s]).map State.cells := List.take_of_length_le (by simp)
    obtain ⟨G, g1, g2, g3, g4, g5, g6⟩ := fin (.slc 3 0 (l.length + 1) 2 false) [{ sz := 2, rows := [[.int .i64 first, .lst 2 (l.map State.cells)]] }, { sz := 2, rows := [[.int .i64 0, .nilS]] }, { sz := 2, rows := l.map State.cells, live := false }, { sz := 2, rows := (l ++ [s]).map State.cells }]
      (by simp [Heap.rowsOf]; exact List.take_of_length_le (by simp)) rfl rfl rfl rfl
    simp only [List.length_cons, List.length_nil, Nat.zero_add, Nat.reduceAdd] at g1 g4
    refine callW_at g1 (fun _ => g2) ?_
    have n0 := set_get (B' := { sz := 2, rows := [[.int .i64 first, .slc 4 0 (l.length + 1) 2 false]], own := true, live := true }) g5
    have n1 := set_get_ne (B' := { sz := 2, rows := [[.int .i64 first, .slc 4 0 (l.length + 1) 2 false]], own := true, live := true }) g6 (b := 0) (by omega)
    have n3 := set_get_ne (B' := { sz := 2, rows := [[.int .i64 first, .slc 4 0 (l.length + 1) 2 false]], own := true, live := true }) g4 (b := 0) (by omega)
    simp only [go_sem, reduceCtorEq, Nat.reduceEqDiff, Nat.reduceAdd, Nat.reduceSub, Nat.reduceMul, Nat.reduceLeDiff, Int.reduceEq, Int.reduceLT, Int.reduceLE, Int.reduceAdd, Int.reduceMul, Int.reduceSub, Int.reduceNeg, Int.reduceToNat, reduceIte, Nat.reduceLT, box_row g5, box_mine g5, box_put g5, box_row n0, box_row n1, box_mine n1, box_put n1, box_row (set_get n1)]
    have n4 := set_get_ne (B' := { sz := 2, rows := [[.int .i64 first, .slc 4 0 (l.length + 1) 2 false]], own := true, live := true }) n3 (b := 1) (by omega)
    have hv := view_states hne n4
    rw [hln] at hv
    have hi : ∀ G : Heap, viewC G (.int .i64 first) = some (.int .i64 first) := fun _ => rfl
    simp only [viewA, viewFs, viewFn, hv, hi]
    rfl

/-- What is acked is taken away. -/
theorem buffer_Ack_ok (b : Buf) (n : Int) (hf : 0 ≤ b.first ∧ b.first ≤ 4503599627370496) (hs : Sm b.l) (hz : ∀ s ∈ b.l, Sm s.seen ∧ Sm s.facts) :
    Pr 8 [.agg b.cells, iC n] (.agg (Buf.cells ⟨max b.first (min n (b.first + b.l.length)), b.l.drop (max b.first (min n (b.first + b.l.length)) - b.first).toNat⟩)) := by
  refine pure_of mixed is_buffer_Ack (by simp [closedAs, closedA, closedC, Buf.closed]) fun hl T => ?_
  unfold c_buffer_Ack
  have he := buffer_end_ok b
  have hsl : b.l.length ≤ 1000000 := hs
  have hlim : b.lim = b.first + b.l.length := wrap64 (by omega)
  rw [hlim] at he
  obtain ⟨first, l⟩ := b
  simp only at hf hs hz he hsl ⊢
  have hr : closedR (l.map State.cells) = true := closedR_map State.closed l
  generalize hN : max first (min n (first + l.length)) = N
  have hmn : (if (if first + (l.length : Int) < n then first + (l.length : Int) else n) > first then (if first + (l.length : Int) < n then first + (l.length : Int) else n) else first) = N := by
    rw [← hN]; split <;> split <;> omega
  have hk1 : 0 ≤ N - first := by omega
  have hk2 : N - first ≤ l.length := by omega
  have hw : IntKind.wrap .i64 (N - first) = N - first := wrap64 (by omega)
  have hd : statesC (l.drop (N - first).toNat) = .lst 2 ((l.map State.cells).drop (N - first).toNat) := by rw [← List.map_drop]; rfl
  have hcp := buffer_copied_ok (l.drop (N - first).toNat) (by unfold Sm; simp; omega) fun s h => hz s (List.mem_of_mem_drop h)
  have hcl : closedR ((l.map State.cells).drop (N - first).toNat) = true := by rw [← List.map_drop]; exact closedR_map State.closed _
  have hlc : closedR (l.map State.cells) = true := closedR_map State.closed l
  dsimp only [Buf.cells]
  have hsl1 : ∀ (e : Env) (H : Heap), e 18 = iC (N - first) → vSl 2 (.c (.lst 2 (l.map State.cells))) e (some (.t 18)) none none H = some (.c (statesC (l.drop (N - first).toNat)), H) := fun e H h => by
    rw [hd]
    have g : N - first ≤ ((l.map State.cells).length : Int) := by simp; omega
    have hk3 : first ≤ N := by omega
    simp [vSl, fitsSz, evSl, boundO, bound, Opd.ev, h, hk1, hk2, hk3, vPure]
    refine List.take_of_length_le ?_
    simp
  simp only [go_sem, reduceCtorEq, Nat.reduceEqDiff, Nat.reduceAdd, Nat.reduceSub, Nat.reduceMul, Nat.reduceLeDiff, Int.reduceEq, Int.reduceLT, Int.reduceLE, Int.reduceAdd, Int.reduceMul, Int.reduceSub, Int.reduceNeg, Int.reduceToNat, reduceIte, Nat.reduceLT, hlc]
  refine callW_pure he ?_
  simp only [go_sem, reduceCtorEq, Nat.reduceEqDiff, Nat.reduceAdd, Nat.reduceSub, Nat.reduceMul, Nat.reduceLeDiff, Int.reduceEq, Int.reduceLT, Int.reduceLE, Int.reduceAdd, Int.reduceMul, Int.reduceSub, Int.reduceNeg, Int.reduceToNat, reduceIte, Nat.reduceLT, hmn, hw, hsl1]
  refine callW_pure hcp ?_
  simp only [go_sem, reduceCtorEq, Nat.reduceEqDiff, Nat.reduceAdd, Nat.reduceSub, Nat.reduceMul, Nat.reduceLeDiff, Int.reduceEq, Int.reduceLT, Int.reduceLE, Int.reduceAdd, Int.reduceMul, Int.reduceSub, Int.reduceNeg, Int.reduceToNat, reduceIte, Nat.reduceLT]
  simp [viewA, viewFn, viewC, viewFs, viewCs, viewAs, closedC, closedCs, hcl]

theorem buffer_Since_no (b : Buf) (n many : Int) (h : b.none n many = true) : Pr 7 [.agg b.cells, iC n, iC many] (.tup [.agg [.nilS, .nilS], bC false]) := by
  refine pure_of mixed is_buffer_Since (by simp [closedAs, closedA, closedC, Buf.closed]) fun hl T => ?_
  unfold c_buffer_Since
  have hlc : closedR (b.l.map State.cells) = true := closedR_map State.closed b.l
  have hsn := buffer_some_no b n many h
  obtain ⟨first, l⟩ := b
  dsimp only [Buf.cells] at *
  simp only [go_sem, reduceCtorEq, Nat.reduceEqDiff, Nat.reduceAdd, Nat.reduceSub, Nat.reduceMul, Nat.reduceLeDiff, Int.reduceEq, Int.reduceLT, Int.reduceLE, Int.reduceAdd, Int.reduceMul, Int.reduceSub, Int.reduceNeg, Int.reduceToNat, reduceIte, Nat.reduceLT, hlc]
  refine callW_pure hsn ?_
  simp only [go_sem, reduceCtorEq, Nat.reduceEqDiff, Nat.reduceAdd, Nat.reduceSub, Nat.reduceMul, Nat.reduceLeDiff, Int.reduceEq, Int.reduceLT, Int.reduceLE, Int.reduceAdd, Int.reduceMul, Int.reduceSub, Int.reduceNeg, Int.reduceToNat, reduceIte, Nat.reduceLT]
  refine callW_pure (errors_Is_none n) ?_
  simp only [go_sem, reduceCtorEq, Nat.reduceEqDiff, Nat.reduceAdd, Nat.reduceSub, Nat.reduceMul, Nat.reduceLeDiff, Int.reduceEq, Int.reduceLT, Int.reduceLE, Int.reduceAdd, Int.reduceMul, Int.reduceSub, Int.reduceNeg, Int.reduceToNat, reduceIte, Nat.reduceLT]
  simp [viewA, viewFn, viewC, viewFs, viewCs, viewAs, closedC, closedCs]

theorem buffer_Since_ok (b : Buf) (k m : Nat) (hf : 0 ≤ b.first ∧ b.first ≤ 4503599627370496) (hlen : b.l.length ≤ 100) (hk : k ≤ b.l.length) (hm : m ≤ 4503599627370496) (hg : ∀ s ∈ b.l, Good s) (hs : ∀ s ∈ b.l, s.seen.length ≤ 1000 ∧ s.facts.length ≤ 1000) :
    Pr 7 [.agg b.cells, iC (b.first + k), iC m] (.tup [.agg (allL ((b.l.drop k).take m)).cells, bC true]) := by
  refine pure_of mixed is_buffer_Since (by simp [closedAs, closedA, closedC, Buf.closed]) fun hl T => ?_
  unfold c_buffer_Since
  have hlc : closedR (b.l.map State.cells) = true := closedR_map State.closed b.l
  have hsn := buffer_some_ok b k m hf (by omega) hk hm
  have hmem : ∀ s ∈ (b.l.drop k).take m, s ∈ b.l := fun s h => List.mem_of_mem_drop (List.mem_of_mem_take h)
  have hall := join_All_ok ((b.l.drop k).take m) (fun s h => hg s (hmem s h)) (fun s h => hs s (hmem s h)) (by simp; omega)
  have hcl := State.closed (allL ((b.l.drop k).take m))
  obtain ⟨first, l⟩ := b
  dsimp only [Buf.cells] at *
  simp only [go_sem, reduceCtorEq, Nat.reduceEqDiff, Nat.reduceAdd, Nat.reduceSub, Nat.reduceMul, Nat.reduceLeDiff, Int.reduceEq, Int.reduceLT, Int.reduceLE, Int.reduceAdd, Int.reduceMul, Int.reduceSub, Int.reduceNeg, Int.reduceToNat, reduceIte, Nat.reduceLT, hlc]
  refine callW_pure hsn ?_
  simp only [go_sem, reduceCtorEq, Nat.reduceEqDiff, Nat.reduceAdd, Nat.reduceSub, Nat.reduceMul, Nat.reduceLeDiff, Int.reduceEq, Int.reduceLT, Int.reduceLE, Int.reduceAdd, Int.reduceMul, Int.reduceSub, Int.reduceNeg, Int.reduceToNat, reduceIte, Nat.reduceLT]
  refine callW_pure errors_Is_nil ?_
  simp only [go_sem, reduceCtorEq, Nat.reduceEqDiff, Nat.reduceAdd, Nat.reduceSub, Nat.reduceMul, Nat.reduceLeDiff, Int.reduceEq, Int.reduceLT, Int.reduceLE, Int.reduceAdd, Int.reduceMul, Int.reduceSub, Int.reduceNeg, Int.reduceToNat, reduceIte, Nat.reduceLT]
  refine callW_pure hall ?_
  simp only [go_sem, reduceCtorEq, Nat.reduceEqDiff, Nat.reduceAdd, Nat.reduceSub, Nat.reduceMul, Nat.reduceLeDiff, Int.reduceEq, Int.reduceLT, Int.reduceLE, Int.reduceAdd, Int.reduceMul, Int.reduceSub, Int.reduceNeg, Int.reduceToNat, reduceIte, Nat.reduceLT]
  generalize allL ((l.drop k).take m) = s at *
  obtain ⟨seen, facts⟩ := s
  simp only [State.cells] at *
  simp [viewA, viewFn, viewC, viewFs, viewCs, viewAs, closedC, closedCs, runsC, factsC, closed_runs, closed_facts]

theorem r7_SameBuffer_ok (a b : Buf) : Pr 12 [.agg a.cells, .agg b.cells] (bC (decide (a.first = b.first ∧ a.l = b.l))) := by
  refine pure_of mixed is_r7_SameBuffer (by simp [closedAs, closedA, Buf.closed]) fun hl T => ?_
  obtain ⟨fa, la⟩ := a
  obtain ⟨fb, lb⟩ := b
  have hmax : la.length ≤ maxLen := by simp [lenAs, lenA, lenC, Buf.cells, statesC] at hl; exact hl.1
  have ca := closed_statesC la
  have cb := closed_statesC lb
  have ra : closedR (la.map State.cells) = true := closedR_map State.closed la
  have rb : closedR (lb.map State.cells) = true := closedR_map State.closed lb
  unfold c_r7_SameBuffer
  dsimp only [Buf.cells] at *
  by_cases h1 : fa = fb
  · by_cases h2 : la.length = lb.length
    · have h2' : ((la.length : Int) = (lb.length : Int)) := by omega
      simp only [go_sem, reduceCtorEq, Nat.reduceEqDiff, Nat.reduceAdd, Nat.reduceSub, Nat.reduceMul, Nat.reduceLeDiff, Int.reduceEq, Int.reduceLT, Int.reduceLE, Int.reduceAdd, Int.reduceMul, Int.reduceSub, Int.reduceNeg, Int.reduceToNat, reduceIte, Nat.reduceLT, ra, rb, h1, statesC, List.length_map, h2']
      have loop : ∀ (ra rb pa pb : List State) (e : Env) (H : Heap), la = pa ++ ra → lb = pb ++ rb → ra.length = rb.length → pa.length = pb.length → e 2 = .c (.fp [.int .i64 fb, statesC la] 0) → e 3 = .c (.fp [.int .i64 fb, statesC lb] 0) → e 5 = iC pa.length → pa = pb →
          Run (progT Tryz.prog T) ⟨[.tmp 4], fun u E => viewA E u = some (bC (decide (la = lb)))⟩ [.loop r7_SameBuffer_L0, .blk 0, .code r7_SameBuffer_K1] e H := by
        intro ra
        induction ra with
        | nil =>
          intro rb pa pb e H p1 p2 hl1 hl2 e2 e3 e5 hpp
          have hrb : rb = [] := List.eq_nil_of_length_eq_zero hl1.symm
          have hc := not_lt_at (f := State.cells) p1
          simp only [List.length_map] at hc
          refine run_again ?_
          conv => enter [3, 1]; unfold r7_SameBuffer_L0
          simp only [go_sem, reduceCtorEq, Nat.reduceEqDiff, Nat.reduceAdd, Nat.reduceSub, Nat.reduceMul, Nat.reduceLeDiff, Int.reduceEq, Int.reduceLT, Int.reduceLE, Int.reduceAdd, Int.reduceMul, Int.reduceSub, Int.reduceNeg, Int.reduceToNat, reduceIte, Nat.reduceLT, e2, e3, e5, statesC, List.length_map, hc]
          unfold r7_SameBuffer_K1
          simp only [go_sem, reduceCtorEq, Nat.reduceEqDiff, Nat.reduceAdd, Nat.reduceSub, Nat.reduceMul, Nat.reduceLeDiff, Int.reduceEq, Int.reduceLT, Int.reduceLE, Int.reduceAdd, Int.reduceMul, Int.reduceSub, Int.reduceNeg, Int.reduceToNat, reduceIte, Nat.reduceLT]
          have : la = lb := by rw [p1, p2, hpp, hrb]
          simp [viewA, viewFn, viewC, viewFs, viewCs, viewAs, closedC, closedCs, this]
        | cons x ra ih =>
          intro rb pa pb e H p1 p2 hl1 hl2 e2 e3 e5 hpp
          cases rb with
          | nil => simp at hl1
          | cons y rb =>
            have hc := lt_at (f := State.cells) p1
            simp only [List.length_map] at hc
            have g1 := map_at' (f := State.cells) p1
            have g2 := map_at' (f := State.cells) p2
            rw [← hl2] at g2
            have hn := next_at p1 hmax
            refine run_again ?_
            conv => enter [3, 1]; unfold r7_SameBuffer_L0
            simp only [go_sem, reduceCtorEq, Nat.reduceEqDiff, Nat.reduceAdd, Nat.reduceSub, Nat.reduceMul, Nat.reduceLeDiff, Int.reduceEq, Int.reduceLT, Int.reduceLE, Int.reduceAdd, Int.reduceMul, Int.reduceSub, Int.reduceNeg, Int.reduceToNat, reduceIte, Nat.reduceLT, e2, e3, e5, statesC, List.length_map, hc, g1, g2]
            refine callW_pure (r7_Same_ok x y) ?_
            by_cases hxy : x = y
            · subst hxy
              simp only [go_sem, reduceCtorEq, Nat.reduceEqDiff, Nat.reduceAdd, Nat.reduceSub, Nat.reduceMul, Nat.reduceLeDiff, Int.reduceEq, Int.reduceLT, Int.reduceLE, Int.reduceAdd, Int.reduceMul, Int.reduceSub, Int.reduceNeg, Int.reduceToNat, reduceIte, Nat.reduceLT, e5, hn]
              refine ih rb (pa ++ [x]) (pb ++ [x]) _ _ (by simp [p1]) (by simp [p2]) (by simpa using hl1) (by simpa using hl2) ?_ ?_ ?_ (by rw [hpp])
              all_goals simp only [go_sem, reduceCtorEq, Nat.reduceEqDiff, Nat.reduceAdd, Nat.reduceSub, Nat.reduceMul, Nat.reduceLeDiff, Int.reduceEq, Int.reduceLT, Int.reduceLE, Int.reduceAdd, Int.reduceMul, Int.reduceSub, Int.reduceNeg, Int.reduceToNat, reduceIte, Nat.reduceLT, e2, e3, statesC, hn]
            · simp only [go_sem, reduceCtorEq, Nat.reduceEqDiff, Nat.reduceAdd, Nat.reduceSub, Nat.reduceMul, Nat.reduceLeDiff, Int.reduceEq, Int.reduceLT, Int.reduceLE, Int.reduceAdd, Int.reduceMul, Int.reduceSub, Int.reduceNeg, Int.reduceToNat, reduceIte, Nat.reduceLT, hxy]
              have : la ≠ lb := fun e => by
                rw [p1, p2, hpp] at e
                exact hxy (List.cons.inj (List.append_cancel_left e)).1
              simp [viewA, viewFn, viewC, viewFs, viewCs, viewAs, closedC, closedCs, this]
      refine loop la lb [] [] _ _ rfl rfl h2 rfl ?_ ?_ ?_ rfl
      all_goals simp only [go_sem, reduceCtorEq, Nat.reduceEqDiff, Nat.reduceAdd, Nat.reduceSub, Nat.reduceMul, Nat.reduceLeDiff, Int.reduceEq, Int.reduceLT, Int.reduceLE, Int.reduceAdd, Int.reduceMul, Int.reduceSub, Int.reduceNeg, Int.reduceToNat, reduceIte, Nat.reduceLT, statesC, List.length_nil, Int.natCast_zero]
    · have h2' : ¬ ((la.length : Int) = (lb.length : Int)) := by omega
      have h3 : ¬ la = lb := fun e => h2 (by rw [e])
      simp only [go_sem, reduceCtorEq, Nat.reduceEqDiff, Nat.reduceAdd, Nat.reduceSub, Nat.reduceMul, Nat.reduceLeDiff, Int.reduceEq, Int.reduceLT, Int.reduceLE, Int.reduceAdd, Int.reduceMul, Int.reduceSub, Int.reduceNeg, Int.reduceToNat, reduceIte, Nat.reduceLT, ra, rb, h1, statesC, List.length_map, h2']
      simp [viewA, viewFn, viewC, viewFs, viewCs, viewAs, closedC, closedCs, h3]
  · simp only [go_sem, reduceCtorEq, Nat.reduceEqDiff, Nat.reduceAdd, Nat.reduceSub, Nat.reduceMul, Nat.reduceLeDiff, Int.reduceEq, Int.reduceLT, Int.reduceLE, Int.reduceAdd, Int.reduceMul, Int.reduceSub, Int.reduceNeg, Int.reduceToNat, reduceIte, Nat.reduceLT, ra, rb, h1, statesC]
    simp [viewA, viewFn, viewC, viewFs, viewCs, viewAs, closedC, closedCs, h1]

end Go.Proofs.YtnccbccnjjachaaGreat.Eng
