/- Contracts of slices.Clone at states and facts, and of buffer.copied. No statement of the seat is proved here. -/
import Derived.Test.YtnccbccnjjachaaGreatZDoR
import Derived.Test.YtnccbccnjjachaaGreatZBufR
import Derived.Test.YtnccbccnjjachaaGreatZPartF
import Derived.Test.YtnccbccnjjachaaGreatZLitC
namespace Go.Proofs.YtnccbccnjjachaaGreat.Eng
open Go
set_option linter.unusedVariables false
set_option linter.unusedSimpArgs false

/-- A clone of states: a block of its own. -/
theorem slices_Clone_State_at {x : Cell} {rows : List (List Cell)} {H : Heap} (hr : H.rowsOf x = some rows) (hf : fitsSz 2 x = true) (hn : evNil true x .nilS = some false) (h0 : rows ≠ []) (hs : rows.length ≤ 1000000) :
    CallSound Tryz.prog 16 [.c x] H (.c (.slc H.length 0 rows.length 2 false)) (H ++ [{ sz := 2, rows := rows, own := true, live := true }]) := by
  refine sound_of mixed is_slices_Clone_State fun T => ?_
  unfold c_slices_Clone_State
  have ha : vAppZ 2 48 (.c (.zer 2)) (.c x) H = some (.c (.slc H.length 0 rows.length 2 false), H ++ [{ sz := 2, rows := rows }]) := by
    simp only [vAppZ, evApp, hr, hf, if_true]
    rw [if_neg (by intro e; exact h0 (List.eq_nil_of_length_eq_zero e)), if_pos (by omega)]
  cases x with
  | slc b o n sz z => simp only [go_sem, reduceCtorEq, Nat.reduceEqDiff, Nat.reduceAdd, Nat.reduceSub, Nat.reduceMul, Nat.reduceLeDiff, Int.reduceEq, Int.reduceLT, Int.reduceLE, Int.reduceAdd, Int.reduceMul, Int.reduceSub, Int.reduceNeg, Int.reduceToNat, reduceIte, Nat.reduceLT, bne_self_eq_false, ha]
  | lst sz r =>
    cases r with
    | nil => simp [evNil] at hn
    | cons y r => simp only [go_sem, reduceCtorEq, Nat.reduceEqDiff, Nat.reduceAdd, Nat.reduceSub, Nat.reduceMul, Nat.reduceLeDiff, Int.reduceEq, Int.reduceLT, Int.reduceLE, Int.reduceAdd, Int.reduceMul, Int.reduceSub, Int.reduceNeg, Int.reduceToNat, reduceIte, Nat.reduceLT, bne_self_eq_false, ha]
  | emp sz =>
    simp [Heap.rowsOf] at hr
    exact absurd hr.symm (by simpa using h0)
  | _ => simp [evNil, fitsSz, Heap.rowsOf] at hn hf hr

theorem slices_Clone_State_ok (l : List State) (hs : Sm l) : Pr 16 [.c (statesC l)] (.c (statesC l)) := by
  by_cases h0 : l = []
  · subst h0
    intro H
    refine CallSound.empty (pre := []) (post := []) ?_ ?_
    · refine Pure.wkr (v := .c .nilS) (pure_of mixed is_slices_Clone_State rfl fun hl T => ?_) (.c (.nilS _)) H
      unfold c_slices_Clone_State
      simp only [go_sem, reduceCtorEq, Nat.reduceEqDiff, Nat.reduceAdd, Nat.reduceSub, Nat.reduceMul, Nat.reduceLeDiff, Int.reduceEq, Int.reduceLT, Int.reduceLE, Int.reduceAdd, Int.reduceMul, Int.reduceSub, Int.reduceNeg, Int.reduceToNat, reduceIte, Nat.reduceLT, bne_self_eq_false]
      refine condW_true ?_
      simp only [go_sem, reduceCtorEq, Nat.reduceEqDiff, Nat.reduceAdd, Nat.reduceSub, Nat.reduceMul, Nat.reduceLeDiff, Int.reduceEq, Int.reduceLT, Int.reduceLE, Int.reduceAdd, Int.reduceMul, Int.reduceSub, Int.reduceNeg, Int.reduceToNat, reduceIte, Nat.reduceLT]
      simp [viewA, viewFn, viewC, viewFs, viewCs, viewAs, closedC, closedCs]
    · refine Pure.wkr (v := .c (.zer 2)) (pure_of mixed is_slices_Clone_State rfl fun hl T => ?_) (.c (.zer _)) H
      unfold c_slices_Clone_State
      have ha : vAppZ 2 48 (.c (.zer 2)) (.c (.emp 2)) [] = some (.c (.zer 2), []) := rfl
      simp only [go_sem, reduceCtorEq, Nat.reduceEqDiff, Nat.reduceAdd, Nat.reduceSub, Nat.reduceMul, Nat.reduceLeDiff, Int.reduceEq, Int.reduceLT, Int.reduceLE, Int.reduceAdd, Int.reduceMul, Int.reduceSub, Int.reduceNeg, Int.reduceToNat, reduceIte, Nat.reduceLT, bne_self_eq_false, ha]
      simp [viewA, viewFn, viewC, viewFs, viewCs, viewAs, closedC, closedCs]
  · have hlen : (l.map State.cells).length = l.length := by simp
    have hne : l.map State.cells ≠ [] := by simpa using h0
    have h1 := slices_Clone_State_at (x := statesC l) (rows := l.map State.cells) (H := []) rfl rfl (by
      unfold statesC
      cases h : l.map State.cells with
      | nil => exact absurd h hne
      | cons => rfl) hne (by rw [hlen]; exact hs)
    refine h1.pure (by simp [closedAs, closedA, closed_statesC]) ?_
    simp only [viewA, viewFn, viewC]
    have ht : (l.map State.cells).take l.length = l.map State.cells := List.take_of_length_le (by simp)
    have hc : closedR (l.map State.cells) = true := closedR_map State.closed l
    simp [hc, h0, statesC, ht]

theorem slices_Clone_Fact_ok (l : List Fact) (hs : Sm l) : Pr 31 [.c (factsC l)] (.c (factsC l)) := by
  by_cases h0 : l = []
  · subst h0
    intro H
    refine CallSound.empty (pre := []) (post := []) ?_ ?_
    · refine Pure.wkr (v := .c .nilS) (pure_of mixed is_slices_Clone_Fact rfl fun hl T => ?_) (.c (.nilS _)) H
      unfold c_slices_Clone_Fact
      simp only [go_sem, reduceCtorEq, Nat.reduceEqDiff, Nat.reduceAdd, Nat.reduceSub, Nat.reduceMul, Nat.reduceLeDiff, Int.reduceEq, Int.reduceLT, Int.reduceLE, Int.reduceAdd, Int.reduceMul, Int.reduceSub, Int.reduceNeg, Int.reduceToNat, reduceIte, Nat.reduceLT, bne_self_eq_false]
      refine condW_true ?_
      simp only [go_sem, reduceCtorEq, Nat.reduceEqDiff, Nat.reduceAdd, Nat.reduceSub, Nat.reduceMul, Nat.reduceLeDiff, Int.reduceEq, Int.reduceLT, Int.reduceLE, Int.reduceAdd, Int.reduceMul, Int.reduceSub, Int.reduceNeg, Int.reduceToNat, reduceIte, Nat.reduceLT]
      simp [viewA, viewFn, viewC, viewFs, viewCs, viewAs, closedC, closedCs]
    · refine Pure.wkr (v := .c (.zer 6)) (pure_of mixed is_slices_Clone_Fact rfl fun hl T => ?_) (.c (.zer _)) H
      unfold c_slices_Clone_Fact
      have ha : vAppZ 6 64 (.c (.zer 6)) (.c (.emp 6)) [] = some (.c (.zer 6), []) := rfl
      simp only [go_sem, reduceCtorEq, Nat.reduceEqDiff, Nat.reduceAdd, Nat.reduceSub, Nat.reduceMul, Nat.reduceLeDiff, Int.reduceEq, Int.reduceLT, Int.reduceLE, Int.reduceAdd, Int.reduceMul, Int.reduceSub, Int.reduceNeg, Int.reduceToNat, reduceIte, Nat.reduceLT, bne_self_eq_false, ha]
      simp [viewA, viewFn, viewC, viewFs, viewCs, viewAs, closedC, closedCs]
  · refine (show CallSound Tryz.prog 31 [.c (factsC l)] [] (.c (.slc 0 0 l.length 6 false)) ([] ++ [{ sz := 6, rows := l.map Fact.cells, own := true, live := true }]) from ?_).pure (by simp [closedAs, closedA, closed_factsC]) ?_
    · refine sound_of mixed is_slices_Clone_Fact fun T => ?_
      unfold c_slices_Clone_Fact
      dsimp only [factsC]
      have hn : (l.map Fact.cells).length = l.length := by simp
      have h1 : l.map Fact.cells ≠ [] := by simpa using h0
      rw [← hn]
      have hs' : (l.map Fact.cells).length ≤ 1000000 := by rw [hn]; exact hs
      generalize l.map Fact.cells = rows at h1 hs'
      cases rows with
      | nil => exact absurd rfl h1
      | cons x rows =>
        have ha : vAppZ 6 64 (.c (.zer 6)) (.c (.lst 6 (x :: rows))) [] = some (.c (.slc 0 0 (x :: rows).length 6 false), [{ sz := 6, rows := x :: rows }]) := by
          simp only [vAppZ, evApp, Heap.rowsOf, fitsSz, beq_self_eq_true, if_true]
          rw [if_neg (by simp), if_pos (by omega)]
          simp
        simp only [go_sem, reduceCtorEq, Nat.reduceEqDiff, Nat.reduceAdd, Nat.reduceSub, Nat.reduceMul, Nat.reduceLeDiff, Int.reduceEq, Int.reduceLT, Int.reduceLE, Int.reduceAdd, Int.reduceMul, Int.reduceSub, Int.reduceNeg, Int.reduceToNat, reduceIte, Nat.reduceLT, bne_self_eq_false, ha]
    · simp only [viewA, viewFn, viewC]
      have ht : (l.map Fact.cells).take l.length = l.map Fact.cells := List.take_of_length_le (by simp)
      simp [closed_facts, h0, factsC, ht]

/-- States in memory of their own: whatever names them. -/
theorem buffer_copied_run {x : Cell} {l : List State} {H : Heap} (hr : H.rowsOf x = some (l.map State.cells)) (hf : fitsSz 2 x = true) (hn : evNil true x .nilS = some false) (h0 : l ≠ []) (hs : Sm l) (hz : ∀ s ∈ l, Sm s.seen ∧ Sm s.facts)
    (T : Nat → Option AFun) (p : AVal → Heap → Prop)
    (hp : ∀ G, H <+: G → G[H.length]? = some { sz := 2, rows := l.map State.cells, own := true, live := true } → p (.c (.slc H.length 0 l.length 2 false)) G) :
    Run (progT Tryz.prog T) ⟨c_buffer_copied.res, p⟩ [.code c_buffer_copied.body] (initEnv [.c x]) H := by
  have hlen : (l.map State.cells).length = l.length := by simp
  have hmax : l.length ≤ maxLen := by unfold maxLen; unfold Sm at hs; omega
  have hcl := slices_Clone_State_at hr hf hn (by simpa using h0) (by rw [hlen]; exact hs)
  rw [hlen] at hcl
  unfold c_buffer_copied
  simp only [go_sem, reduceCtorEq, Nat.reduceEqDiff, Nat.reduceAdd, Nat.reduceSub, Nat.reduceMul, Nat.reduceLeDiff, Int.reduceEq, Int.reduceLT, Int.reduceLE, Int.reduceAdd, Int.reduceMul, Int.reduceSub, Int.reduceNeg, Int.reduceToNat, reduceIte, Nat.reduceLT]
  refine callW_at hcl (fun h => by cases h) ?_
  simp only [go_sem, reduceCtorEq, Nat.reduceEqDiff, Nat.reduceAdd, Nat.reduceSub, Nat.reduceMul, Nat.reduceLeDiff, Int.reduceEq, Int.reduceLT, Int.reduceLE, Int.reduceAdd, Int.reduceMul, Int.reduceSub, Int.reduceNeg, Int.reduceToNat, reduceIte, Nat.reduceLT]
  have hG0 : (H ++ [{ sz := 2, rows := l.map State.cells, own := true, live := true }] : Heap)[H.length]? = some { sz := 2, rows := l.map State.cells, own := true, live := true } := by simp
  have hP0 : H <+: (H ++ [{ sz := 2, rows := l.map State.cells, own := true, live := true }] : Heap) := List.prefix_append _ _
  generalize (H ++ [{ sz := 2, rows := l.map State.cells, own := true, live := true }] : Heap) = G at hG0 hP0 ⊢
  have loop : ∀ (rest pre : List State) (e : Env) (G : Heap), l = pre ++ rest → H <+: G → G[H.length]? = some { sz := 2, rows := l.map State.cells, own := true, live := true } → e 3 = .c (.slc H.length 0 l.length 2 false) → e 8 = .c (.slc H.length 0 l.length 2 false) → e 9 = iC l.length → e 10 = iC pre.length →
      Run (progT Tryz.prog T) ⟨[.tmp 2], p⟩ [.loop buffer_copied_L0, .blk 0, .code buffer_copied_K1] e G := by
    intro rest
    induction rest with
    | nil =>
      intro pre e G hl hP hG h3 h8 h9 h10
      have hc : ¬ ((pre.length : Int) < (l.length : Int)) := by rw [hl]; simp
      refine run_again ?_
      conv => enter [3, 1]; unfold buffer_copied_L0
      simp only [go_sem, reduceCtorEq, Nat.reduceEqDiff, Nat.reduceAdd, Nat.reduceSub, Nat.reduceMul, Nat.reduceLeDiff, Int.reduceEq, Int.reduceLT, Int.reduceLE, Int.reduceAdd, Int.reduceMul, Int.reduceSub, Int.reduceNeg, Int.reduceToNat, reduceIte, Nat.reduceLT, h3, h8, h9, h10, hc]
      unfold buffer_copied_K1
      simp only [go_sem, reduceCtorEq, Nat.reduceEqDiff, Nat.reduceAdd, Nat.reduceSub, Nat.reduceMul, Nat.reduceLeDiff, Int.reduceEq, Int.reduceLT, Int.reduceLE, Int.reduceAdd, Int.reduceMul, Int.reduceSub, Int.reduceNeg, Int.reduceToNat, reduceIte, Nat.reduceLT, h3]
      exact hp G hP hG
    | cons s rest ih =>
      intro pre e G hl hP hG h3 h8 h9 h10
      have hpl : pre.length < l.length := by rw [hl]; simp
      have hc : ((pre.length : Int) < (l.length : Int)) := by omega
      have hx : ∀ G : Heap, vIx 2 (.c (.slc H.length 0 l.length 2 false)) (iC pre.length) G = some (.c (.ptr H.length pre.length 0), G) := fun G => vIx_slc hpl
      have hbl : H.length < G.length := (List.getElem?_eq_some_iff.1 hG).1
      have hat : (l.map State.cells)[pre.length]? = some s.cells := by rw [hl]; simp
      have hrow : Heap.row G H.length pre.length = some s.cells := by rw [row_of hG rfl]; exact hat
      have hmine : Heap.mine G H.length = true := mine_of hG rfl rfl
      have hset : (l.map State.cells).set pre.length s.cells = l.map State.cells := by
        obtain ⟨h1, h2⟩ := List.getElem?_eq_some_iff.1 hat
        rw [← h2]; exact List.set_getElem_self h1
      have hput : Heap.put G H.length pre.length s.cells = G := by
        rw [put_of hG]
        simp only [hset]
        obtain ⟨h1, h2⟩ := List.getElem?_eq_some_iff.1 hG
        rw [← h2]; exact List.set_getElem_self h1
      have hsm : s ∈ l := by rw [hl]; simp
      obtain ⟨z1, z2⟩ := hz s hsm
      have hn' := next_at hl hmax
      have e1 : (1 : Int) = ((1 : Nat) : Int) := rfl
      obtain ⟨seen, facts⟩ := s
      simp only [State.cells, runsC, factsC] at hrow hput
      refine run_again ?_
      conv => enter [3, 1]; unfold buffer_copied_L0
      simp only [go_sem, reduceCtorEq, Nat.reduceEqDiff, Nat.reduceAdd, Nat.reduceSub, Nat.reduceMul, Nat.reduceLeDiff, Int.reduceEq, Int.reduceLT, Int.reduceLE, Int.reduceAdd, Int.reduceMul, Int.reduceSub, Int.reduceNeg, Int.reduceToNat, reduceIte, Nat.reduceLT, h3, h8, h9, h10, hc, hx, hrow]
      refine callW_pure (slices_Clone_Run_ok seen z1) ?_
      simp only [go_sem, reduceCtorEq, Nat.reduceEqDiff, Nat.reduceAdd, Nat.reduceSub, Nat.reduceMul, Nat.reduceLeDiff, Int.reduceEq, Int.reduceLT, Int.reduceLE, Int.reduceAdd, Int.reduceMul, Int.reduceSub, Int.reduceNeg, Int.reduceToNat, reduceIte, Nat.reduceLT, h3, h10]
      refine callW_pure (slices_Clone_Fact_ok facts z2) ?_
      simp only [go_sem, reduceCtorEq, Nat.reduceEqDiff, Nat.reduceAdd, Nat.reduceSub, Nat.reduceMul, Nat.reduceLeDiff, Int.reduceEq, Int.reduceLT, Int.reduceLE, Int.reduceAdd, Int.reduceMul, Int.reduceSub, Int.reduceNeg, Int.reduceToNat, reduceIte, Nat.reduceLT, h3, h10, hx, hrow, hbl, hmine, hput, hn']
      refine ih (pre ++ [⟨seen, facts⟩]) _ _ (by simp [hl]) ?_ ?_ ?_ ?_ ?_ ?_
      · exact hP.trans (List.prefix_append _ _)
      · rw [get_prev hbl]; exact hG
      all_goals simp only [go_sem, reduceCtorEq, Nat.reduceEqDiff, Nat.reduceAdd, Nat.reduceSub, Nat.reduceMul, Nat.reduceLeDiff, Int.reduceEq, Int.reduceLT, Int.reduceLE, Int.reduceAdd, Int.reduceMul, Int.reduceSub, Int.reduceNeg, Int.reduceToNat, reduceIte, Nat.reduceLT, h3, h8, h9, hn']
  refine loop l [] _ G rfl hP0 hG0 ?_ ?_ ?_ ?_
  all_goals simp only [go_sem, reduceCtorEq, Nat.reduceEqDiff, Nat.reduceAdd, Nat.reduceSub, Nat.reduceMul, Nat.reduceLeDiff, Int.reduceEq, Int.reduceLT, Int.reduceLE, Int.reduceAdd, Int.reduceMul, Int.reduceSub, Int.reduceNeg, Int.reduceToNat, reduceIte, Nat.reduceLT, List.length_nil, Int.natCast_zero]

end Go.Proofs.YtnccbccnjjachaaGreat.Eng
