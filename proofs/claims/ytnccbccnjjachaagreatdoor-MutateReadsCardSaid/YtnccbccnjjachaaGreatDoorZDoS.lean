/- Contracts of the document's answer: a deed. No statement of the seat is proved here. -/
import Derived.Test.YtnccbccnjjachaaGreatDoorZDoR
namespace Go.Proofs.YtnccbccnjjachaaGreatDoor.Eng
open Go
set_option linter.unusedVariables false
set_option linter.unusedSimpArgs false

def doneC (x : State × Int) : AVal := .agg [runsC x.1.seen, factsC x.1.facts, .int .i64 x.2]
theorem told_done {H : Heap} (x : State × Int) : viewW H (doneC x) (doneC x) := ⟨_, by simp [doneC, viewA, viewFn, viewC, viewFs, viewCs, viewAs, closedC, closedCs, runsC, factsC, closed_runs, closed_facts], .same _⟩
theorem told_none {H : Heap} (n : Int) : viewW H (.agg [.nilS, .nilS, .int .i64 n]) (doneC (⟨[], []⟩, n)) :=
  ⟨.agg [.nilS, .nilS, .int .i64 n], by simp [viewA, viewFn, viewC, viewFs, viewCs, viewAs, closedC, closedCs], .agg (.cons (.nilS _) (.cons (.nilS _) (.cons (.same _) .nil)))⟩
theorem told_nofact {H : Heap} (l : List Rn) (n : Int) : viewW H (.agg [runsC l, .nilS, .int .i64 n]) (doneC (⟨l, []⟩, n)) :=
  ⟨.agg [runsC l, .nilS, .int .i64 n], by simp [viewA, viewFn, viewC, viewFs, viewCs, viewAs, closedC, closedCs, runsC, closed_runs], .agg (.cons (.same _) (.cons (.nilS _) (.cons (.same _) .nil)))⟩

set_option maxHeartbeats 4000000 in
theorem r7_Do_loop (s : State) (dev : Int) (kd : Int) (ky it : ByteArray) (on : Int) (hg : Good s) (hs1 : s.seen.length ≤ 100000) (hs2 : s.facts.length ≤ 1000) (T : Nat → Option AFun) (hlen : s.facts.length ≤ maxLen) :
    ∀ (rest pre : List Fact) (n : Int) (e : Env) (H : Heap), badOp dev ⟨kd, ky, it, on⟩ = false → s.facts = pre ++ rest → e 1 = iC dev → e 3 = .c (.fp s.cells 0) → e 5 = .c (.fp (OpR.cells ⟨kd, ky, it, on⟩) 0) → e 6 = .c (.ptr 0 0 0) → e 9 = iC n → e 10 = iC pre.length →
      Acc 2 (((pre.filter (goesF dev ⟨kd, ky, it, on⟩)).map Fact.dot).map Dot.cells) (e 8) ({ sz := 3, rows := [[.nilS, .nilS, .int .i64 0]] } :: H) → sumFrom dev ⟨kd, ky, it, on⟩ n rest = sumFrom dev ⟨kd, ky, it, on⟩ on s.facts →
    Run (progT Tryz.prog T) ⟨[.cell 6 true 3], fun u E => viewW E u (doneC (doL s dev ⟨kd, ky, it, on⟩))⟩ [.loop r7_Do_L0, .blk 0, .code r7_Do_K1] e ({ sz := 3, rows := [[.nilS, .nilS, .int .i64 0]] } :: H) := by
  intro rest
  induction rest with
  | nil =>
    intro pre n e H hbad hp h1 h3 h5 h6 h9 h10 hacc hm
    have hc := not_lt_at (f := Fact.cells) hp
    refine run_again ?_
    conv => enter [3, 1]; unfold r7_Do_L0
    simp only [go_sem, reduceCtorEq, Nat.reduceEqDiff, Nat.reduceAdd, Nat.reduceSub, Nat.reduceMul, Nat.reduceLeDiff, Int.reduceEq, Int.reduceLT, Int.reduceLE, Int.reduceAdd, Int.reduceMul, Int.reduceSub, Int.reduceNeg, Int.reduceToNat, reduceIte, Nat.reduceLT, h1, h3, h5, h6, h9, h10, hc]
    rw [List.append_nil] at hp
    subst hp
    obtain ⟨hd0, hd8, hk1, hk5⟩ := badOp_dev hbad
    simp only at hk1 hk5
    unfold r7_Do_K1
    have hl8 := fun H' => hacc.len (H' := H')
    have hgl : (goneL s dev ⟨kd, ky, it, on⟩).length ≤ 1000 := Nat.le_trans (List.length_filter_le _ _) hs2
    have hz0 : ((((s.facts.filter (goesF dev ⟨kd, ky, it, on⟩)).map Fact.dot).map Dot.cells).length : Int) = 0 ↔ goneL s dev ⟨kd, ky, it, on⟩ = [] := by
      unfold goneL
      rw [List.length_map, List.length_map, ← List.length_eq_zero_iff]; omega
    generalize hH0 : ({ sz := 3, rows := [[.nilS, .nilS, .int .i64 0]] } :: H : Heap) = H0 at hacc ⊢
    have h00 : H0[0]? = some { sz := 3, rows := [[.nilS, .nilS, .int .i64 0]] } := by rw [← hH0]; rfl
    clear hH0
    have hpos := (List.getElem?_eq_some_iff.1 h00).1
    have nb0 : NB (e 8) 0 := hacc.nb_sz h00 (by simp)
    by_cases h35 : kd = 3 ∨ kd = 5
    · have hmk : makes ⟨kd, ky, it, on⟩ = false := by rcases h35 with rfl | rfl <;> simp [makes]
      by_cases hz : goneL s dev ⟨kd, ky, it, on⟩ = []
      · have hz1 := hz0.2 hz
        have hdo : doL s dev ⟨kd, ky, it, on⟩ = (⟨[], []⟩, 2) := by unfold doL; rw [if_neg (by simp [hbad]), if_pos ⟨hz, hmk⟩]
        rw [hdo]
        rcases h35 with rfl | rfl
        all_goals
          simp only [go_sem, reduceCtorEq, Nat.reduceEqDiff, Nat.reduceAdd, Nat.reduceSub, Nat.reduceMul, Nat.reduceLeDiff, Int.reduceEq, Int.reduceLT, Int.reduceLE, Int.reduceAdd, Int.reduceMul, Int.reduceSub, Int.reduceNeg, Int.reduceToNat, reduceIte, Nat.reduceLT, hl8, hz1, h5, h6, box_row h00, box_mine h00, box_put h00, box_row (set_get h00)]
          exact told_none 2
      · have hz1 : ¬ ((((s.facts.filter (goesF dev ⟨kd, ky, it, on⟩)).map Fact.dot).map Dot.cells).length : Int) = 0 := fun h => hz (hz0.1 h)
        have hdl : deltaL s dev ⟨kd, ky, it, on⟩ = ⟨dotsL ((goneL s dev ⟨kd, ky, it, on⟩).map Fact.dot), []⟩ := by unfold deltaL; rw [hmk]; rfl
        have hdg : Good (deltaL s dev ⟨kd, ky, it, on⟩) := delta_good hg hbad (by rw [hmk]; rfl)
        have hdn := delta_len (s := s) (dev := dev) (o := ⟨kd, ky, it, on⟩)
        have hdo : doL s dev ⟨kd, ky, it, on⟩ = if 400 < (joinL s (deltaL s dev ⟨kd, ky, it, on⟩)).facts.length then (⟨[], []⟩, 4) else (deltaL s dev ⟨kd, ky, it, on⟩, 0) := by
          unfold doL; rw [if_neg (by simp [hbad]), if_neg (fun h => hz h.1), if_neg (by simp [hmk])]
        obtain ⟨ds, hds⟩ : ∃ ds, ds = dotsL ((goneL s dev ⟨kd, ky, it, on⟩).map Fact.dot) := ⟨_, rfl⟩
        have hof : Pr 38 [.c (dotsC ((goneL s dev ⟨kd, ky, it, on⟩).map Fact.dot))] (.c (runsC ds)) := by rw [hds]; exact r7_Of_ok _ (by simp; omega)
        rw [hdl, ← hds] at hdg hdn hdo
        rw [hdo]
        have hj := r7_Join_ok s ⟨ds, []⟩ hg hdg (by have := hdn.1; simp only at this ⊢; omega) (by have := hdn.2; simp only at this ⊢; omega)
        generalize hds2 : joinL s ⟨ds, []⟩ = js at hj ⊢
        clear hdl hdo hdg hdn hds hds2
        rcases h35 with rfl | rfl
        all_goals
          simp only [go_sem, reduceCtorEq, Nat.reduceEqDiff, Nat.reduceAdd, Nat.reduceSub, Nat.reduceMul, Nat.reduceLeDiff, Int.reduceEq, Int.reduceLT, Int.reduceLE, Int.reduceAdd, Int.reduceMul, Int.reduceSub, Int.reduceNeg, Int.reduceToNat, reduceIte, Nat.reduceLT, hl8, hz1, h5, h6]
          refine Acc.fz_keep (sz := 2) (by simp only [go_sem, reduceCtorEq, Nat.reduceEqDiff, Nat.reduceAdd, Nat.reduceSub, Nat.reduceMul, Nat.reduceLeDiff, Int.reduceEq, Int.reduceLT, Int.reduceLE, Int.reduceAdd, Int.reduceMul, Int.reduceSub, Int.reduceNeg, Int.reduceToNat, reduceIte, Nat.reduceLT]; exact hacc.snoc) fun e' H' k8 kc kp kb kl => ?_
          have k3 : e' 3 = .c (.fp s.cells 0) := kc 3 _ (by simp only [go_sem, reduceCtorEq, Nat.reduceEqDiff, Nat.reduceAdd, Nat.reduceSub, Nat.reduceMul, Nat.reduceLeDiff, Int.reduceEq, Int.reduceLT, Int.reduceLE, Int.reduceAdd, Int.reduceMul, Int.reduceSub, Int.reduceNeg, Int.reduceToNat, reduceIte, Nat.reduceLT, h3]) (by simp [closedA, closedC, State.closed]) (by simp)
          have k6 := kp 6 0 0 0 (by simp only [go_sem, reduceCtorEq, Nat.reduceEqDiff, Nat.reduceAdd, Nat.reduceSub, Nat.reduceMul, Nat.reduceLeDiff, Int.reduceEq, Int.reduceLT, Int.reduceLE, Int.reduceAdd, Int.reduceMul, Int.reduceSub, Int.reduceNeg, Int.reduceToNat, reduceIte, Nat.reduceLT, h6]) (by simp only [go_sem, reduceCtorEq, Nat.reduceEqDiff, Nat.reduceAdd, Nat.reduceSub, Nat.reduceMul, Nat.reduceLeDiff, Int.reduceEq, Int.reduceLT, Int.reduceLE, Int.reduceAdd, Int.reduceMul, Int.reduceSub, Int.reduceNeg, Int.reduceToNat, reduceIte, Nat.reduceLT]; exact nb0)
          have k11 := kp 11 H0.length 0 0 (by simp only [go_sem, reduceCtorEq, Nat.reduceEqDiff, Nat.reduceAdd, Nat.reduceSub, Nat.reduceMul, Nat.reduceLeDiff, Int.reduceEq, Int.reduceLT, Int.reduceLE, Int.reduceAdd, Int.reduceMul, Int.reduceSub, Int.reduceNeg, Int.reduceToNat, reduceIte, Nat.reduceLT]) (by simp only [go_sem, reduceCtorEq, Nat.reduceEqDiff, Nat.reduceAdd, Nat.reduceSub, Nat.reduceMul, Nat.reduceLeDiff, Int.reduceEq, Int.reduceLT, Int.reduceLE, Int.reduceAdd, Int.reduceMul, Int.reduceSub, Int.reduceNeg, Int.reduceToNat, reduceIte, Nat.reduceLT]; exact hacc.nb_ge (Nat.le_refl _))
          have b0 := kb 0 _ (by rw [get_prev hpos]; exact h00) (by simp only [go_sem, reduceCtorEq, Nat.reduceEqDiff, Nat.reduceAdd, Nat.reduceSub, Nat.reduceMul, Nat.reduceLeDiff, Int.reduceEq, Int.reduceLT, Int.reduceLE, Int.reduceAdd, Int.reduceMul, Int.reduceSub, Int.reduceNeg, Int.reduceToNat, reduceIte, Nat.reduceLT]; exact nb0)
          have b11 := kb H0.length _ get_last (by simp only [go_sem, reduceCtorEq, Nat.reduceEqDiff, Nat.reduceAdd, Nat.reduceSub, Nat.reduceMul, Nat.reduceLeDiff, Int.reduceEq, Int.reduceLT, Int.reduceLE, Int.reduceAdd, Int.reduceMul, Int.reduceSub, Int.reduceNeg, Int.reduceToNat, reduceIte, Nat.reduceLT]; exact hacc.nb_ge (Nat.le_refl _))
          clear kc kp kb
          simp only [go_sem, reduceCtorEq, Nat.reduceEqDiff, Nat.reduceAdd, Nat.reduceSub, Nat.reduceMul, Nat.reduceLeDiff, Int.reduceEq, Int.reduceLT, Int.reduceLE, Int.reduceAdd, Int.reduceMul, Int.reduceSub, Int.reduceNeg, Int.reduceToNat, reduceIte, Nat.reduceLT, k8]
          refine callW_pure hof ?_
          have c0 := set_get_ne (B' := { sz := 2, rows := [[runsC ds, .nilS]] }) b0 (b := H0.length) (by omega)
          have c11 := set_get (B' := { sz := 2, rows := [[runsC ds, .nilS]] }) b11
          simp only [go_sem, reduceCtorEq, Nat.reduceEqDiff, Nat.reduceAdd, Nat.reduceSub, Nat.reduceMul, Nat.reduceLeDiff, Int.reduceEq, Int.reduceLT, Int.reduceLE, Int.reduceAdd, Int.reduceMul, Int.reduceSub, Int.reduceNeg, Int.reduceToNat, reduceIte, Nat.reduceLT, k3, k6, k11, box_row b11, box_mine b11, box_put b11]
          simp only [runsC] at c0 c11
          simp only [go_sem, reduceCtorEq, Nat.reduceEqDiff, Nat.reduceAdd, Nat.reduceSub, Nat.reduceMul, Nat.reduceLeDiff, Int.reduceEq, Int.reduceLT, Int.reduceLE, Int.reduceAdd, Int.reduceMul, Int.reduceSub, Int.reduceNeg, Int.reduceToNat, reduceIte, Nat.reduceLT, box_row c11]
          refine callW_pure (hj.wk (.cons (.same _) (.cons (.agg (.cons (.same _) (.cons (.nilS _) .nil))) .nil))) ?_
          by_cases hlg : 400 < js.facts.length
          · have hlg' : (400 : Int) < ((js.facts.map Fact.cells).length : Int) := by simp; omega
            rw [if_pos hlg]
            simp only [go_sem, reduceCtorEq, Nat.reduceEqDiff, Nat.reduceAdd, Nat.reduceSub, Nat.reduceMul, Nat.reduceLeDiff, Int.reduceEq, Int.reduceLT, Int.reduceLE, Int.reduceAdd, Int.reduceMul, Int.reduceSub, Int.reduceNeg, Int.reduceToNat, reduceIte, Nat.reduceLT, hlg', k6, box_row c0, box_mine c0, box_put c0, box_row (set_get c0)]
            exact told_none 4
          · have hlg' : ¬ (400 : Int) < ((js.facts.map Fact.cells).length : Int) := by simp; omega
            rw [if_neg hlg]
            simp only [go_sem, reduceCtorEq, Nat.reduceEqDiff, Nat.reduceAdd, Nat.reduceSub, Nat.reduceMul, Nat.reduceLeDiff, Int.reduceEq, Int.reduceLT, Int.reduceLE, Int.reduceAdd, Int.reduceMul, Int.reduceSub, Int.reduceNeg, Int.reduceToNat, reduceIte, Nat.reduceLT, hlg', k6, k11, box_row c0, box_mine c0, box_put c0, box_row c11, box_row (set_get c0)]
            exact told_nofact _ 0
    · have hmk : makes ⟨kd, ky, it, on⟩ = true := by simp [makes]; omega
      obtain ⟨l0, l9⟩ := lastL_le (d := dev) hg.norm.right
      have wl : IntKind.wrap .i64 (lastL s.seen dev + 1) = lastL s.seen dev + 1 := wrap64 (by omega)
      have hn3 : ¬ kd = 3 := fun h => h35 (.inl h)
      have hn5 : ¬ kd = 5 := fun h => h35 (.inr h)
      have hlast := r7_Last_ok s.seen dev
      have hmf : madeF s dev ⟨kd, ky, it, on⟩ = ⟨dev, lastL s.seen dev + 1, ky, if kd = 4 then 3 else kd, if kd = 4 then emptyB else it, if kd = 4 then n else 0⟩ := by
        unfold madeF
        rw [← hm]
        rfl
      by_cases h4 : kd = 4
      · subst h4
        have hm4 : madeF s dev ⟨4, ky, it, on⟩ = ⟨dev, lastL s.seen dev + 1, ky, 3, emptyB, n⟩ := by rw [hmf]; simp
        obtain ⟨ds, hds⟩ : ∃ ds, ds = dotsL ((goneL s dev ⟨4, ky, it, on⟩).map Fact.dot ++ [(madeF s dev ⟨4, ky, it, on⟩).dot]) := ⟨_, rfl⟩
        have hof : Pr 38 [.c (dotsC ((goneL s dev ⟨4, ky, it, on⟩).map Fact.dot ++ [(madeF s dev ⟨4, ky, it, on⟩).dot]))] (.c (runsC ds)) := by rw [hds]; exact r7_Of_ok _ (by simp; omega)
        have hdl : deltaL s dev ⟨4, ky, it, on⟩ = ⟨ds, [madeF s dev ⟨4, ky, it, on⟩]⟩ := by unfold deltaL; rw [hmk, hds]; rfl
        have hdo : doL s dev ⟨4, ky, it, on⟩ = if largeF (madeF s dev ⟨4, ky, it, on⟩) = true then (⟨[], []⟩, 4) else if 400 < (joinL s (deltaL s dev ⟨4, ky, it, on⟩)).facts.length then (⟨[], []⟩, 4) else (deltaL s dev ⟨4, ky, it, on⟩, 0) := by
          unfold doL
          rw [if_neg (by simp [hbad]), if_neg (fun h => by rw [hmk] at h; cases h.2)]
          simp only [hmk, Bool.true_and]
        rw [hdo]
        by_cases hlf : largeF (madeF s dev ⟨4, ky, it, on⟩) = true
        · rw [if_pos hlf]
          rw [hm4] at hlf
          have hp2 : 0 < (H0.set 0 { sz := 3, rows := [[.nilS, .nilS, .int .i64 4]] }).length := by rw [List.length_set]; exact hpos
          by_cases hz1 : ((((s.facts.filter (goesF dev ⟨4, ky, it, on⟩)).map Fact.dot).map Dot.cells).length : Int) = 0
          all_goals
            simp only [go_sem, reduceCtorEq, Nat.reduceEqDiff, Nat.reduceAdd, Nat.reduceSub, Nat.reduceMul, Nat.reduceLeDiff, Int.reduceEq, Int.reduceLT, Int.reduceLE, Int.reduceAdd, Int.reduceMul, Int.reduceSub, Int.reduceNeg, Int.reduceToNat, reduceIte, Nat.reduceLT, hl8, hz1, h1, h3, h5, h6, h9]
            refine callW_pure hlast ?_
            simp only [go_sem, reduceCtorEq, Nat.reduceEqDiff, Nat.reduceAdd, Nat.reduceSub, Nat.reduceMul, Nat.reduceLeDiff, Int.reduceEq, Int.reduceLT, Int.reduceLE, Int.reduceAdd, Int.reduceMul, Int.reduceSub, Int.reduceNeg, Int.reduceToNat, reduceIte, Nat.reduceLT, h1, h3, h5, h6, h9, wl, hpos]
            by_cases x1 : 4503599627370496 < lastL s.seen dev + 1
            · simp only [go_sem, reduceCtorEq, Nat.reduceEqDiff, Nat.reduceAdd, Nat.reduceSub, Nat.reduceMul, Nat.reduceLeDiff, Int.reduceEq, Int.reduceLT, Int.reduceLE, Int.reduceAdd, Int.reduceMul, Int.reduceSub, Int.reduceNeg, Int.reduceToNat, reduceIte, Nat.reduceLT, x1, h6, hpos, box_row h00, box_mine h00, box_put h00, hp2, box_row (set_get h00)]
              exact told_none 4
            · 
              by_cases x2 : n < -1099511627776
              · simp only [go_sem, reduceCtorEq, Nat.reduceEqDiff, Nat.reduceAdd, Nat.reduceSub, Nat.reduceMul, Nat.reduceLeDiff, Int.reduceEq, Int.reduceLT, Int.reduceLE, Int.reduceAdd, Int.reduceMul, Int.reduceSub, Int.reduceNeg, Int.reduceToNat, reduceIte, Nat.reduceLT, x1, x2, h6, hpos, box_row h00, box_mine h00, box_put h00, hp2, box_row (set_get h00)]
                exact told_none 4
              · by_cases x3 : 1099511627776 < n
                · simp only [go_sem, reduceCtorEq, Nat.reduceEqDiff, Nat.reduceAdd, Nat.reduceSub, Nat.reduceMul, Nat.reduceLeDiff, Int.reduceEq, Int.reduceLT, Int.reduceLE, Int.reduceAdd, Int.reduceMul, Int.reduceSub, Int.reduceNeg, Int.reduceToNat, reduceIte, Nat.reduceLT, x1, x2, x3, h6, hpos, box_row h00, box_mine h00, box_put h00, hp2, box_row (set_get h00)]
                  exact told_none 4
                · exfalso; simp [largeF, x1, x2, x3] at hlf
        · rw [if_neg hlf]
          have hdg : Good (deltaL s dev ⟨4, ky, it, on⟩) := delta_good hg hbad (by rw [hmk, Bool.true_and]; simpa using hlf)
          have hdn := delta_len (s := s) (dev := dev) (o := ⟨4, ky, it, on⟩)
          rw [hm4] at hlf
          have hlf := Bool.eq_false_iff.2 hlf
          simp only [largeF, Bool.or_eq_false_iff] at hlf
          obtain ⟨⟨x1, x2⟩, x3⟩ := hlf
          have x1 := of_decide_eq_false x1
          have x2 := of_decide_eq_false x2
          have x3 := of_decide_eq_false x3
          rw [hdl, hm4] at hdg hdn ⊢
          rw [hm4, dotsC, List.map_append] at hof
          have hgl2 : (s.facts.filter (goesF dev ⟨4, ky, it, on⟩)).length ≤ 1000 := hgl
          have hj := r7_Join_ok s _ hg hdg (by have := hdn.1; simp only at this ⊢; omega) (by have := hdn.2; simp only at this ⊢; omega)
          generalize hds2 : joinL s _ = js at hj ⊢
          clear hdl hdo hdg hdn hds hds2
          by_cases hz1 : ((((s.facts.filter (goesF dev ⟨4, ky, it, on⟩)).map Fact.dot).map Dot.cells).length : Int) = 0
          all_goals
            simp only [go_sem, reduceCtorEq, Nat.reduceEqDiff, Nat.reduceAdd, Nat.reduceSub, Nat.reduceMul, Nat.reduceLeDiff, Int.reduceEq, Int.reduceLT, Int.reduceLE, Int.reduceAdd, Int.reduceMul, Int.reduceSub, Int.reduceNeg, Int.reduceToNat, reduceIte, Nat.reduceLT, hl8, hz1, h1, h3, h5, h6, h9]
            refine callW_pure hlast ?_
            simp only [go_sem, reduceCtorEq, Nat.reduceEqDiff, Nat.reduceAdd, Nat.reduceSub, Nat.reduceMul, Nat.reduceLeDiff, Int.reduceEq, Int.reduceLT, Int.reduceLE, Int.reduceAdd, Int.reduceMul, Int.reduceSub, Int.reduceNeg, Int.reduceToNat, reduceIte, Nat.reduceLT, h1, h3, h5, h6, h9, wl, x1, x2, x3]
            refine Acc.app_keep hacc.snoc.snoc (by simp; omega) fun v' H2 ha2 keep => ?_
            have b0 := keep 0 _ nb0 (by rw [get_prev (lt_snoc_of hpos ▸ trivial), get_prev hpos]; exact h00)
            have b11 := keep H0.length _ (hacc.nb_ge (Nat.le_refl _)) (by rw [get_prev (by simp)]; exact get_last)
            have b12 := keep (H0 ++ [_]).length _ (hacc.snoc.nb_ge (Nat.le_refl _)) get_last
            obtain ⟨b0, q0⟩ := b0
            obtain ⟨b11, q11⟩ := b11
            obtain ⟨b12, q12⟩ := b12
            simp only [go_sem, reduceCtorEq, Nat.reduceEqDiff, Nat.reduceAdd, Nat.reduceSub, Nat.reduceMul, Nat.reduceLeDiff, Int.reduceEq, Int.reduceLT, Int.reduceLE, Int.reduceAdd, Int.reduceMul, Int.reduceSub, Int.reduceNeg, Int.reduceToNat, reduceIte, Nat.reduceLT, h6, box_row b12, box_row b11, box_mine b11, box_put b11]
            refine Acc.fz_keep (sz := 2) (by simp only [go_sem, reduceCtorEq, Nat.reduceEqDiff, Nat.reduceAdd, Nat.reduceSub, Nat.reduceMul, Nat.reduceLeDiff, Int.reduceEq, Int.reduceLT, Int.reduceLE, Int.reduceAdd, Int.reduceMul, Int.reduceSub, Int.reduceNeg, Int.reduceToNat, reduceIte, Nat.reduceLT]; exact ha2.set_nb q11) fun e' H' k8 kc kp kb kl => ?_
            have k3 : e' 3 = .c (.fp s.cells 0) := kc 3 _ (by simp only [go_sem, reduceCtorEq, Nat.reduceEqDiff, Nat.reduceAdd, Nat.reduceSub, Nat.reduceMul, Nat.reduceLeDiff, Int.reduceEq, Int.reduceLT, Int.reduceLE, Int.reduceAdd, Int.reduceMul, Int.reduceSub, Int.reduceNeg, Int.reduceToNat, reduceIte, Nat.reduceLT, h3]) (by simp [closedA, closedC, State.closed]) (by simp)
            have k6 := kp 6 0 0 0 (by simp only [go_sem, reduceCtorEq, Nat.reduceEqDiff, Nat.reduceAdd, Nat.reduceSub, Nat.reduceMul, Nat.reduceLeDiff, Int.reduceEq, Int.reduceLT, Int.reduceLE, Int.reduceAdd, Int.reduceMul, Int.reduceSub, Int.reduceNeg, Int.reduceToNat, reduceIte, Nat.reduceLT, h6]) (by simp only [go_sem, reduceCtorEq, Nat.reduceEqDiff, Nat.reduceAdd, Nat.reduceSub, Nat.reduceMul, Nat.reduceLeDiff, Int.reduceEq, Int.reduceLT, Int.reduceLE, Int.reduceAdd, Int.reduceMul, Int.reduceSub, Int.reduceNeg, Int.reduceToNat, reduceIte, Nat.reduceLT]; exact q0)
            have k11 := kp 11 H0.length 0 0 (by simp only [go_sem, reduceCtorEq, Nat.reduceEqDiff, Nat.reduceAdd, Nat.reduceSub, Nat.reduceMul, Nat.reduceLeDiff, Int.reduceEq, Int.reduceLT, Int.reduceLE, Int.reduceAdd, Int.reduceMul, Int.reduceSub, Int.reduceNeg, Int.reduceToNat, reduceIte, Nat.reduceLT]) (by simp only [go_sem, reduceCtorEq, Nat.reduceEqDiff, Nat.reduceAdd, Nat.reduceSub, Nat.reduceMul, Nat.reduceLeDiff, Int.reduceEq, Int.reduceLT, Int.reduceLE, Int.reduceAdd, Int.reduceMul, Int.reduceSub, Int.reduceNeg, Int.reduceToNat, reduceIte, Nat.reduceLT]; exact q11)
            have d0 := kb 0 _ (set_get_ne b0 (by omega)) (by simp only [go_sem, reduceCtorEq, Nat.reduceEqDiff, Nat.reduceAdd, Nat.reduceSub, Nat.reduceMul, Nat.reduceLeDiff, Int.reduceEq, Int.reduceLT, Int.reduceLE, Int.reduceAdd, Int.reduceMul, Int.reduceSub, Int.reduceNeg, Int.reduceToNat, reduceIte, Nat.reduceLT]; exact q0)
            have d11 := kb H0.length _ (set_get b11) (by simp only [go_sem, reduceCtorEq, Nat.reduceEqDiff, Nat.reduceAdd, Nat.reduceSub, Nat.reduceMul, Nat.reduceLeDiff, Int.reduceEq, Int.reduceLT, Int.reduceLE, Int.reduceAdd, Int.reduceMul, Int.reduceSub, Int.reduceNeg, Int.reduceToNat, reduceIte, Nat.reduceLT]; exact q11)
            clear kc kp kb
            simp only [go_sem, reduceCtorEq, Nat.reduceEqDiff, Nat.reduceAdd, Nat.reduceSub, Nat.reduceMul, Nat.reduceLeDiff, Int.reduceEq, Int.reduceLT, Int.reduceLE, Int.reduceAdd, Int.reduceMul, Int.reduceSub, Int.reduceNeg, Int.reduceToNat, reduceIte, Nat.reduceLT, k8]
            refine callW_pure hof ?_
            simp only [go_sem, reduceCtorEq, Nat.reduceEqDiff, Nat.reduceAdd, Nat.reduceSub, Nat.reduceMul, Nat.reduceLeDiff, Int.reduceEq, Int.reduceLT, Int.reduceLE, Int.reduceAdd, Int.reduceMul, Int.reduceSub, Int.reduceNeg, Int.reduceToNat, reduceIte, Nat.reduceLT, k3, k6, k11, box_row d11, box_mine d11, box_put d11, box_row (set_get d11)]
            refine callW_pure hj ?_
            by_cases hlg : 400 < js.facts.length
            · have hlg' : (400 : Int) < ((js.facts.map Fact.cells).length : Int) := by simp; omega
              rw [if_pos hlg]
              have f0 := set_get_ne (B' := { sz := 2, rows := [[runsC ds, .lst 6 [[.int .i64 dev, .int .i64 (lastL s.seen dev + 1), .str ky, .int .i64 3, .str emptyB, .int .i64 n]]]] }) d0 (b := H0.length) (by omega)
              simp only [runsC] at f0
              simp only [go_sem, reduceCtorEq, Nat.reduceEqDiff, Nat.reduceAdd, Nat.reduceSub, Nat.reduceMul, Nat.reduceLeDiff, Int.reduceEq, Int.reduceLT, Int.reduceLE, Int.reduceAdd, Int.reduceMul, Int.reduceSub, Int.reduceNeg, Int.reduceToNat, reduceIte, Nat.reduceLT, hlg', k6, box_row f0, box_mine f0, box_put f0, box_row (set_get f0)]
              exact told_none 4
            · have hlg' : ¬ (400 : Int) < ((js.facts.map Fact.cells).length : Int) := by simp; omega
              rw [if_neg hlg]
              have f0 := set_get_ne (B' := { sz := 2, rows := [[runsC ds, .lst 6 [[.int .i64 dev, .int .i64 (lastL s.seen dev + 1), .str ky, .int .i64 3, .str emptyB, .int .i64 n]]]] }) d0 (b := H0.length) (by omega)
              simp only [runsC] at f0
              simp only [go_sem, reduceCtorEq, Nat.reduceEqDiff, Nat.reduceAdd, Nat.reduceSub, Nat.reduceMul, Nat.reduceLeDiff, Int.reduceEq, Int.reduceLT, Int.reduceLE, Int.reduceAdd, Int.reduceMul, Int.reduceSub, Int.reduceNeg, Int.reduceToNat, reduceIte, Nat.reduceLT, hlg', k6, k11, box_row f0, box_mine f0, box_put f0, box_row (set_get d11), box_row (set_get f0)]
              exact told_done (⟨ds, [⟨dev, lastL s.seen dev + 1, ky, 3, emptyB, n⟩]⟩, 0)
      · have h4 := h4
        have hm4 : madeF s dev ⟨kd, ky, it, on⟩ = ⟨dev, lastL s.seen dev + 1, ky, kd, it, 0⟩ := by rw [hmf]; simp [h4]
        obtain ⟨ds, hds⟩ : ∃ ds, ds = dotsL ((goneL s dev ⟨kd, ky, it, on⟩).map Fact.dot ++ [(madeF s dev ⟨kd, ky, it, on⟩).dot]) := ⟨_, rfl⟩
        have hof : Pr 38 [.c (dotsC ((goneL s dev ⟨kd, ky, it, on⟩).map Fact.dot ++ [(madeF s dev ⟨kd, ky, it, on⟩).dot]))] (.c (runsC ds)) := by rw [hds]; exact r7_Of_ok _ (by simp; omega)
        have hdl : deltaL s dev ⟨kd, ky, it, on⟩ = ⟨ds, [madeF s dev ⟨kd, ky, it, on⟩]⟩ := by unfold deltaL; rw [hmk, hds]; rfl
        have hdo : doL s dev ⟨kd, ky, it, on⟩ = if largeF (madeF s dev ⟨kd, ky, it, on⟩) = true then (⟨[], []⟩, 4) else if 400 < (joinL s (deltaL s dev ⟨kd, ky, it, on⟩)).facts.length then (⟨[], []⟩, 4) else (deltaL s dev ⟨kd, ky, it, on⟩, 0) := by
          unfold doL
          rw [if_neg (by simp [hbad]), if_neg (fun h => by rw [hmk] at h; cases h.2)]
          simp only [hmk, Bool.true_and]
        rw [hdo]
        by_cases hlf : largeF (madeF s dev ⟨kd, ky, it, on⟩) = true
        · rw [if_pos hlf]
          rw [hm4] at hlf
          have hp2 : 0 < (H0.set 0 { sz := 3, rows := [[.nilS, .nilS, .int .i64 4]] }).length := by rw [List.length_set]; exact hpos
          by_cases hz1 : ((((s.facts.filter (goesF dev ⟨kd, ky, it, on⟩)).map Fact.dot).map Dot.cells).length : Int) = 0
          all_goals
            simp only [go_sem, reduceCtorEq, Nat.reduceEqDiff, Nat.reduceAdd, Nat.reduceSub, Nat.reduceMul, Nat.reduceLeDiff, Int.reduceEq, Int.reduceLT, Int.reduceLE, Int.reduceAdd, Int.reduceMul, Int.reduceSub, Int.reduceNeg, Int.reduceToNat, reduceIte, Nat.reduceLT, hl8, hz1, h1, h3, h5, h6, h9, hn3, hn5, h4]
            refine callW_pure hlast ?_
            simp only [go_sem, reduceCtorEq, Nat.reduceEqDiff, Nat.reduceAdd, Nat.reduceSub, Nat.reduceMul, Nat.reduceLeDiff, Int.reduceEq, Int.reduceLT, Int.reduceLE, Int.reduceAdd, Int.reduceMul, Int.reduceSub, Int.reduceNeg, Int.reduceToNat, reduceIte, Nat.reduceLT, h1, h3, h5, h6, h9, wl, hpos, hn3, hn5, h4]
            by_cases x1 : 4503599627370496 < lastL s.seen dev + 1
            · simp only [go_sem, reduceCtorEq, Nat.reduceEqDiff, Nat.reduceAdd, Nat.reduceSub, Nat.reduceMul, Nat.reduceLeDiff, Int.reduceEq, Int.reduceLT, Int.reduceLE, Int.reduceAdd, Int.reduceMul, Int.reduceSub, Int.reduceNeg, Int.reduceToNat, reduceIte, Nat.reduceLT, x1, h6, hpos, box_row h00, box_mine h00, box_put h00, hp2, box_row (set_get h00)]
              exact told_none 4
            · exfalso; simp [largeF, x1] at hlf
        · rw [if_neg hlf]
          have hdg : Good (deltaL s dev ⟨kd, ky, it, on⟩) := delta_good hg hbad (by rw [hmk, Bool.true_and]; simpa using hlf)
          have hdn := delta_len (s := s) (dev := dev) (o := ⟨kd, ky, it, on⟩)
          rw [hm4] at hlf
          have hlf := Bool.eq_false_iff.2 hlf
          simp only [largeF, Bool.or_eq_false_iff] at hlf
          obtain ⟨⟨x1, x2⟩, x3⟩ := hlf
          have x1 := of_decide_eq_false x1
          have x2 := of_decide_eq_false x2
          have x3 := of_decide_eq_false x3
          rw [hdl, hm4] at hdg hdn ⊢
          rw [hm4, dotsC, List.map_append] at hof
          have hgl2 : (s.facts.filter (goesF dev ⟨kd, ky, it, on⟩)).length ≤ 1000 := hgl
          have hj := r7_Join_ok s _ hg hdg (by have := hdn.1; simp only at this ⊢; omega) (by have := hdn.2; simp only at this ⊢; omega)
          generalize hds2 : joinL s _ = js at hj ⊢
          clear hdl hdo hdg hdn hds hds2
          by_cases hz1 : ((((s.facts.filter (goesF dev ⟨kd, ky, it, on⟩)).map Fact.dot).map Dot.cells).length : Int) = 0
          all_goals
            simp only [go_sem, reduceCtorEq, Nat.reduceEqDiff, Nat.reduceAdd, Nat.reduceSub, Nat.reduceMul, Nat.reduceLeDiff, Int.reduceEq, Int.reduceLT, Int.reduceLE, Int.reduceAdd, Int.reduceMul, Int.reduceSub, Int.reduceNeg, Int.reduceToNat, reduceIte, Nat.reduceLT, hl8, hz1, h1, h3, h5, h6, h9, hn3, hn5, h4]
            refine callW_pure hlast ?_
            simp only [go_sem, reduceCtorEq, Nat.reduceEqDiff, Nat.reduceAdd, Nat.reduceSub, Nat.reduceMul, Nat.reduceLeDiff, Int.reduceEq, Int.reduceLT, Int.reduceLE, Int.reduceAdd, Int.reduceMul, Int.reduceSub, Int.reduceNeg, Int.reduceToNat, reduceIte, Nat.reduceLT, h1, h3, h5, h6, h9, wl, x1, x2, x3, hn3, hn5, h4]
            refine Acc.app_keep hacc.snoc.snoc (by simp; omega) fun v' H2 ha2 keep => ?_
            have b0 := keep 0 _ nb0 (by rw [get_prev (lt_snoc_of hpos ▸ trivial), get_prev hpos]; exact h00)
            have b11 := keep H0.length _ (hacc.nb_ge (Nat.le_refl _)) (by rw [get_prev (by simp)]; exact get_last)
            have b12 := keep (H0 ++ [_]).length _ (hacc.snoc.nb_ge (Nat.le_refl _)) get_last
            obtain ⟨b0, q0⟩ := b0
            obtain ⟨b11, q11⟩ := b11
            obtain ⟨b12, q12⟩ := b12
            simp only [go_sem, reduceCtorEq, Nat.reduceEqDiff, Nat.reduceAdd, Nat.reduceSub, Nat.reduceMul, Nat.reduceLeDiff, Int.reduceEq, Int.reduceLT, Int.reduceLE, Int.reduceAdd, Int.reduceMul, Int.reduceSub, Int.reduceNeg, Int.reduceToNat, reduceIte, Nat.reduceLT, h6, box_row b12, box_row b11, box_mine b11, box_put b11]
            refine Acc.fz_keep (sz := 2) (by simp only [go_sem, reduceCtorEq, Nat.reduceEqDiff, Nat.reduceAdd, Nat.reduceSub, Nat.reduceMul, Nat.reduceLeDiff, Int.reduceEq, Int.reduceLT, Int.reduceLE, Int.reduceAdd, Int.reduceMul, Int.reduceSub, Int.reduceNeg, Int.reduceToNat, reduceIte, Nat.reduceLT]; exact ha2.set_nb q11) fun e' H' k8 kc kp kb kl => ?_
            have k3 : e' 3 = .c (.fp s.cells 0) := kc 3 _ (by simp only [go_sem, reduceCtorEq, Nat.reduceEqDiff, Nat.reduceAdd, Nat.reduceSub, Nat.reduceMul, Nat.reduceLeDiff, Int.reduceEq, Int.reduceLT, Int.reduceLE, Int.reduceAdd, Int.reduceMul, Int.reduceSub, Int.reduceNeg, Int.reduceToNat, reduceIte, Nat.reduceLT, h3]) (by simp [closedA, closedC, State.closed]) (by simp)
            have k6 := kp 6 0 0 0 (by simp only [go_sem, reduceCtorEq, Nat.reduceEqDiff, Nat.reduceAdd, Nat.reduceSub, Nat.reduceMul, Nat.reduceLeDiff, Int.reduceEq, Int.reduceLT, Int.reduceLE, Int.reduceAdd, Int.reduceMul, Int.reduceSub, Int.reduceNeg, Int.reduceToNat, reduceIte, Nat.reduceLT, h6]) (by simp only [go_sem, reduceCtorEq, Nat.reduceEqDiff, Nat.reduceAdd, Nat.reduceSub, Nat.reduceMul, Nat.reduceLeDiff, Int.reduceEq, Int.reduceLT, Int.reduceLE, Int.reduceAdd, Int.reduceMul, Int.reduceSub, Int.reduceNeg, Int.reduceToNat, reduceIte, Nat.reduceLT]; exact q0)
            have k11 := kp 11 H0.length 0 0 (by simp only [go_sem, reduceCtorEq, Nat.reduceEqDiff, Nat.reduceAdd, Nat.reduceSub, Nat.reduceMul, Nat.reduceLeDiff, Int.reduceEq, Int.reduceLT, Int.reduceLE, Int.reduceAdd, Int.reduceMul, Int.reduceSub, Int.reduceNeg, Int.reduceToNat, reduceIte, Nat.reduceLT]) (by simp only [go_sem, reduceCtorEq, Nat.reduceEqDiff, Nat.reduceAdd, Nat.reduceSub, Nat.reduceMul, Nat.reduceLeDiff, Int.reduceEq, Int.reduceLT, Int.reduceLE, Int.reduceAdd, Int.reduceMul, Int.reduceSub, Int.reduceNeg, Int.reduceToNat, reduceIte, Nat.reduceLT]; exact q11)
            have d0 := kb 0 _ (set_get_ne b0 (by omega)) (by simp only [go_sem, reduceCtorEq, Nat.reduceEqDiff, Nat.reduceAdd, Nat.reduceSub, Nat.reduceMul, Nat.reduceLeDiff, Int.reduceEq, Int.reduceLT, Int.reduceLE, Int.reduceAdd, Int.reduceMul, Int.reduceSub, Int.reduceNeg, Int.reduceToNat, reduceIte, Nat.reduceLT]; exact q0)
            have d11 := kb H0.length _ (set_get b11) (by simp only [go_sem, reduceCtorEq, Nat.reduceEqDiff, Nat.reduceAdd, Nat.reduceSub, Nat.reduceMul, Nat.reduceLeDiff, Int.reduceEq, Int.reduceLT, Int.reduceLE, Int.reduceAdd, Int.reduceMul, Int.reduceSub, Int.reduceNeg, Int.reduceToNat, reduceIte, Nat.reduceLT]; exact q11)
            clear kc kp kb
            simp only [go_sem, reduceCtorEq, Nat.reduceEqDiff, Nat.reduceAdd, Nat.reduceSub, Nat.reduceMul, Nat.reduceLeDiff, Int.reduceEq, Int.reduceLT, Int.reduceLE, Int.reduceAdd, Int.reduceMul, Int.reduceSub, Int.reduceNeg, Int.reduceToNat, reduceIte, Nat.reduceLT, k8]
            refine callW_pure hof ?_
            simp only [go_sem, reduceCtorEq, Nat.reduceEqDiff, Nat.reduceAdd, Nat.reduceSub, Nat.reduceMul, Nat.reduceLeDiff, Int.reduceEq, Int.reduceLT, Int.reduceLE, Int.reduceAdd, Int.reduceMul, Int.reduceSub, Int.reduceNeg, Int.reduceToNat, reduceIte, Nat.reduceLT, k3, k6, k11, box_row d11, box_mine d11, box_put d11, box_row (set_get d11)]
            refine callW_pure hj ?_
            by_cases hlg : 400 < js.facts.length
            · have hlg' : (400 : Int) < ((js.facts.map Fact.cells).length : Int) := by simp; omega
              rw [if_pos hlg]
              have f0 := set_get_ne (B' := { sz := 2, rows := [[runsC ds, .lst 6 [[.int .i64 dev, .int .i64 (lastL s.seen dev + 1), .str ky, .int .i64 kd, .str it, .int .i64 0]]]] }) d0 (b := H0.length) (by omega)
              simp only [runsC] at f0
              simp only [go_sem, reduceCtorEq, Nat.reduceEqDiff, Nat.reduceAdd, Nat.reduceSub, Nat.reduceMul, Nat.reduceLeDiff, Int.reduceEq, Int.reduceLT, Int.reduceLE, Int.reduceAdd, Int.reduceMul, Int.reduceSub, Int.reduceNeg, Int.reduceToNat, reduceIte, Nat.reduceLT, hlg', k6, box_row f0, box_mine f0, box_put f0, box_row (set_get f0)]
              exact told_none 4
            · have hlg' : ¬ (400 : Int) < ((js.facts.map Fact.cells).length : Int) := by simp; omega
              rw [if_neg hlg]
              have f0 := set_get_ne (B' := { sz := 2, rows := [[runsC ds, .lst 6 [[.int .i64 dev, .int .i64 (lastL s.seen dev + 1), .str ky, .int .i64 kd, .str it, .int .i64 0]]]] }) d0 (b := H0.length) (by omega)
              simp only [runsC] at f0
              simp only [go_sem, reduceCtorEq, Nat.reduceEqDiff, Nat.reduceAdd, Nat.reduceSub, Nat.reduceMul, Nat.reduceLeDiff, Int.reduceEq, Int.reduceLT, Int.reduceLE, Int.reduceAdd, Int.reduceMul, Int.reduceSub, Int.reduceNeg, Int.reduceToNat, reduceIte, Nat.reduceLT, hlg', k6, k11, box_row f0, box_mine f0, box_put f0, box_row (set_get d11), box_row (set_get f0)]
              exact told_done (⟨ds, [⟨dev, lastL s.seen dev + 1, ky, kd, it, 0⟩]⟩, 0)
  | cons r rest ih =>
    intro pre n e H hbad hp h1 h3 h5 h6 h9 h10 hacc hm
    have hc := lt_at (f := Fact.cells) hp
    have hr := map_at' (f := Fact.cells) hp
    have hn := next_at hp hlen
    have hpl : pre.length < s.facts.length := by rw [hp]; simp
    have hfl := List.length_filter_le (goesF dev ⟨kd, ky, it, on⟩) pre
    refine run_again ?_
    conv => enter [3, 1]; unfold r7_Do_L0
    simp only [go_sem, reduceCtorEq, Nat.reduceEqDiff, Nat.reduceAdd, Nat.reduceSub, Nat.reduceMul, Nat.reduceLeDiff, Int.reduceEq, Int.reduceLT, Int.reduceLE, Int.reduceAdd, Int.reduceMul, Int.reduceSub, Int.reduceNeg, Int.reduceToNat, reduceIte, Nat.reduceLT, h1, h3, h5, h6, h9, h10, hc, hr]
    refine callW_pure (r7_goes_ok r dev ⟨kd, ky, it, on⟩) ?_
    cases hgo : goesF dev ⟨kd, ky, it, on⟩ r with
    | false =>
      simp only [go_sem, reduceCtorEq, Nat.reduceEqDiff, Nat.reduceAdd, Nat.reduceSub, Nat.reduceMul, Nat.reduceLeDiff, Int.reduceEq, Int.reduceLT, Int.reduceLE, Int.reduceAdd, Int.reduceMul, Int.reduceSub, Int.reduceNeg, Int.reduceToNat, reduceIte, Nat.reduceLT, h10, hn]
      refine ih (pre ++ [r]) n _ _ hbad (by rw [hp]; simp) ?_ ?_ ?_ ?_ ?_ ?_ ?_ (by rw [← hm]; simp [sumFrom, hgo])
      · simp only [go_sem, reduceCtorEq, Nat.reduceEqDiff, Nat.reduceAdd, Nat.reduceSub, Nat.reduceMul, Nat.reduceLeDiff, Int.reduceEq, Int.reduceLT, Int.reduceLE, Int.reduceAdd, Int.reduceMul, Int.reduceSub, Int.reduceNeg, Int.reduceToNat, reduceIte, Nat.reduceLT, h1]
      · simp only [go_sem, reduceCtorEq, Nat.reduceEqDiff, Nat.reduceAdd, Nat.reduceSub, Nat.reduceMul, Nat.reduceLeDiff, Int.reduceEq, Int.reduceLT, Int.reduceLE, Int.reduceAdd, Int.reduceMul, Int.reduceSub, Int.reduceNeg, Int.reduceToNat, reduceIte, Nat.reduceLT, h3]
      · simp only [go_sem, reduceCtorEq, Nat.reduceEqDiff, Nat.reduceAdd, Nat.reduceSub, Nat.reduceMul, Nat.reduceLeDiff, Int.reduceEq, Int.reduceLT, Int.reduceLE, Int.reduceAdd, Int.reduceMul, Int.reduceSub, Int.reduceNeg, Int.reduceToNat, reduceIte, Nat.reduceLT, h5]
      · simp only [go_sem, reduceCtorEq, Nat.reduceEqDiff, Nat.reduceAdd, Nat.reduceSub, Nat.reduceMul, Nat.reduceLeDiff, Int.reduceEq, Int.reduceLT, Int.reduceLE, Int.reduceAdd, Int.reduceMul, Int.reduceSub, Int.reduceNeg, Int.reduceToNat, reduceIte, Nat.reduceLT, h6]
      · simp only [go_sem, reduceCtorEq, Nat.reduceEqDiff, Nat.reduceAdd, Nat.reduceSub, Nat.reduceMul, Nat.reduceLeDiff, Int.reduceEq, Int.reduceLT, Int.reduceLE, Int.reduceAdd, Int.reduceMul, Int.reduceSub, Int.reduceNeg, Int.reduceToNat, reduceIte, Nat.reduceLT, h9]
      · simp only [go_sem, reduceCtorEq, Nat.reduceEqDiff, Nat.reduceAdd, Nat.reduceSub, Nat.reduceMul, Nat.reduceLeDiff, Int.reduceEq, Int.reduceLT, Int.reduceLE, Int.reduceAdd, Int.reduceMul, Int.reduceSub, Int.reduceNeg, Int.reduceToNat, reduceIte, Nat.reduceLT]
      · simp only [go_sem, reduceCtorEq, Nat.reduceEqDiff, Nat.reduceAdd, Nat.reduceSub, Nat.reduceMul, Nat.reduceLeDiff, Int.reduceEq, Int.reduceLT, Int.reduceLE, Int.reduceAdd, Int.reduceMul, Int.reduceSub, Int.reduceNeg, Int.reduceToNat, reduceIte, Nat.reduceLT]
        simpa [List.filter_append, hgo] using hacc
    | true =>
      simp only [go_sem, reduceCtorEq, Nat.reduceEqDiff, Nat.reduceAdd, Nat.reduceSub, Nat.reduceMul, Nat.reduceLeDiff, Int.reduceEq, Int.reduceLT, Int.reduceLE, Int.reduceAdd, Int.reduceMul, Int.reduceSub, Int.reduceNeg, Int.reduceToNat, reduceIte, Nat.reduceLT, h3, h10, hr]
      refine Acc.app_h1 hacc (by simp) (by simp; omega) fun v' H' ha' => ?_
      simp only [go_sem, reduceCtorEq, Nat.reduceEqDiff, Nat.reduceAdd, Nat.reduceSub, Nat.reduceMul, Nat.reduceLeDiff, Int.reduceEq, Int.reduceLT, Int.reduceLE, Int.reduceAdd, Int.reduceMul, Int.reduceSub, Int.reduceNeg, Int.reduceToNat, reduceIte, Nat.reduceLT, h3, h9, h10, hr, hn]
      refine ih (pre ++ [r]) (W (n + r.num)) _ _ hbad (by rw [hp]; simp) ?_ ?_ ?_ ?_ ?_ ?_ ?_ (by rw [← hm]; simp [sumFrom, hgo])
      · simp only [go_sem, reduceCtorEq, Nat.reduceEqDiff, Nat.reduceAdd, Nat.reduceSub, Nat.reduceMul, Nat.reduceLeDiff, Int.reduceEq, Int.reduceLT, Int.reduceLE, Int.reduceAdd, Int.reduceMul, Int.reduceSub, Int.reduceNeg, Int.reduceToNat, reduceIte, Nat.reduceLT, h1]
      · simp only [go_sem, reduceCtorEq, Nat.reduceEqDiff, Nat.reduceAdd, Nat.reduceSub, Nat.reduceMul, Nat.reduceLeDiff, Int.reduceEq, Int.reduceLT, Int.reduceLE, Int.reduceAdd, Int.reduceMul, Int.reduceSub, Int.reduceNeg, Int.reduceToNat, reduceIte, Nat.reduceLT, h3]
      · simp only [go_sem, reduceCtorEq, Nat.reduceEqDiff, Nat.reduceAdd, Nat.reduceSub, Nat.reduceMul, Nat.reduceLeDiff, Int.reduceEq, Int.reduceLT, Int.reduceLE, Int.reduceAdd, Int.reduceMul, Int.reduceSub, Int.reduceNeg, Int.reduceToNat, reduceIte, Nat.reduceLT, h5]
      · simp only [go_sem, reduceCtorEq, Nat.reduceEqDiff, Nat.reduceAdd, Nat.reduceSub, Nat.reduceMul, Nat.reduceLeDiff, Int.reduceEq, Int.reduceLT, Int.reduceLE, Int.reduceAdd, Int.reduceMul, Int.reduceSub, Int.reduceNeg, Int.reduceToNat, reduceIte, Nat.reduceLT, h6]
      · simp only [go_sem, reduceCtorEq, Nat.reduceEqDiff, Nat.reduceAdd, Nat.reduceSub, Nat.reduceMul, Nat.reduceLeDiff, Int.reduceEq, Int.reduceLT, Int.reduceLE, Int.reduceAdd, Int.reduceMul, Int.reduceSub, Int.reduceNeg, Int.reduceToNat, reduceIte, Nat.reduceLT]
      · simp only [go_sem, reduceCtorEq, Nat.reduceEqDiff, Nat.reduceAdd, Nat.reduceSub, Nat.reduceMul, Nat.reduceLeDiff, Int.reduceEq, Int.reduceLT, Int.reduceLE, Int.reduceAdd, Int.reduceMul, Int.reduceSub, Int.reduceNeg, Int.reduceToNat, reduceIte, Nat.reduceLT]
      · simp only [go_sem, reduceCtorEq, Nat.reduceEqDiff, Nat.reduceAdd, Nat.reduceSub, Nat.reduceMul, Nat.reduceLeDiff, Int.reduceEq, Int.reduceLT, Int.reduceLE, Int.reduceAdd, Int.reduceMul, Int.reduceSub, Int.reduceNeg, Int.reduceToNat, reduceIte, Nat.reduceLT]
        simpa [List.filter_append, hgo, Dot.cells, Fact.dot] using ha'

end Go.Proofs.YtnccbccnjjachaaGreatDoor.Eng
