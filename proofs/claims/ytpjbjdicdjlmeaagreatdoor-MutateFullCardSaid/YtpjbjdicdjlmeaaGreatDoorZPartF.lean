/- Texts that this claim's proof needs, joined. No statement of the seat is proved here. -/
import Derived.Test.YtpjbjdicdjlmeaaGreatDoorZMerge
import Derived.Test.YtpjbjdicdjlmeaaGreatDoorZLitN
import Derived.Test.YtpjbjdicdjlmeaaGreatDoorZLayS

/- Contracts of the package dots: runs are put in order. No statement of the seat is proved here. -/
namespace Go.Proofs.YtpjbjdicdjlmeaaGreatDoor.Eng
open Go Go.Sort Go.Shelf
set_option linter.unusedVariables false
set_option linter.unusedSimpArgs false

theorem dots_norm_1_ok (a b : Rn) : Pr 42 [.agg a.cells, .agg b.cells] (iC (cmpRun a b)) := by
  refine pure_of mixed is_dots_norm_1 rfl fun hl T => ?_
  unfold c_dots_norm_1
  simp only [go_sem, reduceCtorEq, Nat.reduceEqDiff, Nat.reduceAdd, Nat.reduceSub, Nat.reduceMul, Nat.reduceLeDiff, Int.reduceEq, Int.reduceLT, Int.reduceLE, Int.reduceAdd, Int.reduceMul, Int.reduceSub, Int.reduceNeg, Int.reduceToNat, reduceIte, Nat.reduceLT]
  refine callW_pure (cmp_Compare_int_ok a.dev b.dev) ?_
  simp only [go_sem, reduceCtorEq, Nat.reduceEqDiff, Nat.reduceAdd, Nat.reduceSub, Nat.reduceMul, Nat.reduceLeDiff, Int.reduceEq, Int.reduceLT, Int.reduceLE, Int.reduceAdd, Int.reduceMul, Int.reduceSub, Int.reduceNeg, Int.reduceToNat, reduceIte, Nat.reduceLT]
  refine callW_pure (cmp_Compare_int_ok a.frm b.frm) ?_
  simp only [go_sem, reduceCtorEq, Nat.reduceEqDiff, Nat.reduceAdd, Nat.reduceSub, Nat.reduceMul, Nat.reduceLeDiff, Int.reduceEq, Int.reduceLT, Int.reduceLE, Int.reduceAdd, Int.reduceMul, Int.reduceSub, Int.reduceNeg, Int.reduceToNat, reduceIte, Nat.reduceLT]
  refine callW_pure (cmp_Or_int2_ok (cmpInt a.dev b.dev) (cmpInt a.frm b.frm)) ?_
  simp only [go_sem, reduceCtorEq, Nat.reduceEqDiff, Nat.reduceAdd, Nat.reduceSub, Nat.reduceMul, Nat.reduceLeDiff, Int.reduceEq, Int.reduceLT, Int.reduceLE, Int.reduceAdd, Int.reduceMul, Int.reduceSub, Int.reduceNeg, Int.reduceToNat, reduceIte, Nat.reduceLT]
  simp [viewA, viewFn, viewC, viewFs, viewCs, viewAs, closedC, closedCs, cmpRun]

/-- A clone: a block of its own. -/
theorem slices_Clone_Run_own (l : List Rn) (hs : Sm l) (h0 : l ≠ []) (H : Heap) : CallSound Tryz.prog 40 [.c (runsC l)] H (.c (.slc H.length 0 l.length 3 false)) (H ++ [{ sz := 3, rows := l.map Rn.cells, own := true, live := true }]) := by
  refine sound_of mixed is_slices_Clone_Run fun T => ?_
  unfold c_slices_Clone_Run
  dsimp only [runsC]
  have hn : (l.map Rn.cells).length = l.length := by simp
  have h1 : l.map Rn.cells ≠ [] := by simpa using h0
  rw [← hn]
  have hs' : (l.map Rn.cells).length ≤ 1000000 := by rw [hn]; exact hs
  generalize l.map Rn.cells = rows at h1 hs'
  cases rows with
  | nil => exact absurd rfl h1
  | cons x rows =>
    have ha : vAppZ 3 24 (.c (.zer 3)) (.c (.lst 3 (x :: rows))) H = some (.c (.slc H.length 0 (x :: rows).length 3 false), H ++ [{ sz := 3, rows := x :: rows }]) := by
      simp only [vAppZ, evApp, Heap.rowsOf, fitsSz, beq_self_eq_true, if_true]
      rw [if_neg (by simp), if_pos (by omega)]
    simp only [go_sem, reduceCtorEq, Nat.reduceEqDiff, Nat.reduceAdd, Nat.reduceSub, Nat.reduceMul, Nat.reduceLeDiff, Int.reduceEq, Int.reduceLT, Int.reduceLE, Int.reduceAdd, Int.reduceMul, Int.reduceSub, Int.reduceNeg, Int.reduceToNat, reduceIte, Nat.reduceLT, bne_self_eq_false, ha]

theorem slices_Clone_Run_ok (l : List Rn) (hs : Sm l) : Pr 40 [.c (runsC l)] (.c (runsC l)) := by
  by_cases h0 : l = []
  · subst h0
    intro H
    refine CallSound.empty (pre := []) (post := []) ?_ ?_
    · refine Pure.wkr (v := .c .nilS) (pure_of mixed is_slices_Clone_Run rfl fun hl T => ?_) (.c (.nilS _)) H
      unfold c_slices_Clone_Run
      simp only [go_sem, reduceCtorEq, Nat.reduceEqDiff, Nat.reduceAdd, Nat.reduceSub, Nat.reduceMul, Nat.reduceLeDiff, Int.reduceEq, Int.reduceLT, Int.reduceLE, Int.reduceAdd, Int.reduceMul, Int.reduceSub, Int.reduceNeg, Int.reduceToNat, reduceIte, Nat.reduceLT, bne_self_eq_false]
      refine condW_true ?_
      simp only [go_sem, reduceCtorEq, Nat.reduceEqDiff, Nat.reduceAdd, Nat.reduceSub, Nat.reduceMul, Nat.reduceLeDiff, Int.reduceEq, Int.reduceLT, Int.reduceLE, Int.reduceAdd, Int.reduceMul, Int.reduceSub, Int.reduceNeg, Int.reduceToNat, reduceIte, Nat.reduceLT]
      simp [viewA, viewFn, viewC, viewFs, viewCs, viewAs, closedC, closedCs]
    · refine Pure.wkr (v := .c (.zer 3)) (pure_of mixed is_slices_Clone_Run rfl fun hl T => ?_) (.c (.zer _)) H
      unfold c_slices_Clone_Run
      have ha : vAppZ 3 24 (.c (.zer 3)) (.c (.emp 3)) [] = some (.c (.zer 3), []) := rfl
      simp only [go_sem, reduceCtorEq, Nat.reduceEqDiff, Nat.reduceAdd, Nat.reduceSub, Nat.reduceMul, Nat.reduceLeDiff, Int.reduceEq, Int.reduceLT, Int.reduceLE, Int.reduceAdd, Int.reduceMul, Int.reduceSub, Int.reduceNeg, Int.reduceToNat, reduceIte, Nat.reduceLT, bne_self_eq_false, ha]
      simp [viewA, viewFn, viewC, viewFs, viewCs, viewAs, closedC, closedCs]
  · refine (slices_Clone_Run_own l hs h0 []).pure (by simp [closedAs, closedA, closed_runsC]) ?_
    simp only [viewA, viewFn, viewC]
    have ht : (l.map Rn.cells).take l.length = l.map Rn.cells := List.take_of_length_le (by simp)
    simp [closed_runs, h0, runsC, ht]

theorem Rn.cells_det (x : Rn) (m : LMap) (σ : Mem) (vs : List Value) (h : All2 (VR m σ) x.cells vs) : vs = [.int .i64 x.dev, .int .i64 x.frm, .int .i64 x.to] := by
  unfold Rn.cells at h
  cases h with
  | cons a h => cases h with
    | cons b h => cases h with
      | cons c h => cases h; cases a; cases b; cases c; rfl

theorem SortFunc_Run_own {l : List Rn} {H : Heap} {b : Nat} (hs : Sm l) (h0 : l ≠ []) (hb : H[b]? = some { sz := 3, rows := l.map Rn.cells, own := true, live := true }) :
    CallSound Tryz.prog 41 [.c (.slc b 0 l.length 3 false), .c (.fn 42 [])] H (.tup []) (H.set b { sz := 3, rows := (sortL cmpRun l).map Rn.cells, own := true, live := true }) :=
  sort_sound (P := Tryz.prog) laySortRun (k := 3) (by kernel_rfl) (by kernel_rfl) (by omega) (f := Rn.cells) (enc := fun x => [.int .i64 x.dev, .int .i64 x.frm, .int .i64 x.to]) (fun _ => rfl)
    (fun x m σ => .cons (.int _ _) (.cons (.int _ _) (.cons (.int _ _) .nil))) Rn.cells_det cmpRun_swo dots_norm_1_ok hb (by omega) h0

end Go.Proofs.YtpjbjdicdjlmeaaGreatDoor.Eng

/- Contracts of the package dots: runs are put in order and joined. No statement of the seat is proved here. -/
namespace Go.Proofs.YtpjbjdicdjlmeaaGreatDoor.Eng
open Go Go.Sort Go.Shelf
set_option linter.unusedVariables false
set_option linter.unusedSimpArgs false

theorem dots_norm_ok (l : List Rn) (hs : Sm l) (hr : ∀ r ∈ l, r.Right) : Pr 30 [.c (runsC l)] (.c (runsC (normL l))) := by
  refine pure_ofW mixed is_dots_norm (by simp [closedAs, closedA, closed_runsC]) fun hl T => ?_
  unfold c_dots_norm
  dsimp only [runsC]
  generalize hv : normL l = v
  have hperm := (sortL_spec cmpRun_swo l).1
  have loop : ∀ (rest pre : List Rn) (acc : List Rn) (p : Option Rn) (e : Env) (H : Heap), sortL cmpRun l = pre ++ rest → e 11 = .c (.lst 3 ((sortL cmpRun l).map Rn.cells)) → e 12 = iC ((sortL cmpRun l).map Rn.cells).length → e 13 = iC pre.length →
      Acc 3 ((acc ++ p.toList).map Rn.cells) (e 3) H → (∀ q, p = some q → q.Right) → (p = none → acc = []) → acc.length + rest.length ≤ 1000000 → acc ++ mergeFrom p rest = v → Run (progT Tryz.prog T) ⟨[.tmp 2], fun u E => viewW E u (.c (.lst 3 (v.map Rn.cells)))⟩ [.loop dots_norm_L0, .blk 0, .code dots_norm_K1] e H := by
    intro rest
    induction rest with
    | nil =>
      intro pre acc p e H hp h11 h12 h13 hacc hpr hpa hsm hm
      have hc := not_lt_at (f := Rn.cells) hp
      refine run_again ?_
      conv => enter [3, 1]; unfold dots_norm_L0
      simp only [go_sem, reduceCtorEq, Nat.reduceEqDiff, Nat.reduceAdd, Nat.reduceSub, Nat.reduceMul, Nat.reduceLeDiff, Int.reduceEq, Int.reduceLT, Int.reduceLE, Int.reduceAdd, Int.reduceMul, Int.reduceSub, Int.reduceNeg, Int.reduceToNat, reduceIte, Nat.reduceLT, h11, h12, h13, hc]
      unfold dots_norm_K1
      simp only [go_sem, reduceCtorEq, Nat.reduceEqDiff, Nat.reduceAdd, Nat.reduceSub, Nat.reduceMul, Nat.reduceLeDiff, Int.reduceEq, Int.reduceLT, Int.reduceLE, Int.reduceAdd, Int.reduceMul, Int.reduceSub, Int.reduceNeg, Int.reduceToNat, reduceIte, Nat.reduceLT]
      have hv2 : acc ++ p.toList = v := by rw [← hm]; cases p <;> rfl
      rw [← hv2]
      exact hacc.told (closed_runs _)
    | cons r rest ih =>
      intro pre acc p e H hp h11 h12 h13 hacc hpr hpa hsm hm
      have hc := lt_at (f := Rn.cells) hp
      have hx := map_at' (f := Rn.cells) hp
      have hlen : (sortL cmpRun l).length ≤ maxLen := by rw [hperm.length_eq]; unfold maxLen; unfold Sm at hs; omega
      have hn := next_at hp hlen
      have hrR : r.Right := hr r (hperm.mem_iff.1 (by rw [hp]; simp))
      have hrr : r.right = true := Rn.right_iff.2 hrR
      have go : ∀ (e' : Env) (H' : Heap) (acc' : List Rn) (p' : Option Rn), e' 11 = e 11 → e' 12 = e 12 → e' 13 = iC (pre ++ [r]).length → Acc 3 ((acc' ++ p'.toList).map Rn.cells) (e' 3) H' → (∀ q, p' = some q → q.Right) → (p' = none → acc' = []) → acc'.length + rest.length ≤ 1000000 →
          acc' ++ mergeFrom p' rest = v → Run (progT Tryz.prog T) ⟨[.tmp 2], fun u E => viewW E u (.c (.lst 3 (v.map Rn.cells)))⟩ [.loop dots_norm_L0, .blk 0, .code dots_norm_K1] e' H' := by
        intro e' H' acc' p' g11 g12 g13 ga gr gp gs gm
        exact ih (pre ++ [r]) acc' p' e' H' (by simp [hp]) (by rw [g11, h11]) (by rw [g12, h12]) g13 ga gr gp gs gm
      refine run_again ?_
      conv => enter [3, 1]; unfold dots_norm_L0
      simp only [go_sem, reduceCtorEq, Nat.reduceEqDiff, Nat.reduceAdd, Nat.reduceSub, Nat.reduceMul, Nat.reduceLeDiff, Int.reduceEq, Int.reduceLT, Int.reduceLE, Int.reduceAdd, Int.reduceMul, Int.reduceSub, Int.reduceNeg, Int.reduceToNat, reduceIte, Nat.reduceLT, h11, h12, h13, hc, hx]
      cases p with
      | none =>
        have := hpa rfl
        subst this
        simp only [Option.toList_none, List.append_nil, List.map_nil] at hacc
        have hl3 : ∀ H', vLen (e 3) H' = some (iC 0, H') := fun H' => hacc.len
        have hm1 : IntKind.wrap .i64 (-1) = -1 := by decide
        simp only [go_sem, reduceCtorEq, Nat.reduceEqDiff, Nat.reduceAdd, Nat.reduceSub, Nat.reduceMul, Nat.reduceLeDiff, Int.reduceEq, Int.reduceLT, Int.reduceLE, Int.reduceAdd, Int.reduceMul, Int.reduceSub, Int.reduceNeg, Int.reduceToNat, reduceIte, Nat.reduceLT, hl3, hm1]
        refine callW_pure (dots_right_ok r) ?_
        simp only [go_sem, reduceCtorEq, Nat.reduceEqDiff, Nat.reduceAdd, Nat.reduceSub, Nat.reduceMul, Nat.reduceLeDiff, Int.reduceEq, Int.reduceLT, Int.reduceLE, Int.reduceAdd, Int.reduceMul, Int.reduceSub, Int.reduceNeg, Int.reduceToNat, reduceIte, Nat.reduceLT, hrr]
        refine (hacc.snoc).app_step (by simp) fun v' H' ha' => ?_
        simp only [go_sem, reduceCtorEq, Nat.reduceEqDiff, Nat.reduceAdd, Nat.reduceSub, Nat.reduceMul, Nat.reduceLeDiff, Int.reduceEq, Int.reduceLT, Int.reduceLE, Int.reduceAdd, Int.reduceMul, Int.reduceSub, Int.reduceNeg, Int.reduceToNat, reduceIte, Nat.reduceLT, h13, hn]
        refine go _ _ [] (some r) ?_ ?_ ?_ ?_ ?_ ?_ ?_ ?_
        · simp only [go_sem, reduceCtorEq, Nat.reduceEqDiff, Nat.reduceAdd, Nat.reduceSub, Nat.reduceMul, Nat.reduceLeDiff, Int.reduceEq, Int.reduceLT, Int.reduceLE, Int.reduceAdd, Int.reduceMul, Int.reduceSub, Int.reduceNeg, Int.reduceToNat, reduceIte, Nat.reduceLT]
        · simp only [go_sem, reduceCtorEq, Nat.reduceEqDiff, Nat.reduceAdd, Nat.reduceSub, Nat.reduceMul, Nat.reduceLeDiff, Int.reduceEq, Int.reduceLT, Int.reduceLE, Int.reduceAdd, Int.reduceMul, Int.reduceSub, Int.reduceNeg, Int.reduceToNat, reduceIte, Nat.reduceLT]
        · simp only [go_sem, reduceCtorEq, Nat.reduceEqDiff, Nat.reduceAdd, Nat.reduceSub, Nat.reduceMul, Nat.reduceLeDiff, Int.reduceEq, Int.reduceLT, Int.reduceLE, Int.reduceAdd, Int.reduceMul, Int.reduceSub, Int.reduceNeg, Int.reduceToNat, reduceIte, Nat.reduceLT]
        · simp only [go_sem, reduceCtorEq, Nat.reduceEqDiff, Nat.reduceAdd, Nat.reduceSub, Nat.reduceMul, Nat.reduceLeDiff, Int.reduceEq, Int.reduceLT, Int.reduceLE, Int.reduceAdd, Int.reduceMul, Int.reduceSub, Int.reduceNeg, Int.reduceToNat, reduceIte, Nat.reduceLT]; exact ha'
        · intro q hq; injection hq with hq; subst hq; exact hrR
        · intro h; cases h
        · simp at hsm ⊢; omega
        · exact hm
      | some q =>
        have hqR := hpr q rfl
        obtain ⟨b, ext, h3, hb, hB⟩ := hacc.slc (by simp)
        have hln : ((acc ++ (some q).toList).map Rn.cells).length = acc.length + 1 := by simp
        rw [hln] at h3
        have hw : IntKind.wrap .i64 (((acc.length + 1 : Nat) : Int) - 1) = (acc.length : Int) := by rw [wrap64 (by omega)]; omega
        have h00 : (0 : Int) ≤ (acc.length : Int) := by omega
        have hlt : acc.length < acc.length + 1 := by omega
        have hrow : Heap.row H b acc.length = some q.cells := by rw [row_of hB rfl]; simp
        have hix : ∀ H', vIx 3 (.c (.slc b 0 (acc.length + 1) 3 false)) (iC (acc.length : Int)) H' = some (.c (.ptr b acc.length 0), H') := fun H' => vIx_slc hlt
        have hmine : Heap.mine H b = true := mine_of hB rfl rfl
        have hw2 : IntKind.wrap .i64 (q.to + 1) = q.to + 1 := wrap64 (by have := hqR.tm; have := hqR.f1; have := hqR.ft; omega)
        have app : ¬ (q.dev = r.dev ∧ r.frm ≤ q.to + 1) → acc ++ q :: mergeFrom (some r) rest = v := by
          intro h
          rw [← hm, mergeFrom, if_neg h]
        simp only [go_sem, reduceCtorEq, Nat.reduceEqDiff, Nat.reduceAdd, Nat.reduceSub, Nat.reduceMul, Nat.reduceLeDiff, Int.reduceEq, Int.reduceLT, Int.reduceLE, Int.reduceAdd, Int.reduceMul, Int.reduceSub, Int.reduceNeg, Int.reduceToNat, reduceIte, Nat.reduceLT, h3, hw, h00, hix, row_prev hb, hrow]
        by_cases hd : q.dev = r.dev
        · by_cases hf : r.frm ≤ q.to + 1
          · simp only [go_sem, reduceCtorEq, Nat.reduceEqDiff, Nat.reduceAdd, Nat.reduceSub, Nat.reduceMul, Nat.reduceLeDiff, Int.reduceEq, Int.reduceLT, Int.reduceLE, Int.reduceAdd, Int.reduceMul, Int.reduceSub, Int.reduceNeg, Int.reduceToNat, reduceIte, Nat.reduceLT, h3, hw, h00, hix, row_prev hb, hrow, hd, hf, hw2, mine_prev hb, hmine, put_prev hb, hb]
            simp only [go_sem, reduceCtorEq, Nat.reduceEqDiff, Nat.reduceAdd, Nat.reduceSub, Nat.reduceMul, Nat.reduceLeDiff, Int.reduceEq, Int.reduceLT, Int.reduceLE, Int.reduceAdd, Int.reduceMul, Int.reduceSub, Int.reduceNeg, Int.reduceToNat, reduceIte, Nat.reduceLT, h13, hn]
            have hput := Acc.put (r := (⟨q.dev, q.frm, if q.to < r.to then r.to else q.to⟩ : Rn).cells) hB (i := acc.length) (by simp)
            have hset : ((acc ++ (some q).toList).map Rn.cells).set acc.length (⟨q.dev, q.frm, if q.to < r.to then r.to else q.to⟩ : Rn).cells = (acc ++ (some (⟨q.dev, q.frm, if q.to < r.to then r.to else q.to⟩ : Rn)).toList).map Rn.cells := by
              simp [List.set_append]
            rw [hset, hln] at hput
            simp only [Rn.cells, hd] at hput
            refine go _ _ acc (some ⟨q.dev, q.frm, if q.to < r.to then r.to else q.to⟩) ?_ ?_ ?_ ?_ ?_ ?_ ?_ ?_
            · simp only [go_sem, reduceCtorEq, Nat.reduceEqDiff, Nat.reduceAdd, Nat.reduceSub, Nat.reduceMul, Nat.reduceLeDiff, Int.reduceEq, Int.reduceLT, Int.reduceLE, Int.reduceAdd, Int.reduceMul, Int.reduceSub, Int.reduceNeg, Int.reduceToNat, reduceIte, Nat.reduceLT]
            · simp only [go_sem, reduceCtorEq, Nat.reduceEqDiff, Nat.reduceAdd, Nat.reduceSub, Nat.reduceMul, Nat.reduceLeDiff, Int.reduceEq, Int.reduceLT, Int.reduceLE, Int.reduceAdd, Int.reduceMul, Int.reduceSub, Int.reduceNeg, Int.reduceToNat, reduceIte, Nat.reduceLT]
            · simp only [go_sem, reduceCtorEq, Nat.reduceEqDiff, Nat.reduceAdd, Nat.reduceSub, Nat.reduceMul, Nat.reduceLeDiff, Int.reduceEq, Int.reduceLT, Int.reduceLE, Int.reduceAdd, Int.reduceMul, Int.reduceSub, Int.reduceNeg, Int.reduceToNat, reduceIte, Nat.reduceLT]
            · simp only [go_sem, reduceCtorEq, Nat.reduceEqDiff, Nat.reduceAdd, Nat.reduceSub, Nat.reduceMul, Nat.reduceLeDiff, Int.reduceEq, Int.reduceLT, Int.reduceLE, Int.reduceAdd, Int.reduceMul, Int.reduceSub, Int.reduceNeg, Int.reduceToNat, reduceIte, Nat.reduceLT, h3, hd]
              exact hput.snoc
            · intro q' hq; injection hq with hq; subst hq
              have := hqR.ft
              have := hqR.tm
              have := hrR.tm
              exact ⟨hqR.d0, hqR.d8, hqR.f1, by simp only; split <;> omega, by simp only; split <;> omega⟩
            · intro h; cases h
            · simp at hsm ⊢; omega
            · rw [← hm]
              conv => rhs; rw [mergeFrom, if_pos ⟨hd, hf⟩]
          · simp only [go_sem, reduceCtorEq, Nat.reduceEqDiff, Nat.reduceAdd, Nat.reduceSub, Nat.reduceMul, Nat.reduceLeDiff, Int.reduceEq, Int.reduceLT, Int.reduceLE, Int.reduceAdd, Int.reduceMul, Int.reduceSub, Int.reduceNeg, Int.reduceToNat, reduceIte, Nat.reduceLT, h3, hw, h00, hix, row_prev hb, hrow, hd, hf, hw2]
            refine callW_pure (dots_right_ok r) ?_
            simp only [go_sem, reduceCtorEq, Nat.reduceEqDiff, Nat.reduceAdd, Nat.reduceSub, Nat.reduceMul, Nat.reduceLeDiff, Int.reduceEq, Int.reduceLT, Int.reduceLE, Int.reduceAdd, Int.reduceMul, Int.reduceSub, Int.reduceNeg, Int.reduceToNat, reduceIte, Nat.reduceLT, hrr, h3]
            rw [h3] at hacc
            refine (hacc.snoc).app_step (by simp [hln]; simp at hsm; omega) fun v' H' ha' => ?_
            simp only [go_sem, reduceCtorEq, Nat.reduceEqDiff, Nat.reduceAdd, Nat.reduceSub, Nat.reduceMul, Nat.reduceLeDiff, Int.reduceEq, Int.reduceLT, Int.reduceLE, Int.reduceAdd, Int.reduceMul, Int.reduceSub, Int.reduceNeg, Int.reduceToNat, reduceIte, Nat.reduceLT, h13, hn]
            refine go _ _ (acc ++ [q]) (some r) ?_ ?_ ?_ ?_ ?_ ?_ ?_ ?_
            · simp only [go_sem, reduceCtorEq, Nat.reduceEqDiff, Nat.reduceAdd, Nat.reduceSub, Nat.reduceMul, Nat.reduceLeDiff, Int.reduceEq, Int.reduceLT, Int.reduceLE, Int.reduceAdd, Int.reduceMul, Int.reduceSub, Int.reduceNeg, Int.reduceToNat, reduceIte, Nat.reduceLT]
            · simp only [go_sem, reduceCtorEq, Nat.reduceEqDiff, Nat.reduceAdd, Nat.reduceSub, Nat.reduceMul, Nat.reduceLeDiff, Int.reduceEq, Int.reduceLT, Int.reduceLE, Int.reduceAdd, Int.reduceMul, Int.reduceSub, Int.reduceNeg, Int.reduceToNat, reduceIte, Nat.reduceLT]
            · simp only [go_sem, reduceCtorEq, Nat.reduceEqDiff, Nat.reduceAdd, Nat.reduceSub, Nat.reduceMul, Nat.reduceLeDiff, Int.reduceEq, Int.reduceLT, Int.reduceLE, Int.reduceAdd, Int.reduceMul, Int.reduceSub, Int.reduceNeg, Int.reduceToNat, reduceIte, Nat.reduceLT]
            · simp only [go_sem, reduceCtorEq, Nat.reduceEqDiff, Nat.reduceAdd, Nat.reduceSub, Nat.reduceMul, Nat.reduceLeDiff, Int.reduceEq, Int.reduceLT, Int.reduceLE, Int.reduceAdd, Int.reduceMul, Int.reduceSub, Int.reduceNeg, Int.reduceToNat, reduceIte, Nat.reduceLT]; simpa [Rn.cells] using ha'
            · intro q hq; injection hq with hq; subst hq; exact hrR
            · intro h; cases h
            · simp at hsm ⊢; omega
            · simpa using app (fun h => hf h.2)
        · simp only [go_sem, reduceCtorEq, Nat.reduceEqDiff, Nat.reduceAdd, Nat.reduceSub, Nat.reduceMul, Nat.reduceLeDiff, Int.reduceEq, Int.reduceLT, Int.reduceLE, Int.reduceAdd, Int.reduceMul, Int.reduceSub, Int.reduceNeg, Int.reduceToNat, reduceIte, Nat.reduceLT, h3, hw, h00, hix, row_prev hb, hrow, hd]
          refine callW_pure (dots_right_ok r) ?_
          simp only [go_sem, reduceCtorEq, Nat.reduceEqDiff, Nat.reduceAdd, Nat.reduceSub, Nat.reduceMul, Nat.reduceLeDiff, Int.reduceEq, Int.reduceLT, Int.reduceLE, Int.reduceAdd, Int.reduceMul, Int.reduceSub, Int.reduceNeg, Int.reduceToNat, reduceIte, Nat.reduceLT, hrr, h3]
          rw [h3] at hacc
          refine (hacc.snoc).app_step (by simp [hln]; simp at hsm; omega) fun v' H' ha' => ?_
          simp only [go_sem, reduceCtorEq, Nat.reduceEqDiff, Nat.reduceAdd, Nat.reduceSub, Nat.reduceMul, Nat.reduceLeDiff, Int.reduceEq, Int.reduceLT, Int.reduceLE, Int.reduceAdd, Int.reduceMul, Int.reduceSub, Int.reduceNeg, Int.reduceToNat, reduceIte, Nat.reduceLT, h13, hn]
          refine go _ _ (acc ++ [q]) (some r) ?_ ?_ ?_ ?_ ?_ ?_ ?_ ?_
          · simp only [go_sem, reduceCtorEq, Nat.reduceEqDiff, Nat.reduceAdd, Nat.reduceSub, Nat.reduceMul, Nat.reduceLeDiff, Int.reduceEq, Int.reduceLT, Int.reduceLE, Int.reduceAdd, Int.reduceMul, Int.reduceSub, Int.reduceNeg, Int.reduceToNat, reduceIte, Nat.reduceLT]
          · simp only [go_sem, reduceCtorEq, Nat.reduceEqDiff, Nat.reduceAdd, Nat.reduceSub, Nat.reduceMul, Nat.reduceLeDiff, Int.reduceEq, Int.reduceLT, Int.reduceLE, Int.reduceAdd, Int.reduceMul, Int.reduceSub, Int.reduceNeg, Int.reduceToNat, reduceIte, Nat.reduceLT]
          · simp only [go_sem, reduceCtorEq, Nat.reduceEqDiff, Nat.reduceAdd, Nat.reduceSub, Nat.reduceMul, Nat.reduceLeDiff, Int.reduceEq, Int.reduceLT, Int.reduceLE, Int.reduceAdd, Int.reduceMul, Int.reduceSub, Int.reduceNeg, Int.reduceToNat, reduceIte, Nat.reduceLT]
          · simp only [go_sem, reduceCtorEq, Nat.reduceEqDiff, Nat.reduceAdd, Nat.reduceSub, Nat.reduceMul, Nat.reduceLeDiff, Int.reduceEq, Int.reduceLT, Int.reduceLE, Int.reduceAdd, Int.reduceMul, Int.reduceSub, Int.reduceNeg, Int.reduceToNat, reduceIte, Nat.reduceLT]; simpa [Rn.cells] using ha'
          · intro q hq; injection hq with hq; subst hq; exact hrR
          · intro h; cases h
          · simp at hsm ⊢; omega
          · simpa using app (fun h => hd h.1)
  simp only [go_sem, reduceCtorEq, Nat.reduceEqDiff, Nat.reduceAdd, Nat.reduceSub, Nat.reduceMul, Nat.reduceLeDiff, Int.reduceEq, Int.reduceLT, Int.reduceLE, Int.reduceAdd, Int.reduceMul, Int.reduceSub, Int.reduceNeg, Int.reduceToNat, reduceIte, Nat.reduceLT]
  by_cases h0 : l = []
  · subst h0
    refine callW_pure (slices_Clone_Run_ok [] hs) ?_
    simp only [go_sem, reduceCtorEq, Nat.reduceEqDiff, Nat.reduceAdd, Nat.reduceSub, Nat.reduceMul, Nat.reduceLeDiff, Int.reduceEq, Int.reduceLT, Int.reduceLE, Int.reduceAdd, Int.reduceMul, Int.reduceSub, Int.reduceNeg, Int.reduceToNat, reduceIte, Nat.reduceLT]
    refine callW_at (sort_none laySortRun (H := [])) (fun h => by cases h) ?_
    simp only [go_sem, reduceCtorEq, Nat.reduceEqDiff, Nat.reduceAdd, Nat.reduceSub, Nat.reduceMul, Nat.reduceLeDiff, Int.reduceEq, Int.reduceLT, Int.reduceLE, Int.reduceAdd, Int.reduceMul, Int.reduceSub, Int.reduceNeg, Int.reduceToNat, reduceIte, Nat.reduceLT]
    refine run_fzc (y := .lst 3 []) (by simp only [go_sem, reduceCtorEq, Nat.reduceEqDiff, Nat.reduceAdd, Nat.reduceSub, Nat.reduceMul, Nat.reduceLeDiff, Int.reduceEq, Int.reduceLT, Int.reduceLE, Int.reduceAdd, Int.reduceMul, Int.reduceSub, Int.reduceNeg, Int.reduceToNat, reduceIte, Nat.reduceLT]) ?_
    simp only [go_sem, reduceCtorEq, Nat.reduceEqDiff, Nat.reduceAdd, Nat.reduceSub, Nat.reduceMul, Nat.reduceLeDiff, Int.reduceEq, Int.reduceLT, Int.reduceLE, Int.reduceAdd, Int.reduceMul, Int.reduceSub, Int.reduceNeg, Int.reduceToNat, reduceIte, Nat.reduceLT]
    refine loop (sortL cmpRun []) [] [] none _ _ rfl ?_ ?_ ?_ ?_ (by intro q h; cases h) (fun _ => rfl) (by rw [hperm.length_eq]; simp) hv
    · simp only [go_sem, reduceCtorEq, Nat.reduceEqDiff, Nat.reduceAdd, Nat.reduceSub, Nat.reduceMul, Nat.reduceLeDiff, Int.reduceEq, Int.reduceLT, Int.reduceLE, Int.reduceAdd, Int.reduceMul, Int.reduceSub, Int.reduceNeg, Int.reduceToNat, reduceIte, Nat.reduceLT, hperm.eq_nil, List.map_nil]
    · simp only [go_sem, reduceCtorEq, Nat.reduceEqDiff, Nat.reduceAdd, Nat.reduceSub, Nat.reduceMul, Nat.reduceLeDiff, Int.reduceEq, Int.reduceLT, Int.reduceLE, Int.reduceAdd, Int.reduceMul, Int.reduceSub, Int.reduceNeg, Int.reduceToNat, reduceIte, Nat.reduceLT, hperm.eq_nil, List.map_nil]
    · simp only [go_sem, reduceCtorEq, Nat.reduceEqDiff, Nat.reduceAdd, Nat.reduceSub, Nat.reduceMul, Nat.reduceLeDiff, Int.reduceEq, Int.reduceLT, Int.reduceLE, Int.reduceAdd, Int.reduceMul, Int.reduceSub, Int.reduceNeg, Int.reduceToNat, reduceIte, Nat.reduceLT]
    · simp only [go_sem, reduceCtorEq, Nat.reduceEqDiff, Nat.reduceAdd, Nat.reduceSub, Nat.reduceMul, Nat.reduceLeDiff, Int.reduceEq, Int.reduceLT, Int.reduceLE, Int.reduceAdd, Int.reduceMul, Int.reduceSub, Int.reduceNeg, Int.reduceToNat, reduceIte, Nat.reduceLT]; exact .nil
  · refine callW_at (slices_Clone_Run_own l hs h0 []) (fun h => by cases h) ?_
    simp only [go_sem, reduceCtorEq, Nat.reduceEqDiff, Nat.reduceAdd, Nat.reduceSub, Nat.reduceMul, Nat.reduceLeDiff, Int.reduceEq, Int.reduceLT, Int.reduceLE, Int.reduceAdd, Int.reduceMul, Int.reduceSub, Int.reduceNeg, Int.reduceToNat, reduceIte, Nat.reduceLT]
    refine callW_at (SortFunc_Run_own (b := 0) hs h0 (by simp)) (fun h => by cases h) ?_
    simp only [go_sem, reduceCtorEq, Nat.reduceEqDiff, Nat.reduceAdd, Nat.reduceSub, Nat.reduceMul, Nat.reduceLeDiff, Int.reduceEq, Int.reduceLT, Int.reduceLE, Int.reduceAdd, Int.reduceMul, Int.reduceSub, Int.reduceNeg, Int.reduceToNat, reduceIte, Nat.reduceLT]
    refine Acc.fz (sz := 3) (rows := (sortL cmpRun l).map Rn.cells) (.inr ⟨0, [], ?_, by simp⟩) fun e' H' h1 h2 => ?_
    · simp only [go_sem, reduceCtorEq, Nat.reduceEqDiff, Nat.reduceAdd, Nat.reduceSub, Nat.reduceMul, Nat.reduceLeDiff, Int.reduceEq, Int.reduceLT, Int.reduceLE, Int.reduceAdd, Int.reduceMul, Int.reduceSub, Int.reduceNeg, Int.reduceToNat, reduceIte, Nat.reduceLT, List.length_map, hperm.length_eq]
    have g3 : e' 3 = .c .nilS := h2 3 _ rfl rfl (by omega)
    simp only [go_sem, reduceCtorEq, Nat.reduceEqDiff, Nat.reduceAdd, Nat.reduceSub, Nat.reduceMul, Nat.reduceLeDiff, Int.reduceEq, Int.reduceLT, Int.reduceLE, Int.reduceAdd, Int.reduceMul, Int.reduceSub, Int.reduceNeg, Int.reduceToNat, reduceIte, Nat.reduceLT, h1]
    refine loop (sortL cmpRun l) [] [] none _ _ rfl ?_ ?_ ?_ ?_ (by intro q h; cases h) (fun _ => rfl) (by rw [hperm.length_eq]; simpa using hs) hv
    · simp only [go_sem, reduceCtorEq, Nat.reduceEqDiff, Nat.reduceAdd, Nat.reduceSub, Nat.reduceMul, Nat.reduceLeDiff, Int.reduceEq, Int.reduceLT, Int.reduceLE, Int.reduceAdd, Int.reduceMul, Int.reduceSub, Int.reduceNeg, Int.reduceToNat, reduceIte, Nat.reduceLT]
    · simp only [go_sem, reduceCtorEq, Nat.reduceEqDiff, Nat.reduceAdd, Nat.reduceSub, Nat.reduceMul, Nat.reduceLeDiff, Int.reduceEq, Int.reduceLT, Int.reduceLE, Int.reduceAdd, Int.reduceMul, Int.reduceSub, Int.reduceNeg, Int.reduceToNat, reduceIte, Nat.reduceLT]
    · simp only [go_sem, reduceCtorEq, Nat.reduceEqDiff, Nat.reduceAdd, Nat.reduceSub, Nat.reduceMul, Nat.reduceLeDiff, Int.reduceEq, Int.reduceLT, Int.reduceLE, Int.reduceAdd, Int.reduceMul, Int.reduceSub, Int.reduceNeg, Int.reduceToNat, reduceIte, Nat.reduceLT]
    · simp only [go_sem, reduceCtorEq, Nat.reduceEqDiff, Nat.reduceAdd, Nat.reduceSub, Nat.reduceMul, Nat.reduceLeDiff, Int.reduceEq, Int.reduceLT, Int.reduceLE, Int.reduceAdd, Int.reduceMul, Int.reduceSub, Int.reduceNeg, Int.reduceToNat, reduceIte, Nat.reduceLT, g3]; exact .nil

end Go.Proofs.YtpjbjdicdjlmeaaGreatDoor.Eng

/- Contracts of the package dots: sets out of dots, one without another. No statement of the seat is proved here. -/
namespace Go.Proofs.YtpjbjdicdjlmeaaGreatDoor.Eng
open Go Go.Sort Go.Shelf
set_option linter.unusedVariables false
set_option linter.unusedSimpArgs false

theorem dots_Of_ok (l : List Dot) (hs : Sm l) : Pr 17 [.c (dotsC l)] (.c (runsC (normL (ofL l)))) := by
  refine pure_ofW mixed is_dots_Of (by simp [closedAs, closedA, closed_dotsC]) fun hl T => ?_
  unfold c_dots_Of
  dsimp only [dotsC]
  generalize hv : ofL l = v
  have hlen : l.length ≤ maxLen := by unfold maxLen; unfold Sm at hs; omega
  simp only [go_sem, reduceCtorEq, Nat.reduceEqDiff, Nat.reduceAdd, Nat.reduceSub, Nat.reduceMul, Nat.reduceLeDiff, Int.reduceEq, Int.reduceLT, Int.reduceLE, Int.reduceAdd, Int.reduceMul, Int.reduceSub, Int.reduceNeg, Int.reduceToNat, reduceIte, Nat.reduceLT]
  have loop : ∀ (rest pre : List Dot) (acc : List Rn) (e : Env) (H : Heap), l = pre ++ rest → e 7 = .c (.lst 2 (l.map Dot.cells)) → e 8 = iC (l.map Dot.cells).length → e 9 = iC pre.length →
      Acc 3 (acc.map Rn.cells) (e 3) H → acc.length ≤ pre.length → acc ++ ofL rest = v → Run (progT Tryz.prog T) ⟨[.tmp 2], fun u E => viewW E u (.c (runsC (normL v)))⟩ [.loop dots_Of_L0, .blk 0, .code dots_Of_K1] e H := by
    intro rest
    induction rest with
    | nil =>
      intro pre acc e H hp h7 h8 h9 hacc hal hm
      have hc := not_lt_at (f := Dot.cells) hp
      refine run_again ?_
      conv => enter [3, 1]; unfold dots_Of_L0
      simp only [go_sem, reduceCtorEq, Nat.reduceEqDiff, Nat.reduceAdd, Nat.reduceSub, Nat.reduceMul, Nat.reduceLeDiff, Int.reduceEq, Int.reduceLT, Int.reduceLE, Int.reduceAdd, Int.reduceMul, Int.reduceSub, Int.reduceNeg, Int.reduceToNat, reduceIte, Nat.reduceLT, h7, h8, h9, hc]
      unfold dots_Of_K1
      refine Acc.fz (sz := 3) (rows := acc.map Rn.cells) hacc fun e' H' g3 g => ?_
      simp only [go_sem, reduceCtorEq, Nat.reduceEqDiff, Nat.reduceAdd, Nat.reduceSub, Nat.reduceMul, Nat.reduceLeDiff, Int.reduceEq, Int.reduceLT, Int.reduceLE, Int.reduceAdd, Int.reduceMul, Int.reduceSub, Int.reduceNeg, Int.reduceToNat, reduceIte, Nat.reduceLT, g3]
      have hav : acc = v := by rw [← hm]; simp [ofL]
      have hvl := ofL_len l
      subst hav
      refine callW_pure (dots_norm_ok acc (by unfold Sm at *; rw [← hv]; omega) (by rw [← hv]; exact ofL_right)) ?_
      simp only [go_sem, reduceCtorEq, Nat.reduceEqDiff, Nat.reduceAdd, Nat.reduceSub, Nat.reduceMul, Nat.reduceLeDiff, Int.reduceEq, Int.reduceLT, Int.reduceLE, Int.reduceAdd, Int.reduceMul, Int.reduceSub, Int.reduceNeg, Int.reduceToNat, reduceIte, Nat.reduceLT]
      exact told_runs _ _
    | cons r rest ih =>
      intro pre acc e H hp h7 h8 h9 hacc hal hm
      have hc := lt_at (f := Dot.cells) hp
      have hx := map_at' (f := Dot.cells) hp
      have hn := next_at hp hlen
      have hpl : pre.length < l.length := by rw [hp]; simp
      refine run_again ?_
      conv => enter [3, 1]; unfold dots_Of_L0
      simp only [go_sem, reduceCtorEq, Nat.reduceEqDiff, Nat.reduceAdd, Nat.reduceSub, Nat.reduceMul, Nat.reduceLeDiff, Int.reduceEq, Int.reduceLT, Int.reduceLE, Int.reduceAdd, Int.reduceMul, Int.reduceSub, Int.reduceNeg, Int.reduceToNat, reduceIte, Nat.reduceLT, h7, h8, h9, hc, hx]
      refine callW_pure (dots_right_ok (ofDot r)) ?_
      cases hr : (ofDot r).right with
      | false =>
        simp only [go_sem, reduceCtorEq, Nat.reduceEqDiff, Nat.reduceAdd, Nat.reduceSub, Nat.reduceMul, Nat.reduceLeDiff, Int.reduceEq, Int.reduceLT, Int.reduceLE, Int.reduceAdd, Int.reduceMul, Int.reduceSub, Int.reduceNeg, Int.reduceToNat, reduceIte, Nat.reduceLT, h9, hn]
        refine ih (pre ++ [r]) acc _ _ (by simp [hp]) ?_ ?_ ?_ ?_ (by simp; omega) ?_
        · simp only [go_sem, reduceCtorEq, Nat.reduceEqDiff, Nat.reduceAdd, Nat.reduceSub, Nat.reduceMul, Nat.reduceLeDiff, Int.reduceEq, Int.reduceLT, Int.reduceLE, Int.reduceAdd, Int.reduceMul, Int.reduceSub, Int.reduceNeg, Int.reduceToNat, reduceIte, Nat.reduceLT, h7]
        · simp only [go_sem, reduceCtorEq, Nat.reduceEqDiff, Nat.reduceAdd, Nat.reduceSub, Nat.reduceMul, Nat.reduceLeDiff, Int.reduceEq, Int.reduceLT, Int.reduceLE, Int.reduceAdd, Int.reduceMul, Int.reduceSub, Int.reduceNeg, Int.reduceToNat, reduceIte, Nat.reduceLT, h8]
        · simp only [go_sem, reduceCtorEq, Nat.reduceEqDiff, Nat.reduceAdd, Nat.reduceSub, Nat.reduceMul, Nat.reduceLeDiff, Int.reduceEq, Int.reduceLT, Int.reduceLE, Int.reduceAdd, Int.reduceMul, Int.reduceSub, Int.reduceNeg, Int.reduceToNat, reduceIte, Nat.reduceLT]
        · simp only [go_sem, reduceCtorEq, Nat.reduceEqDiff, Nat.reduceAdd, Nat.reduceSub, Nat.reduceMul, Nat.reduceLeDiff, Int.reduceEq, Int.reduceLT, Int.reduceLE, Int.reduceAdd, Int.reduceMul, Int.reduceSub, Int.reduceNeg, Int.reduceToNat, reduceIte, Nat.reduceLT]; exact hacc.snoc.snoc
        · rw [← hm]; simp [ofL, hr]
      | true =>
        simp only [go_sem, reduceCtorEq, Nat.reduceEqDiff, Nat.reduceAdd, Nat.reduceSub, Nat.reduceMul, Nat.reduceLeDiff, Int.reduceEq, Int.reduceLT, Int.reduceLE, Int.reduceAdd, Int.reduceMul, Int.reduceSub, Int.reduceNeg, Int.reduceToNat, reduceIte, Nat.reduceLT, h9, hn]
        refine (hacc.snoc.snoc).app_step (by unfold Sm at hs; simp; omega) fun v' H' ha' => ?_
        simp only [go_sem, reduceCtorEq, Nat.reduceEqDiff, Nat.reduceAdd, Nat.reduceSub, Nat.reduceMul, Nat.reduceLeDiff, Int.reduceEq, Int.reduceLT, Int.reduceLE, Int.reduceAdd, Int.reduceMul, Int.reduceSub, Int.reduceNeg, Int.reduceToNat, reduceIte, Nat.reduceLT, h9, hn]
        refine ih (pre ++ [r]) (acc ++ [ofDot r]) _ _ (by simp [hp]) ?_ ?_ ?_ ?_ (by simp; omega) ?_
        · simp only [go_sem, reduceCtorEq, Nat.reduceEqDiff, Nat.reduceAdd, Nat.reduceSub, Nat.reduceMul, Nat.reduceLeDiff, Int.reduceEq, Int.reduceLT, Int.reduceLE, Int.reduceAdd, Int.reduceMul, Int.reduceSub, Int.reduceNeg, Int.reduceToNat, reduceIte, Nat.reduceLT, h7]
        · simp only [go_sem, reduceCtorEq, Nat.reduceEqDiff, Nat.reduceAdd, Nat.reduceSub, Nat.reduceMul, Nat.reduceLeDiff, Int.reduceEq, Int.reduceLT, Int.reduceLE, Int.reduceAdd, Int.reduceMul, Int.reduceSub, Int.reduceNeg, Int.reduceToNat, reduceIte, Nat.reduceLT, h8]
        · simp only [go_sem, reduceCtorEq, Nat.reduceEqDiff, Nat.reduceAdd, Nat.reduceSub, Nat.reduceMul, Nat.reduceLeDiff, Int.reduceEq, Int.reduceLT, Int.reduceLE, Int.reduceAdd, Int.reduceMul, Int.reduceSub, Int.reduceNeg, Int.reduceToNat, reduceIte, Nat.reduceLT]
        · simp only [go_sem, reduceCtorEq, Nat.reduceEqDiff, Nat.reduceAdd, Nat.reduceSub, Nat.reduceMul, Nat.reduceLeDiff, Int.reduceEq, Int.reduceLT, Int.reduceLE, Int.reduceAdd, Int.reduceMul, Int.reduceSub, Int.reduceNeg, Int.reduceToNat, reduceIte, Nat.reduceLT]; simpa [Rn.cells, ofDot] using ha'
        · rw [← hm]; simp [ofL, hr]
  refine loop l [] [] _ _ rfl ?_ ?_ ?_ ?_ (Nat.le_refl _) hv
  · simp only [go_sem, reduceCtorEq, Nat.reduceEqDiff, Nat.reduceAdd, Nat.reduceSub, Nat.reduceMul, Nat.reduceLeDiff, Int.reduceEq, Int.reduceLT, Int.reduceLE, Int.reduceAdd, Int.reduceMul, Int.reduceSub, Int.reduceNeg, Int.reduceToNat, reduceIte, Nat.reduceLT]
  · simp only [go_sem, reduceCtorEq, Nat.reduceEqDiff, Nat.reduceAdd, Nat.reduceSub, Nat.reduceMul, Nat.reduceLeDiff, Int.reduceEq, Int.reduceLT, Int.reduceLE, Int.reduceAdd, Int.reduceMul, Int.reduceSub, Int.reduceNeg, Int.reduceToNat, reduceIte, Nat.reduceLT]
  · simp only [go_sem, reduceCtorEq, Nat.reduceEqDiff, Nat.reduceAdd, Nat.reduceSub, Nat.reduceMul, Nat.reduceLeDiff, Int.reduceEq, Int.reduceLT, Int.reduceLE, Int.reduceAdd, Int.reduceMul, Int.reduceSub, Int.reduceNeg, Int.reduceToNat, reduceIte, Nat.reduceLT]
  · simp only [go_sem, reduceCtorEq, Nat.reduceEqDiff, Nat.reduceAdd, Nat.reduceSub, Nat.reduceMul, Nat.reduceLeDiff, Int.reduceEq, Int.reduceLT, Int.reduceLE, Int.reduceAdd, Int.reduceMul, Int.reduceSub, Int.reduceNeg, Int.reduceToNat, reduceIte, Nat.reduceLT]; exact .nil

end Go.Proofs.YtpjbjdicdjlmeaaGreatDoor.Eng
