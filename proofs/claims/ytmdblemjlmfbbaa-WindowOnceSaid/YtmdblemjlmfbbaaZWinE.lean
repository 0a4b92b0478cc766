/- The contract of the document's AddGot; the laws' example. No statement of the seat is proved here. -/
import Derived.Test.YtmdblemjlmfbbaaZWinD
namespace Go.Proofs.Ytmdblemjlmfbbaa.Eng
open Go
set_option linter.unusedVariables false
set_option linter.unusedSimpArgs false

theorem told_pair {H : Heap} {v x : AVal} {b : Bool} (h : viewW H v x) : viewW H (.tup [v, bC b]) (.tup [x, bC b]) := by
  obtain ⟨y, h1, h2⟩ := h
  refine ⟨.tup [y, bC b], ?_, .tup2 h2 (.same _)⟩
  have hb : viewA H (bC b) = some (bC b) := rfl
  have h2 : viewAs H [v, bC b] = some [y, bC b] := by simp only [viewAs, h1, hb]
  show (match viewAs H [v, bC b] with | some ys => some (AVal.tup ys) | none => none) = _
  rw [h2]
theorem told_gots (H : Heap) (l : List Got) : viewW H (.c (gotsC l)) (.c (gotsC l)) := ⟨_, by simp only [viewA, viewFn, gotsC, viewC, closedC, closed_gots, if_true], .same _⟩

theorem bnd1 {acc pre l : List Got} (h1 : acc.length ≤ 2 * pre.length) (h2 : pre.length ≤ l.length) (h3 : l.length ≤ 100000) : ((acc.map Got.cells).length + 1) * 32 ≤ 140737488355328 := by rw [List.length_map]; omega
theorem bnd2 {acc pre l : List Got} (h1 : acc.length ≤ 2 * pre.length) (h2 : pre.length ≤ l.length) (h3 : l.length ≤ 100000) (r : List Cell) : ((acc.map Got.cells ++ [r]).length + 1) * 32 ≤ 140737488355328 := by rw [List.length_append, List.length_map, List.length_singleton]; omega
theorem nxt1 {acc pre : List Got} {x : Got} (h1 : acc.length ≤ 2 * pre.length) : (acc ++ [x]).length ≤ 2 * (pre.length + 1) := by rw [List.length_append, List.length_singleton]; omega
theorem nxt2 {acc pre : List Got} {x y : Got} (h1 : acc.length ≤ 2 * pre.length) : (acc ++ [x, y]).length ≤ 2 * (pre.length + 1) := by rw [List.length_append]; simp only [List.length_cons, List.length_nil]; omega

set_option maxHeartbeats 4000000 in
theorem r14_AddGot_loop (l : List Got) (a b c : Int) (d : List Rn) (hd : ∀ r ∈ d, r.Right) (hd1 : d.length ≤ 10) (hs : l.length ≤ 100000) (hz : ∀ g ∈ l, g.runs.length ≤ 100000 ∧ ∀ r ∈ g.runs, r.Right) (v : List Got) (T : Nat → Option AFun) :
    ∀ (rest pre acc : List Got) (inn : Bool) (e : Env) (H : Heap), l = pre ++ rest → acc.length ≤ 2 * pre.length → e 0 = .c (gotsC l) → e 3 = .c (.fp [.int .i64 a, .int .i64 b, .int .i64 c] 0) → e 6 = .c (runsC d) → e 8 = bC inn → e 9 = iC pre.length → Acc 2 (acc.map Got.cells) (e 7) H →
      acc ++ walkG ⟨a, b, c⟩ d inn rest = v →
      Run (progT Try.prog T) ⟨[.tmp 4, .tmp 5], fun u E => viewW E u (.tup [.c (gotsC v), bC true])⟩ [.loop r14_AddGot_L0, .blk 0, .code r14_AddGot_K1] e H := by
  have hlen : l.length ≤ maxLen := by unfold maxLen; omega
  have hcd := closed_runs d
  intro rest
  induction rest with
  | nil =>
    intro pre acc inn e H hp hal h0 h3 h6 h8 h9 hacc hv
    dsimp only [gotsC, runsC] at h0 h6
    have hc := not_lt_at (f := Got.cells) hp
    refine run_again ?_
    conv => enter [3, 1]; unfold r14_AddGot_L0
    simp only [go_sem, reduceCtorEq, Nat.reduceEqDiff, Nat.reduceAdd, Nat.reduceSub, Nat.reduceMul, Nat.reduceLeDiff, Int.reduceEq, Int.reduceLT, Int.reduceLE, Int.reduceAdd, Int.reduceMul, Int.reduceSub, Int.reduceNeg, Int.reduceToNat, reduceIte, Nat.reduceLT, h0, h3, h6, h8, h9, hc]
    unfold r14_AddGot_K1
    have hpl : pre.length = l.length := by rw [hp]; simp
    cases inn with
    | true =>
      simp only [go_sem, reduceCtorEq, Nat.reduceEqDiff, Nat.reduceAdd, Nat.reduceSub, Nat.reduceMul, Nat.reduceLeDiff, Int.reduceEq, Int.reduceLT, Int.reduceLE, Int.reduceAdd, Int.reduceMul, Int.reduceSub, Int.reduceNeg, Int.reduceToNat, reduceIte, Nat.reduceLT, h8]
      refine told_pair ?_
      have : acc = v := by rw [← hv]; simp [walkG]
      subst this
      exact hacc.told (closed_gots _)
    | false =>
      simp only [go_sem, reduceCtorEq, Nat.reduceEqDiff, Nat.reduceAdd, Nat.reduceSub, Nat.reduceMul, Nat.reduceLeDiff, Int.reduceEq, Int.reduceLT, Int.reduceLE, Int.reduceAdd, Int.reduceMul, Int.reduceSub, Int.reduceNeg, Int.reduceToNat, reduceIte, Nat.reduceLT, h8, h3, h6, hcd]
      refine Acc.app_step hacc (bnd1 hal (Nat.le_of_eq hpl) hs) fun v' H' ha' => ?_
      simp only [go_sem, reduceCtorEq, Nat.reduceEqDiff, Nat.reduceAdd, Nat.reduceSub, Nat.reduceMul, Nat.reduceLeDiff, Int.reduceEq, Int.reduceLT, Int.reduceLE, Int.reduceAdd, Int.reduceMul, Int.reduceSub, Int.reduceNeg, Int.reduceToNat, reduceIte, Nat.reduceLT]
      refine told_pair ?_
      have : acc ++ [⟨a, d⟩] = v := by rw [← hv]; simp [walkG]
      subst this
      have := ha'.told (by rw [closedR_append]; simp [closed_gots, closedR, closedCs, closedC, hcd])
      simpa [gotsC, Got.cells, runsC] using this
  | cons g rest ih =>
    intro pre acc inn e H hp hal h0 h3 h6 h8 h9 hacc hv
    have h0' := h0
    have h6' := h6
    dsimp only [gotsC, runsC] at h0 h6
    have hc := lt_at (f := Got.cells) hp
    have hr := map_at' (f := Got.cells) hp
    have hn := next_at hp hlen
    have hgm : g ∈ l := by rw [hp]; simp
    obtain ⟨hz1, hz2⟩ := hz g hgm
    obtain ⟨ge, gr⟩ := g
    have hcg := closed_runs gr
    have hpl : pre.length < l.length := by rw [hp]; simp
    dsimp only [Got.cells, runsC] at hr
    have hun := r7_Union_is gr d (by simp only at hz1; omega) hz2 hd
    have hcu := closed_runs (unionL gr d)
    dsimp only [runsC] at hun
    refine run_again ?_
    conv => enter [3, 1]; unfold r14_AddGot_L0
    simp only [go_sem, reduceCtorEq, Nat.reduceEqDiff, Nat.reduceAdd, Nat.reduceSub, Nat.reduceMul, Nat.reduceLeDiff, Int.reduceEq, Int.reduceLT, Int.reduceLE, Int.reduceAdd, Int.reduceMul, Int.reduceSub, Int.reduceNeg, Int.reduceToNat, reduceIte, Nat.reduceLT, h0, h3, h6, h8, h9, hc, hr]
    have nb1 : NB (e 7) H.length := hacc.nb_ge (Nat.le_refl _)
    have hacc1 := hacc.snoc (k := { sz := 2, rows := [[.int .i64 ge, .lst 3 (gr.map Rn.cells)]] })
    have hB1 : (H ++ [({ sz := 2, rows := [[.int .i64 ge, .lst 3 (gr.map Rn.cells)]] } : Blk)])[H.length]? = some { sz := 2, rows := [[.int .i64 ge, .lst 3 (gr.map Rn.cells)]] } := by simp
    have hL1 : H.length < (H ++ [({ sz := 2, rows := [[.int .i64 ge, .lst 3 (gr.map Rn.cells)]] } : Blk)]).length := by simp
    generalize H.length = q at nb1 hB1 hL1 ⊢
    generalize (H ++ [({ sz := 2, rows := [[.int .i64 ge, .lst 3 (gr.map Rn.cells)]] } : Blk)]) = H1 at hacc1 hB1 hL1 ⊢
    have hnext : ∀ (acc' : List Got) (inn' : Bool) (e' : Env) (H' : Heap), acc'.length ≤ 2 * (pre.length + 1) → acc' ++ walkG ⟨a, b, c⟩ d inn' rest = v → e' 0 = e 0 → e' 3 = e 3 → e' 6 = e 6 → e' 8 = bC inn' → e' 9 = iC (pre ++ [(⟨ge, gr⟩ : Got)]).length → Acc 2 (acc'.map Got.cells) (e' 7) H' →
        Run (progT Try.prog T) ⟨[.tmp 4, .tmp 5], fun u E => viewW E u (.tup [.c (gotsC v), bC true])⟩ [.loop r14_AddGot_L0, .blk 0, .code r14_AddGot_K1] e' H' := fun acc' inn' e' H' k1 k2 g0 g3 g6 g8 g9 ga =>
      ih (pre ++ [⟨ge, gr⟩]) acc' inn' e' H' (by simp [hp]) (by rw [List.length_append, List.length_singleton]; exact k1) (by rw [g0, h0']) (by rw [g3, h3]) (by rw [g6, h6']) g8 g9 ga k2
    have hmU : (acc ++ [(⟨ge, unionL gr d⟩ : Got)]).map Got.cells = acc.map Got.cells ++ [[.int .i64 ge, .lst 3 ((unionL gr d).map Rn.cells)]] := by rw [List.map_append]; rfl
    have hm1 : (acc ++ [(⟨ge, gr⟩ : Got)]).map Got.cells = acc.map Got.cells ++ [[.int .i64 ge, .lst 3 (gr.map Rn.cells)]] := by rw [List.map_append]; rfl
    have hm2 : (acc ++ [(⟨a, d⟩ : Got), ⟨ge, gr⟩]).map Got.cells = (acc.map Got.cells ++ [[.int .i64 a, .lst 3 (d.map Rn.cells)]]) ++ [[.int .i64 ge, .lst 3 (gr.map Rn.cells)]] := by rw [List.map_append, List.append_assoc]; rfl
    clear ih
    have bound1 : ((acc.map Got.cells).length + 1) * 32 ≤ 140737488355328 := bnd1 hal (Nat.le_of_lt hpl) hs
    have bound2 : ∀ r : List Cell, ((acc.map Got.cells ++ [r]).length + 1) * 32 ≤ 140737488355328 := bnd2 hal (Nat.le_of_lt hpl) hs
    by_cases cB : ge = a
    · subst cB
      have cA : ¬ (ge < ge) := by omega
      have hw : acc ++ ⟨ge, unionL gr d⟩ :: walkG ⟨ge, b, c⟩ d true rest = v := by rw [← hv]; simp [walkG]
      have m0 := set_get (B' := { sz := 2, rows := [[.int .i64 ge, .lst 3 ((unionL gr d).map Rn.cells)]] }) hB1
      have hacc2 := hacc1.set_nb (b := q) (B := { sz := 2, rows := [[.int .i64 ge, .lst 3 ((unionL gr d).map Rn.cells)]] }) nb1
      cases inn
      all_goals
        simp only [go_sem, reduceCtorEq, Nat.reduceEqDiff, Nat.reduceAdd, Nat.reduceSub, Nat.reduceMul, Nat.reduceLeDiff, Int.reduceEq, Int.reduceLT, Int.reduceLE, Int.reduceAdd, Int.reduceMul, Int.reduceSub, Int.reduceNeg, Int.reduceToNat, reduceIte, Nat.reduceLT, h3, box_row hB1, cA]
        simp only [go_sem, reduceCtorEq, Nat.reduceEqDiff, Nat.reduceAdd, Nat.reduceSub, Nat.reduceMul, Nat.reduceLeDiff, Int.reduceEq, Int.reduceLT, Int.reduceLE, Int.reduceAdd, Int.reduceMul, Int.reduceSub, Int.reduceNeg, Int.reduceToNat, reduceIte, Nat.reduceLT, h3, h6, box_row hB1]
        refine callW_pure hun ?_
        simp only [go_sem, reduceCtorEq, Nat.reduceEqDiff, Nat.reduceAdd, Nat.reduceSub, Nat.reduceMul, Nat.reduceLeDiff, Int.reduceEq, Int.reduceLT, Int.reduceLE, Int.reduceAdd, Int.reduceMul, Int.reduceSub, Int.reduceNeg, Int.reduceToNat, reduceIte, Nat.reduceLT, box_row hB1, box_mine hB1, box_put hB1, hL1, box_row m0, hcu]
        refine Acc.app_step hacc2 bound1 fun v' H' ha' => ?_
        simp only [go_sem, reduceCtorEq, Nat.reduceEqDiff, Nat.reduceAdd, Nat.reduceSub, Nat.reduceMul, Nat.reduceLeDiff, Int.reduceEq, Int.reduceLT, Int.reduceLE, Int.reduceAdd, Int.reduceMul, Int.reduceSub, Int.reduceNeg, Int.reduceToNat, reduceIte, Nat.reduceLT, h9, hn]
        refine hnext (acc ++ [⟨ge, unionL gr d⟩]) true _ _ (nxt1 hal) (by rw [← hw]; simp) ?_ ?_ ?_ ?_ ?_ ?_
        · simp only [go_sem, reduceCtorEq, Nat.reduceEqDiff, Nat.reduceAdd, Nat.reduceSub, Nat.reduceMul, Nat.reduceLeDiff, Int.reduceEq, Int.reduceLT, Int.reduceLE, Int.reduceAdd, Int.reduceMul, Int.reduceSub, Int.reduceNeg, Int.reduceToNat, reduceIte, Nat.reduceLT]
        · simp only [go_sem, reduceCtorEq, Nat.reduceEqDiff, Nat.reduceAdd, Nat.reduceSub, Nat.reduceMul, Nat.reduceLeDiff, Int.reduceEq, Int.reduceLT, Int.reduceLE, Int.reduceAdd, Int.reduceMul, Int.reduceSub, Int.reduceNeg, Int.reduceToNat, reduceIte, Nat.reduceLT]
        · simp only [go_sem, reduceCtorEq, Nat.reduceEqDiff, Nat.reduceAdd, Nat.reduceSub, Nat.reduceMul, Nat.reduceLeDiff, Int.reduceEq, Int.reduceLT, Int.reduceLE, Int.reduceAdd, Int.reduceMul, Int.reduceSub, Int.reduceNeg, Int.reduceToNat, reduceIte, Nat.reduceLT]
        · simp only [go_sem, reduceCtorEq, Nat.reduceEqDiff, Nat.reduceAdd, Nat.reduceSub, Nat.reduceMul, Nat.reduceLeDiff, Int.reduceEq, Int.reduceLT, Int.reduceLE, Int.reduceAdd, Int.reduceMul, Int.reduceSub, Int.reduceNeg, Int.reduceToNat, reduceIte, Nat.reduceLT]
        · simp only [go_sem, reduceCtorEq, Nat.reduceEqDiff, Nat.reduceAdd, Nat.reduceSub, Nat.reduceMul, Nat.reduceLeDiff, Int.reduceEq, Int.reduceLT, Int.reduceLE, Int.reduceAdd, Int.reduceMul, Int.reduceSub, Int.reduceNeg, Int.reduceToNat, reduceIte, Nat.reduceLT, hn]
        · simp only [go_sem, reduceCtorEq, Nat.reduceEqDiff, Nat.reduceAdd, Nat.reduceSub, Nat.reduceMul, Nat.reduceLeDiff, Int.reduceEq, Int.reduceLT, Int.reduceLE, Int.reduceAdd, Int.reduceMul, Int.reduceSub, Int.reduceNeg, Int.reduceToNat, reduceIte, Nat.reduceLT]; rw [hmU]; exact ha'
    · have hw : acc ++ (if inn = false ∧ a < ge then [⟨a, d⟩] else []) ++ ⟨ge, gr⟩ :: walkG ⟨a, b, c⟩ d (inn || decide (a < ge)) rest = v := by rw [← hv]; simp [walkG, cB]
      by_cases cA : inn = false ∧ a < ge
      · obtain ⟨rfl, cA⟩ := cA
        simp only [go_sem, reduceCtorEq, Nat.reduceEqDiff, Nat.reduceAdd, Nat.reduceSub, Nat.reduceMul, Nat.reduceLeDiff, Int.reduceEq, Int.reduceLT, Int.reduceLE, Int.reduceAdd, Int.reduceMul, Int.reduceSub, Int.reduceNeg, Int.reduceToNat, reduceIte, Nat.reduceLT, h3, box_row hB1, cA]
        simp only [go_sem, reduceCtorEq, Nat.reduceEqDiff, Nat.reduceAdd, Nat.reduceSub, Nat.reduceMul, Nat.reduceLeDiff, Int.reduceEq, Int.reduceLT, Int.reduceLE, Int.reduceAdd, Int.reduceMul, Int.reduceSub, Int.reduceNeg, Int.reduceToNat, reduceIte, Nat.reduceLT, h3, h6, hcd]
        refine Acc.app_keep hacc1 bound1 fun v' H' ha' keep => ?_
        obtain ⟨hB', nb'⟩ := keep q _ nb1 hB1
        simp only [go_sem, reduceCtorEq, Nat.reduceEqDiff, Nat.reduceAdd, Nat.reduceSub, Nat.reduceMul, Nat.reduceLeDiff, Int.reduceEq, Int.reduceLT, Int.reduceLE, Int.reduceAdd, Int.reduceMul, Int.reduceSub, Int.reduceNeg, Int.reduceToNat, reduceIte, Nat.reduceLT, h3, box_row hB', cB, hcg]
        refine Acc.app_step ha' (bound2 _) fun v2 H2 ha2 => ?_
        simp only [go_sem, reduceCtorEq, Nat.reduceEqDiff, Nat.reduceAdd, Nat.reduceSub, Nat.reduceMul, Nat.reduceLeDiff, Int.reduceEq, Int.reduceLT, Int.reduceLE, Int.reduceAdd, Int.reduceMul, Int.reduceSub, Int.reduceNeg, Int.reduceToNat, reduceIte, Nat.reduceLT, h9, hn]
        refine hnext (acc ++ [⟨a, d⟩, ⟨ge, gr⟩]) true _ _ (nxt2 hal) (by rw [← hw]; simp [cA]) ?_ ?_ ?_ ?_ ?_ ?_
        · simp only [go_sem, reduceCtorEq, Nat.reduceEqDiff, Nat.reduceAdd, Nat.reduceSub, Nat.reduceMul, Nat.reduceLeDiff, Int.reduceEq, Int.reduceLT, Int.reduceLE, Int.reduceAdd, Int.reduceMul, Int.reduceSub, Int.reduceNeg, Int.reduceToNat, reduceIte, Nat.reduceLT]
        · simp only [go_sem, reduceCtorEq, Nat.reduceEqDiff, Nat.reduceAdd, Nat.reduceSub, Nat.reduceMul, Nat.reduceLeDiff, Int.reduceEq, Int.reduceLT, Int.reduceLE, Int.reduceAdd, Int.reduceMul, Int.reduceSub, Int.reduceNeg, Int.reduceToNat, reduceIte, Nat.reduceLT]
        · simp only [go_sem, reduceCtorEq, Nat.reduceEqDiff, Nat.reduceAdd, Nat.reduceSub, Nat.reduceMul, Nat.reduceLeDiff, Int.reduceEq, Int.reduceLT, Int.reduceLE, Int.reduceAdd, Int.reduceMul, Int.reduceSub, Int.reduceNeg, Int.reduceToNat, reduceIte, Nat.reduceLT]
        · simp only [go_sem, reduceCtorEq, Nat.reduceEqDiff, Nat.reduceAdd, Nat.reduceSub, Nat.reduceMul, Nat.reduceLeDiff, Int.reduceEq, Int.reduceLT, Int.reduceLE, Int.reduceAdd, Int.reduceMul, Int.reduceSub, Int.reduceNeg, Int.reduceToNat, reduceIte, Nat.reduceLT]
        · simp only [go_sem, reduceCtorEq, Nat.reduceEqDiff, Nat.reduceAdd, Nat.reduceSub, Nat.reduceMul, Nat.reduceLeDiff, Int.reduceEq, Int.reduceLT, Int.reduceLE, Int.reduceAdd, Int.reduceMul, Int.reduceSub, Int.reduceNeg, Int.reduceToNat, reduceIte, Nat.reduceLT, hn]
        · simp only [go_sem, reduceCtorEq, Nat.reduceEqDiff, Nat.reduceAdd, Nat.reduceSub, Nat.reduceMul, Nat.reduceLeDiff, Int.reduceEq, Int.reduceLT, Int.reduceLE, Int.reduceAdd, Int.reduceMul, Int.reduceSub, Int.reduceNeg, Int.reduceToNat, reduceIte, Nat.reduceLT]; rw [hm2]; exact ha2
      · have hinn : (inn || decide (a < ge)) = inn := by
          cases inn with
          | true => rfl
          | false => simp at cA ⊢; omega
        rw [hinn, if_neg cA, List.append_nil] at hw
        cases inn with
        | true =>
          simp only [go_sem, reduceCtorEq, Nat.reduceEqDiff, Nat.reduceAdd, Nat.reduceSub, Nat.reduceMul, Nat.reduceLeDiff, Int.reduceEq, Int.reduceLT, Int.reduceLE, Int.reduceAdd, Int.reduceMul, Int.reduceSub, Int.reduceNeg, Int.reduceToNat, reduceIte, Nat.reduceLT, h3, box_row hB1, cB, hcg]
          refine Acc.app_step hacc1 bound1 fun v2 H2 ha2 => ?_
          simp only [go_sem, reduceCtorEq, Nat.reduceEqDiff, Nat.reduceAdd, Nat.reduceSub, Nat.reduceMul, Nat.reduceLeDiff, Int.reduceEq, Int.reduceLT, Int.reduceLE, Int.reduceAdd, Int.reduceMul, Int.reduceSub, Int.reduceNeg, Int.reduceToNat, reduceIte, Nat.reduceLT, h9, hn]
          refine hnext (acc ++ [⟨ge, gr⟩]) true _ _ (nxt1 hal) (by rw [← hw]; simp) ?_ ?_ ?_ ?_ ?_ ?_
          · simp only [go_sem, reduceCtorEq, Nat.reduceEqDiff, Nat.reduceAdd, Nat.reduceSub, Nat.reduceMul, Nat.reduceLeDiff, Int.reduceEq, Int.reduceLT, Int.reduceLE, Int.reduceAdd, Int.reduceMul, Int.reduceSub, Int.reduceNeg, Int.reduceToNat, reduceIte, Nat.reduceLT]
          · simp only [go_sem, reduceCtorEq, Nat.reduceEqDiff, Nat.reduceAdd, Nat.reduceSub, Nat.reduceMul, Nat.reduceLeDiff, Int.reduceEq, Int.reduceLT, Int.reduceLE, Int.reduceAdd, Int.reduceMul, Int.reduceSub, Int.reduceNeg, Int.reduceToNat, reduceIte, Nat.reduceLT]
          · simp only [go_sem, reduceCtorEq, Nat.reduceEqDiff, Nat.reduceAdd, Nat.reduceSub, Nat.reduceMul, Nat.reduceLeDiff, Int.reduceEq, Int.reduceLT, Int.reduceLE, Int.reduceAdd, Int.reduceMul, Int.reduceSub, Int.reduceNeg, Int.reduceToNat, reduceIte, Nat.reduceLT]
          · simp only [go_sem, reduceCtorEq, Nat.reduceEqDiff, Nat.reduceAdd, Nat.reduceSub, Nat.reduceMul, Nat.reduceLeDiff, Int.reduceEq, Int.reduceLT, Int.reduceLE, Int.reduceAdd, Int.reduceMul, Int.reduceSub, Int.reduceNeg, Int.reduceToNat, reduceIte, Nat.reduceLT, h8]
          · simp only [go_sem, reduceCtorEq, Nat.reduceEqDiff, Nat.reduceAdd, Nat.reduceSub, Nat.reduceMul, Nat.reduceLeDiff, Int.reduceEq, Int.reduceLT, Int.reduceLE, Int.reduceAdd, Int.reduceMul, Int.reduceSub, Int.reduceNeg, Int.reduceToNat, reduceIte, Nat.reduceLT, hn]
          · simp only [go_sem, reduceCtorEq, Nat.reduceEqDiff, Nat.reduceAdd, Nat.reduceSub, Nat.reduceMul, Nat.reduceLeDiff, Int.reduceEq, Int.reduceLT, Int.reduceLE, Int.reduceAdd, Int.reduceMul, Int.reduceSub, Int.reduceNeg, Int.reduceToNat, reduceIte, Nat.reduceLT]; rw [hm1]; exact ha2
        | false =>
          have cA' : ¬ (a < ge) := fun h => cA ⟨rfl, h⟩
          simp only [go_sem, reduceCtorEq, Nat.reduceEqDiff, Nat.reduceAdd, Nat.reduceSub, Nat.reduceMul, Nat.reduceLeDiff, Int.reduceEq, Int.reduceLT, Int.reduceLE, Int.reduceAdd, Int.reduceMul, Int.reduceSub, Int.reduceNeg, Int.reduceToNat, reduceIte, Nat.reduceLT, h3, box_row hB1, cA']
          simp only [go_sem, reduceCtorEq, Nat.reduceEqDiff, Nat.reduceAdd, Nat.reduceSub, Nat.reduceMul, Nat.reduceLeDiff, Int.reduceEq, Int.reduceLT, Int.reduceLE, Int.reduceAdd, Int.reduceMul, Int.reduceSub, Int.reduceNeg, Int.reduceToNat, reduceIte, Nat.reduceLT, h3, box_row hB1, cB, hcg]
          refine Acc.app_step hacc1 bound1 fun v2 H2 ha2 => ?_
          simp only [go_sem, reduceCtorEq, Nat.reduceEqDiff, Nat.reduceAdd, Nat.reduceSub, Nat.reduceMul, Nat.reduceLeDiff, Int.reduceEq, Int.reduceLT, Int.reduceLE, Int.reduceAdd, Int.reduceMul, Int.reduceSub, Int.reduceNeg, Int.reduceToNat, reduceIte, Nat.reduceLT, h9, hn]
          refine hnext (acc ++ [⟨ge, gr⟩]) false _ _ (nxt1 hal) (by rw [← hw]; simp) ?_ ?_ ?_ ?_ ?_ ?_
          · simp only [go_sem, reduceCtorEq, Nat.reduceEqDiff, Nat.reduceAdd, Nat.reduceSub, Nat.reduceMul, Nat.reduceLeDiff, Int.reduceEq, Int.reduceLT, Int.reduceLE, Int.reduceAdd, Int.reduceMul, Int.reduceSub, Int.reduceNeg, Int.reduceToNat, reduceIte, Nat.reduceLT]
          · simp only [go_sem, reduceCtorEq, Nat.reduceEqDiff, Nat.reduceAdd, Nat.reduceSub, Nat.reduceMul, Nat.reduceLeDiff, Int.reduceEq, Int.reduceLT, Int.reduceLE, Int.reduceAdd, Int.reduceMul, Int.reduceSub, Int.reduceNeg, Int.reduceToNat, reduceIte, Nat.reduceLT]
          · simp only [go_sem, reduceCtorEq, Nat.reduceEqDiff, Nat.reduceAdd, Nat.reduceSub, Nat.reduceMul, Nat.reduceLeDiff, Int.reduceEq, Int.reduceLT, Int.reduceLE, Int.reduceAdd, Int.reduceMul, Int.reduceSub, Int.reduceNeg, Int.reduceToNat, reduceIte, Nat.reduceLT]
          · simp only [go_sem, reduceCtorEq, Nat.reduceEqDiff, Nat.reduceAdd, Nat.reduceSub, Nat.reduceMul, Nat.reduceLeDiff, Int.reduceEq, Int.reduceLT, Int.reduceLE, Int.reduceAdd, Int.reduceMul, Int.reduceSub, Int.reduceNeg, Int.reduceToNat, reduceIte, Nat.reduceLT, h8]
          · simp only [go_sem, reduceCtorEq, Nat.reduceEqDiff, Nat.reduceAdd, Nat.reduceSub, Nat.reduceMul, Nat.reduceLeDiff, Int.reduceEq, Int.reduceLT, Int.reduceLE, Int.reduceAdd, Int.reduceMul, Int.reduceSub, Int.reduceNeg, Int.reduceToNat, reduceIte, Nat.reduceLT, hn]
          · simp only [go_sem, reduceCtorEq, Nat.reduceEqDiff, Nat.reduceAdd, Nat.reduceSub, Nat.reduceMul, Nat.reduceLeDiff, Int.reduceEq, Int.reduceLT, Int.reduceLE, Int.reduceAdd, Int.reduceMul, Int.reduceSub, Int.reduceNeg, Int.reduceToNat, reduceIte, Nat.reduceLT]; rw [hm1]; exact ha2

theorem r14_AddGot_ok (l : List Got) (h : Hdr) (hl : MayG l) (hm : h.May) (hs : l.length ≤ 100000) (hz : ∀ g ∈ l, g.runs.length ≤ 100000) : Pr 11 [.c (gotsC l), .agg h.cells] (.tup [.c (gotsC (addedG l h)), bC (!hasG l h)]) := by
  refine pure_ofW mixed is_r14_AddGot (by simp [closedAs, closedA, closed_gotsC, Hdr.closed]) fun hl' T => ?_
  unfold c_r14_AddGot
  have hh := r14_HasGot_ok l h
  have hof : Pr 25 [.c (dotsC [h.dot])] (.c (runsC (oneG h))) := r7_Of_ok [h.dot] (by simp)
  have hlo := r14_AddGot_loop l h.epoch h.frm h.seq (oneG h) (oneG_norm h).right (by have := oneG_len h; omega) hs (fun g hg => ⟨hz g hg, (hl.one g hg).2.2.right⟩)
  have hw := walkG_eq (h := h) (d := oneG h) hl
  cases hg : hasG l h with
  | true =>
    have hadd : addedG l h = l := by unfold addedG; rw [hg]; rfl
    rw [hadd]
    rw [hg] at hh
    clear hlo hw hof
    obtain ⟨a, b, c⟩ := h
    dsimp only [Hdr.cells, gotsC] at *
    simp only [go_sem, reduceCtorEq, Nat.reduceEqDiff, Nat.reduceAdd, Nat.reduceSub, Nat.reduceMul, Nat.reduceLeDiff, Int.reduceEq, Int.reduceLT, Int.reduceLE, Int.reduceAdd, Int.reduceMul, Int.reduceSub, Int.reduceNeg, Int.reduceToNat, reduceIte, Nat.reduceLT]
    refine callW_pure hh ?_
    simp only [go_sem, reduceCtorEq, Nat.reduceEqDiff, Nat.reduceAdd, Nat.reduceSub, Nat.reduceMul, Nat.reduceLeDiff, Int.reduceEq, Int.reduceLT, Int.reduceLE, Int.reduceAdd, Int.reduceMul, Int.reduceSub, Int.reduceNeg, Int.reduceToNat, reduceIte, Nat.reduceLT]
    exact told_pair (told_gots _ l)
  | false =>
    have hadd : addedG l h = addG h (oneG h) l := by unfold addedG; rw [hg]; rfl
    rw [hadd, ← hw]
    rw [hg] at hh
    have hlo := hlo (walkG h (oneG h) false l) T l [] [] false
    generalize oneG h = o at *
    obtain ⟨a, b, c⟩ := h
    dsimp only [Hdr.cells, Hdr.dot, Dot.cells, gotsC, runsC, dotsC, List.map_nil, List.map_cons] at *
    simp only [go_sem, reduceCtorEq, Nat.reduceEqDiff, Nat.reduceAdd, Nat.reduceSub, Nat.reduceMul, Nat.reduceLeDiff, Int.reduceEq, Int.reduceLT, Int.reduceLE, Int.reduceAdd, Int.reduceMul, Int.reduceSub, Int.reduceNeg, Int.reduceToNat, reduceIte, Nat.reduceLT]
    refine callW_pure hh ?_
    simp only [go_sem, reduceCtorEq, Nat.reduceEqDiff, Nat.reduceAdd, Nat.reduceSub, Nat.reduceMul, Nat.reduceLeDiff, Int.reduceEq, Int.reduceLT, Int.reduceLE, Int.reduceAdd, Int.reduceMul, Int.reduceSub, Int.reduceNeg, Int.reduceToNat, reduceIte, Nat.reduceLT]
    refine callW_pure hof ?_
    simp only [go_sem, reduceCtorEq, Nat.reduceEqDiff, Nat.reduceAdd, Nat.reduceSub, Nat.reduceMul, Nat.reduceLeDiff, Int.reduceEq, Int.reduceLT, Int.reduceLE, Int.reduceAdd, Int.reduceMul, Int.reduceSub, Int.reduceNeg, Int.reduceToNat, reduceIte, Nat.reduceLT]
    refine hlo _ _ rfl (by simp) ?_ ?_ ?_ ?_ ?_ ?_ rfl
    all_goals first | (simp only [go_sem, reduceCtorEq, Nat.reduceEqDiff, Nat.reduceAdd, Nat.reduceSub, Nat.reduceMul, Nat.reduceLeDiff, Int.reduceEq, Int.reduceLT, Int.reduceLE, Int.reduceAdd, Int.reduceMul, Int.reduceSub, Int.reduceNeg, Int.reduceToNat, reduceIte, Nat.reduceLT]; done) | (simp only [go_sem, reduceCtorEq, Nat.reduceEqDiff, Nat.reduceAdd, Nat.reduceSub, Nat.reduceMul, Nat.reduceLeDiff, Int.reduceEq, Int.reduceLT, Int.reduceLE, Int.reduceAdd, Int.reduceMul, Int.reduceSub, Int.reduceNeg, Int.reduceToNat, reduceIte, Nat.reduceLT]; exact .nil)

theorem l19_awake_ok : Pr 6 [] (bC true) := by
  refine pure_of mixed is_l19_awake rfl fun hl T => ?_
  unfold c_l19_awake
  have hm : Hdr.May ⟨2, 1, 5⟩ := ⟨by decide, by decide, by decide, by decide, by decide⟩
  have ha := window_Add_nil ⟨2, 1, 5⟩ hm
  have hh := window_Has_ok [] ⟨1, 1, 1⟩ .nil (by simp)
  have hl1 : MayG [⟨2, oneG ⟨2, 1, 5⟩⟩] := addG_may (l := []) hm .nil
  have hh2 := window_Has_ok [⟨2, oneG ⟨2, 1, 5⟩⟩] ⟨2, 1, 5⟩ hl1 (by simp)
  have e2 : hasG [⟨2, oneG ⟨2, 1, 5⟩⟩] ⟨2, 1, 5⟩ = true := by
    have := addG_has (l := []) hm .nil ⟨2, 1, 5⟩
    simpa [addG, hasG] using this
  have e1 : hasG [] ⟨1, 1, 1⟩ = false := rfl
  rw [e2] at hh2
  rw [e1] at hh
  generalize oneG ⟨2, 1, 5⟩ = o at *
  have hco := closed_runs o
  dsimp only [Hdr.cells, gotsC, runsC, List.map_nil, List.map_cons, Got.cells] at *
  have h01 : ((1 : Nat) : Int) = 1 := rfl
  have hh' := hh.wk (args := [.c .nilS, .agg [.int .i64 1, .int .i64 1, .int .i64 1]]) (.cons (.c (.nilS 2)) (.cons (.same _) .nil))
  have ha' := ha.wk (args := [.c .nilS, .agg [.int .i64 2, .int .i64 1, .int .i64 5]]) (.cons (.c (.nilS 2)) (.cons (.same _) .nil))
  simp only [go_sem, reduceCtorEq, Nat.reduceEqDiff, Nat.reduceAdd, Nat.reduceSub, Nat.reduceMul, Nat.reduceLeDiff, Int.reduceEq, Int.reduceLT, Int.reduceLE, Int.reduceAdd, Int.reduceMul, Int.reduceSub, Int.reduceNeg, Int.reduceToNat, reduceIte, Nat.reduceLT]
  refine callW_pure ha' ?_
  simp only [go_sem, reduceCtorEq, Nat.reduceEqDiff, Nat.reduceAdd, Nat.reduceSub, Nat.reduceMul, Nat.reduceLeDiff, Int.reduceEq, Int.reduceLT, Int.reduceLE, Int.reduceAdd, Int.reduceMul, Int.reduceSub, Int.reduceNeg, Int.reduceToNat, reduceIte, Nat.reduceLT]
  refine callW_pure hh' ?_
  simp only [go_sem, reduceCtorEq, Nat.reduceEqDiff, Nat.reduceAdd, Nat.reduceSub, Nat.reduceMul, Nat.reduceLeDiff, Int.reduceEq, Int.reduceLT, Int.reduceLE, Int.reduceAdd, Int.reduceMul, Int.reduceSub, Int.reduceNeg, Int.reduceToNat, reduceIte, Nat.reduceLT, h01]
  refine callW_pure hh2 ?_
  simp only [go_sem, reduceCtorEq, Nat.reduceEqDiff, Nat.reduceAdd, Nat.reduceSub, Nat.reduceMul, Nat.reduceLeDiff, Int.reduceEq, Int.reduceLT, Int.reduceLE, Int.reduceAdd, Int.reduceMul, Int.reduceSub, Int.reduceNeg, Int.reduceToNat, reduceIte, Nat.reduceLT]
  simp [viewA, viewFn, viewC, viewFs, viewCs, viewAs, closedC, closedCs]

end Go.Proofs.Ytmdblemjlmfbbaa.Eng
