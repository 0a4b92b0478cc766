/- Contracts of what tells lists of which envelopes came apart: window.May, the document's MayHeader, MayGot, HasGot, SameGot. No statement of the seat is proved here. -/
import Derived.Test.YtmdblemjlmfbbaaZWinT
import Derived.Test.YtmdblemjlmfbbaaZDoR
import Derived.Test.YtmdblemjlmfbbaaZPartC
import Derived.Test.YtmdblemjlmfbbaaZLitI
namespace Go.Proofs.Ytmdblemjlmfbbaa.Eng
open Go
set_option linter.unusedVariables false
set_option linter.unusedSimpArgs false
attribute [go_sem] Got.cells Hdr.cells closed_gots gotsC

theorem mayGF_bad {p : Option Int} {g : Got} {r : List Got} (h : badG p g = true) : mayGF p (g :: r) = false := by rw [mayGF, h]; rfl
theorem mayGF_good {p : Option Int} {g : Got} {r : List Got} (h : badG p g = false) : mayGF p (g :: r) = mayGF (some g.epoch) r := by rw [mayGF, h]; rfl

theorem window_May_ok (l : List Got) : Pr 7 [.c (gotsC l)] (bC (mayG l)) := by
  refine pure_of mixed is_window_May (by simp [closedAs, closedA, closed_gotsC]) fun hl T => ?_
  have hlen : l.length ≤ maxLen := by simp [lenAs, lenA, lenC, gotsC] at hl; first | exact hl | exact hl.1 | exact hl.1.1
  unfold c_window_May
  dsimp only [gotsC]
  generalize hv : mayG l = v
  simp only [go_sem, reduceCtorEq, Nat.reduceEqDiff, Nat.reduceAdd, Nat.reduceSub, Nat.reduceMul, Nat.reduceLeDiff, Int.reduceEq, Int.reduceLT, Int.reduceLE, Int.reduceAdd, Int.reduceMul, Int.reduceSub, Int.reduceNeg, Int.reduceToNat, reduceIte, Nat.reduceLT]
  have loop : ∀ (rest pre : List Got) (e : Env) (H : Heap), l = pre ++ rest → e 0 = .c (.lst 2 (l.map Got.cells)) → e 5 = .c (.lst 2 (l.map Got.cells)) → e 6 = iC (l.map Got.cells).length → e 7 = iC pre.length →
      mayGF (pre.getLast?.map Got.epoch) rest = v → Run (progT Try.prog T) ⟨[.tmp 2], fun u E => viewA E u = some (bC v)⟩ [.loop window_May_L0, .blk 0, .code window_May_K1] e H := by
    intro rest
    induction rest with
    | nil =>
      intro pre e H hp h0 h5 h6 h7 hm
      have hc := not_lt_at (f := Got.cells) hp
      refine run_again ?_
      conv => enter [3, 1]; unfold window_May_L0
      simp only [go_sem, reduceCtorEq, Nat.reduceEqDiff, Nat.reduceAdd, Nat.reduceSub, Nat.reduceMul, Nat.reduceLeDiff, Int.reduceEq, Int.reduceLT, Int.reduceLE, Int.reduceAdd, Int.reduceMul, Int.reduceSub, Int.reduceNeg, Int.reduceToNat, reduceIte, Nat.reduceLT, h0, h5, h6, h7, hc]
      unfold window_May_K1
      simp only [go_sem, reduceCtorEq, Nat.reduceEqDiff, Nat.reduceAdd, Nat.reduceSub, Nat.reduceMul, Nat.reduceLeDiff, Int.reduceEq, Int.reduceLT, Int.reduceLE, Int.reduceAdd, Int.reduceMul, Int.reduceSub, Int.reduceNeg, Int.reduceToNat, reduceIte, Nat.reduceLT]
      simp [viewA, viewFn, viewC, viewFs, viewCs, viewAs, closedC, closedCs, ← hm, mayGF]
    | cons r rest ih =>
      intro pre e H hp h0 h5 h6 h7 hm
      have hc := lt_at (f := Got.cells) hp
      have hr := map_at' (f := Got.cells) hp
      have hn := next_at hp hlen
      obtain ⟨ge, gr⟩ := r
      dsimp only [Got.cells, runsC] at hr
      have hmr := dots_May_ok gr
      dsimp only [runsC] at hmr
      have go : ∀ e' : Env, e' 0 = e 0 → e' 5 = e 5 → e' 6 = e 6 → e' 7 = iC (pre ++ [(⟨ge, gr⟩ : Got)]).length → badG (pre.getLast?.map Got.epoch) ⟨ge, gr⟩ = false → ∀ H', Run (progT Try.prog T) ⟨[.tmp 2], fun u E => viewA E u = some (bC v)⟩ [.loop window_May_L0, .blk 0, .code window_May_K1] e' H' := by
        intro e' g0 g5 g6 g7 gb H'
        exact ih (pre ++ [(⟨ge, gr⟩ : Got)]) e' H' (by simp [hp]) (by rw [g0, h0]) (by rw [g5, h5]) (by rw [g6, h6]) g7 (by rw [← hm, mayGF_good gb]; simp)
      have bad : badG (pre.getLast?.map Got.epoch) ⟨ge, gr⟩ = true → v = false := fun h => by rw [← hm, mayGF_bad h]
      refine run_again ?_
      conv => enter [3, 1]; unfold window_May_L0
      simp only [go_sem, reduceCtorEq, Nat.reduceEqDiff, Nat.reduceAdd, Nat.reduceSub, Nat.reduceMul, Nat.reduceLeDiff, Int.reduceEq, Int.reduceLT, Int.reduceLE, Int.reduceAdd, Int.reduceMul, Int.reduceSub, Int.reduceNeg, Int.reduceToNat, reduceIte, Nat.reduceLT, h0, h5, h6, h7, hc, hr]
      by_cases c1 : ge < 1
      · have := bad (by simp [badG, c1])
        simp only [go_sem, reduceCtorEq, Nat.reduceEqDiff, Nat.reduceAdd, Nat.reduceSub, Nat.reduceMul, Nat.reduceLeDiff, Int.reduceEq, Int.reduceLT, Int.reduceLE, Int.reduceAdd, Int.reduceMul, Int.reduceSub, Int.reduceNeg, Int.reduceToNat, reduceIte, Nat.reduceLT, c1]
        simp [viewA, viewFn, viewC, viewFs, viewCs, viewAs, closedC, closedCs, this]
      rcases List.eq_nil_or_concat pre with rfl | ⟨pre', p, rfl⟩
      · simp only [go_sem, reduceCtorEq, Nat.reduceEqDiff, Nat.reduceAdd, Nat.reduceSub, Nat.reduceMul, Nat.reduceLeDiff, Int.reduceEq, Int.reduceLT, Int.reduceLE, Int.reduceAdd, Int.reduceMul, Int.reduceSub, Int.reduceNeg, Int.reduceToNat, reduceIte, Nat.reduceLT, c1, h0, h5, h6, h7]
        by_cases c2 : gr.length = 0
        · have := bad (by simp [badG, c2])
          have c2' : ((gr.map Rn.cells).length : Int) = 0 := by simp [c2]
          simp only [go_sem, reduceCtorEq, Nat.reduceEqDiff, Nat.reduceAdd, Nat.reduceSub, Nat.reduceMul, Nat.reduceLeDiff, Int.reduceEq, Int.reduceLT, Int.reduceLE, Int.reduceAdd, Int.reduceMul, Int.reduceSub, Int.reduceNeg, Int.reduceToNat, reduceIte, Nat.reduceLT, c2']
          simp [viewA, viewFn, viewC, viewFs, viewCs, viewAs, closedC, closedCs, this]
        · have c2' : ¬ ((gr.map Rn.cells).length : Int) = 0 := by simp; simpa using c2
          simp only [go_sem, reduceCtorEq, Nat.reduceEqDiff, Nat.reduceAdd, Nat.reduceSub, Nat.reduceMul, Nat.reduceLeDiff, Int.reduceEq, Int.reduceLT, Int.reduceLE, Int.reduceAdd, Int.reduceMul, Int.reduceSub, Int.reduceNeg, Int.reduceToNat, reduceIte, Nat.reduceLT, c2']
          refine callW_pure hmr ?_
          cases c3 : mayRuns gr with
          | false =>
            have := bad (by simp [badG, c3])
            simp only [go_sem, reduceCtorEq, Nat.reduceEqDiff, Nat.reduceAdd, Nat.reduceSub, Nat.reduceMul, Nat.reduceLeDiff, Int.reduceEq, Int.reduceLT, Int.reduceLE, Int.reduceAdd, Int.reduceMul, Int.reduceSub, Int.reduceNeg, Int.reduceToNat, reduceIte, Nat.reduceLT]
            simp [viewA, viewFn, viewC, viewFs, viewCs, viewAs, closedC, closedCs, this]
          | true =>
            simp only [go_sem, reduceCtorEq, Nat.reduceEqDiff, Nat.reduceAdd, Nat.reduceSub, Nat.reduceMul, Nat.reduceLeDiff, Int.reduceEq, Int.reduceLT, Int.reduceLE, Int.reduceAdd, Int.reduceMul, Int.reduceSub, Int.reduceNeg, Int.reduceToNat, reduceIte, Nat.reduceLT, h7]
            refine go _ ?_ ?_ ?_ ?_ ?_ _
            all_goals first | (simp only [go_sem, reduceCtorEq, Nat.reduceEqDiff, Nat.reduceAdd, Nat.reduceSub, Nat.reduceMul, Nat.reduceLeDiff, Int.reduceEq, Int.reduceLT, Int.reduceLE, Int.reduceAdd, Int.reduceMul, Int.reduceSub, Int.reduceNeg, Int.reduceToNat, reduceIte, Nat.reduceLT]; done) | rfl | (simp [badG, c1, c2, c3]; done)
      · obtain ⟨pe, pr⟩ := p
        have hq : (l.map Got.cells)[pre'.length]? = some [.int .i64 pe, .lst 3 (pr.map Rn.cells)] := by rw [hp]; simp [Got.cells, runsC]
        have hprev := prev_at (pre := pre') (x := (⟨pe, pr⟩ : Got)) (by rw [hp] at hlen; simp at hlen ⊢; omega)
        simp only [List.concat_eq_append, List.getLast?_append, List.getLast?_singleton, Option.some_or, Option.map_some] at h7 hn go bad ⊢
        simp only [go_sem, reduceCtorEq, Nat.reduceEqDiff, Nat.reduceAdd, Nat.reduceSub, Nat.reduceMul, Nat.reduceLeDiff, Int.reduceEq, Int.reduceLT, Int.reduceLE, Int.reduceAdd, Int.reduceMul, Int.reduceSub, Int.reduceNeg, Int.reduceToNat, reduceIte, Nat.reduceLT, c1, pos_at, h0, h5, h6, h7, hprev, hq]
        by_cases c0 : ge ≤ pe
        · have := bad (by simp [badG, c0])
          simp only [go_sem, reduceCtorEq, Nat.reduceEqDiff, Nat.reduceAdd, Nat.reduceSub, Nat.reduceMul, Nat.reduceLeDiff, Int.reduceEq, Int.reduceLT, Int.reduceLE, Int.reduceAdd, Int.reduceMul, Int.reduceSub, Int.reduceNeg, Int.reduceToNat, reduceIte, Nat.reduceLT, c0]
          simp [viewA, viewFn, viewC, viewFs, viewCs, viewAs, closedC, closedCs, this]
        simp only [go_sem, reduceCtorEq, Nat.reduceEqDiff, Nat.reduceAdd, Nat.reduceSub, Nat.reduceMul, Nat.reduceLeDiff, Int.reduceEq, Int.reduceLT, Int.reduceLE, Int.reduceAdd, Int.reduceMul, Int.reduceSub, Int.reduceNeg, Int.reduceToNat, reduceIte, Nat.reduceLT, c0]
        by_cases c2 : gr.length = 0
        · have := bad (by simp [badG, c2])
          have c2' : ((gr.map Rn.cells).length : Int) = 0 := by simp [c2]
          simp only [go_sem, reduceCtorEq, Nat.reduceEqDiff, Nat.reduceAdd, Nat.reduceSub, Nat.reduceMul, Nat.reduceLeDiff, Int.reduceEq, Int.reduceLT, Int.reduceLE, Int.reduceAdd, Int.reduceMul, Int.reduceSub, Int.reduceNeg, Int.reduceToNat, reduceIte, Nat.reduceLT, c2']
          simp [viewA, viewFn, viewC, viewFs, viewCs, viewAs, closedC, closedCs, this]
        · have c2' : ¬ ((gr.map Rn.cells).length : Int) = 0 := by simp; simpa using c2
          simp only [go_sem, reduceCtorEq, Nat.reduceEqDiff, Nat.reduceAdd, Nat.reduceSub, Nat.reduceMul, Nat.reduceLeDiff, Int.reduceEq, Int.reduceLT, Int.reduceLE, Int.reduceAdd, Int.reduceMul, Int.reduceSub, Int.reduceNeg, Int.reduceToNat, reduceIte, Nat.reduceLT, c2']
          refine callW_pure hmr ?_
          cases c3 : mayRuns gr with
          | false =>
            have := bad (by simp [badG, c3])
            simp only [go_sem, reduceCtorEq, Nat.reduceEqDiff, Nat.reduceAdd, Nat.reduceSub, Nat.reduceMul, Nat.reduceLeDiff, Int.reduceEq, Int.reduceLT, Int.reduceLE, Int.reduceAdd, Int.reduceMul, Int.reduceSub, Int.reduceNeg, Int.reduceToNat, reduceIte, Nat.reduceLT]
            simp [viewA, viewFn, viewC, viewFs, viewCs, viewAs, closedC, closedCs, this]
          | true =>
            simp only [go_sem, reduceCtorEq, Nat.reduceEqDiff, Nat.reduceAdd, Nat.reduceSub, Nat.reduceMul, Nat.reduceLeDiff, Int.reduceEq, Int.reduceLT, Int.reduceLE, Int.reduceAdd, Int.reduceMul, Int.reduceSub, Int.reduceNeg, Int.reduceToNat, reduceIte, Nat.reduceLT, h7, hn]
            refine go _ ?_ ?_ ?_ ?_ ?_ _
            all_goals first | (simp only [go_sem, reduceCtorEq, Nat.reduceEqDiff, Nat.reduceAdd, Nat.reduceSub, Nat.reduceMul, Nat.reduceLeDiff, Int.reduceEq, Int.reduceLT, Int.reduceLE, Int.reduceAdd, Int.reduceMul, Int.reduceSub, Int.reduceNeg, Int.reduceToNat, reduceIte, Nat.reduceLT, hn]; done) | rfl | (simp [badG, c0, c1, c2, c3]; done)
  exact loop l [] _ _ rfl rfl rfl rfl rfl hv

theorem r14_MayGot_ok (l : List Got) : Pr 8 [.c (gotsC l)] (bC (mayG l)) := by
  refine pure_of mixed is_r14_MayGot (by simp [closedAs, closedA, closed_gotsC]) fun hl T => ?_
  have hlen : l.length ≤ maxLen := by simp [lenAs, lenA, lenC, gotsC] at hl; first | exact hl | exact hl.1 | exact hl.1.1
  unfold c_r14_MayGot
  dsimp only [gotsC]
  generalize hv : mayG l = v
  simp only [go_sem, reduceCtorEq, Nat.reduceEqDiff, Nat.reduceAdd, Nat.reduceSub, Nat.reduceMul, Nat.reduceLeDiff, Int.reduceEq, Int.reduceLT, Int.reduceLE, Int.reduceAdd, Int.reduceMul, Int.reduceSub, Int.reduceNeg, Int.reduceToNat, reduceIte, Nat.reduceLT]
  have loop : ∀ (rest pre : List Got) (e : Env) (H : Heap), l = pre ++ rest → e 0 = .c (.lst 2 (l.map Got.cells)) → e 3 = iC pre.length →
      mayGF (pre.getLast?.map Got.epoch) rest = v → Run (progT Try.prog T) ⟨[.tmp 2], fun u E => viewA E u = some (bC v)⟩ [.loop r14_MayGot_L0, .blk 0, .code r14_MayGot_K1] e H := by
    intro rest
    induction rest with
    | nil =>
      intro pre e H hp h0 h3 hm
      have hc := not_lt_at (f := Got.cells) hp
      refine run_again ?_
      conv => enter [3, 1]; unfold r14_MayGot_L0
      simp only [go_sem, reduceCtorEq, Nat.reduceEqDiff, Nat.reduceAdd, Nat.reduceSub, Nat.reduceMul, Nat.reduceLeDiff, Int.reduceEq, Int.reduceLT, Int.reduceLE, Int.reduceAdd, Int.reduceMul, Int.reduceSub, Int.reduceNeg, Int.reduceToNat, reduceIte, Nat.reduceLT, h0, h3, hc]
      unfold r14_MayGot_K1
      simp only [go_sem, reduceCtorEq, Nat.reduceEqDiff, Nat.reduceAdd, Nat.reduceSub, Nat.reduceMul, Nat.reduceLeDiff, Int.reduceEq, Int.reduceLT, Int.reduceLE, Int.reduceAdd, Int.reduceMul, Int.reduceSub, Int.reduceNeg, Int.reduceToNat, reduceIte, Nat.reduceLT]
      simp [viewA, viewFn, viewC, viewFs, viewCs, viewAs, closedC, closedCs, ← hm, mayGF]
    | cons r rest ih =>
      intro pre e H hp h0 h3 hm
      have hc := lt_at (f := Got.cells) hp
      have hr := map_at' (f := Got.cells) hp
      have hn := next_at hp hlen
      obtain ⟨ge, gr⟩ := r
      dsimp only [Got.cells, runsC] at hr
      have hmr := r7_MayRuns_ok gr
      dsimp only [runsC] at hmr
      have go : ∀ e' : Env, e' 0 = e 0 → e' 3 = iC (pre ++ [(⟨ge, gr⟩ : Got)]).length → badG (pre.getLast?.map Got.epoch) ⟨ge, gr⟩ = false → ∀ H', Run (progT Try.prog T) ⟨[.tmp 2], fun u E => viewA E u = some (bC v)⟩ [.loop r14_MayGot_L0, .blk 0, .code r14_MayGot_K1] e' H' := by
        intro e' g0 g3 gb H'
        exact ih (pre ++ [(⟨ge, gr⟩ : Got)]) e' H' (by simp [hp]) (by rw [g0, h0]) g3 (by rw [← hm, mayGF_good gb]; simp)
      have bad : badG (pre.getLast?.map Got.epoch) ⟨ge, gr⟩ = true → v = false := fun h => by rw [← hm, mayGF_bad h]
      refine run_again ?_
      conv => enter [3, 1]; unfold r14_MayGot_L0
      simp only [go_sem, reduceCtorEq, Nat.reduceEqDiff, Nat.reduceAdd, Nat.reduceSub, Nat.reduceMul, Nat.reduceLeDiff, Int.reduceEq, Int.reduceLT, Int.reduceLE, Int.reduceAdd, Int.reduceMul, Int.reduceSub, Int.reduceNeg, Int.reduceToNat, reduceIte, Nat.reduceLT, h0, h3, hc, hr]
      by_cases c1 : ge < 1
      · have := bad (by simp [badG, c1])
        simp only [go_sem, reduceCtorEq, Nat.reduceEqDiff, Nat.reduceAdd, Nat.reduceSub, Nat.reduceMul, Nat.reduceLeDiff, Int.reduceEq, Int.reduceLT, Int.reduceLE, Int.reduceAdd, Int.reduceMul, Int.reduceSub, Int.reduceNeg, Int.reduceToNat, reduceIte, Nat.reduceLT, c1]
        simp [viewA, viewFn, viewC, viewFs, viewCs, viewAs, closedC, closedCs, this]
      rcases List.eq_nil_or_concat pre with rfl | ⟨pre', p, rfl⟩
      · simp only [List.length_nil, Int.natCast_zero] at h3 hr hc
        have hx0 : ∀ H : Heap, vIx 2 (.c (.lst 2 (l.map Got.cells))) (iC 0) H = some (.c (.fp [.int .i64 ge, .lst 3 (gr.map Rn.cells)] 0), H) := fun H => by
          have h := vIx_nat (H := H) (sz := 2) (rows := l.map Got.cells) (q := 0) (ik := .i64)
          rw [hr] at h
          exact h
        simp only [go_sem, reduceCtorEq, Nat.reduceEqDiff, Nat.reduceAdd, Nat.reduceSub, Nat.reduceMul, Nat.reduceLeDiff, Int.reduceEq, Int.reduceLT, Int.reduceLE, Int.reduceAdd, Int.reduceMul, Int.reduceSub, Int.reduceNeg, Int.reduceToNat, reduceIte, Nat.reduceLT, c1, h0, h3, hr, hx0]
        by_cases c2 : gr.length = 0
        · have := bad (by simp [badG, c2])
          have c2' : ((gr.map Rn.cells).length : Int) = 0 := by simp [c2]
          simp only [go_sem, reduceCtorEq, Nat.reduceEqDiff, Nat.reduceAdd, Nat.reduceSub, Nat.reduceMul, Nat.reduceLeDiff, Int.reduceEq, Int.reduceLT, Int.reduceLE, Int.reduceAdd, Int.reduceMul, Int.reduceSub, Int.reduceNeg, Int.reduceToNat, reduceIte, Nat.reduceLT, c2']
          simp [viewA, viewFn, viewC, viewFs, viewCs, viewAs, closedC, closedCs, this]
        · have c2' : ¬ ((gr.map Rn.cells).length : Int) = 0 := by simp; simpa using c2
          simp only [go_sem, reduceCtorEq, Nat.reduceEqDiff, Nat.reduceAdd, Nat.reduceSub, Nat.reduceMul, Nat.reduceLeDiff, Int.reduceEq, Int.reduceLT, Int.reduceLE, Int.reduceAdd, Int.reduceMul, Int.reduceSub, Int.reduceNeg, Int.reduceToNat, reduceIte, Nat.reduceLT, c2', h0, h3, hr, hx0]
          refine callW_pure hmr ?_
          cases c3 : mayRuns gr with
          | false =>
            have := bad (by simp [badG, c3])
            simp only [go_sem, reduceCtorEq, Nat.reduceEqDiff, Nat.reduceAdd, Nat.reduceSub, Nat.reduceMul, Nat.reduceLeDiff, Int.reduceEq, Int.reduceLT, Int.reduceLE, Int.reduceAdd, Int.reduceMul, Int.reduceSub, Int.reduceNeg, Int.reduceToNat, reduceIte, Nat.reduceLT]
            simp [viewA, viewFn, viewC, viewFs, viewCs, viewAs, closedC, closedCs, this]
          | true =>
            simp only [go_sem, reduceCtorEq, Nat.reduceEqDiff, Nat.reduceAdd, Nat.reduceSub, Nat.reduceMul, Nat.reduceLeDiff, Int.reduceEq, Int.reduceLT, Int.reduceLE, Int.reduceAdd, Int.reduceMul, Int.reduceSub, Int.reduceNeg, Int.reduceToNat, reduceIte, Nat.reduceLT, h3]
            refine go _ ?_ ?_ ?_ _
            all_goals first | (simp only [go_sem, reduceCtorEq, Nat.reduceEqDiff, Nat.reduceAdd, Nat.reduceSub, Nat.reduceMul, Nat.reduceLeDiff, Int.reduceEq, Int.reduceLT, Int.reduceLE, Int.reduceAdd, Int.reduceMul, Int.reduceSub, Int.reduceNeg, Int.reduceToNat, reduceIte, Nat.reduceLT]; done) | rfl | (simp [badG, c1, c2, c3]; done)
      · obtain ⟨pe, pr⟩ := p
        have hq : (l.map Got.cells)[pre'.length]? = some [.int .i64 pe, .lst 3 (pr.map Rn.cells)] := by rw [hp]; simp [Got.cells, runsC]
        have hprev := prev_at (pre := pre') (x := (⟨pe, pr⟩ : Got)) (by rw [hp] at hlen; simp at hlen ⊢; omega)
        simp only [List.concat_eq_append, List.getLast?_append, List.getLast?_singleton, Option.some_or, Option.map_some] at h3 hr hc hn go bad ⊢
        simp only [go_sem, reduceCtorEq, Nat.reduceEqDiff, Nat.reduceAdd, Nat.reduceSub, Nat.reduceMul, Nat.reduceLeDiff, Int.reduceEq, Int.reduceLT, Int.reduceLE, Int.reduceAdd, Int.reduceMul, Int.reduceSub, Int.reduceNeg, Int.reduceToNat, reduceIte, Nat.reduceLT, c1, pos_at, h0, h3, hr, hprev, hq]
        by_cases c0 : ge ≤ pe
        · have := bad (by simp [badG, c0])
          simp only [go_sem, reduceCtorEq, Nat.reduceEqDiff, Nat.reduceAdd, Nat.reduceSub, Nat.reduceMul, Nat.reduceLeDiff, Int.reduceEq, Int.reduceLT, Int.reduceLE, Int.reduceAdd, Int.reduceMul, Int.reduceSub, Int.reduceNeg, Int.reduceToNat, reduceIte, Nat.reduceLT, c0]
          simp [viewA, viewFn, viewC, viewFs, viewCs, viewAs, closedC, closedCs, this]
        simp only [go_sem, reduceCtorEq, Nat.reduceEqDiff, Nat.reduceAdd, Nat.reduceSub, Nat.reduceMul, Nat.reduceLeDiff, Int.reduceEq, Int.reduceLT, Int.reduceLE, Int.reduceAdd, Int.reduceMul, Int.reduceSub, Int.reduceNeg, Int.reduceToNat, reduceIte, Nat.reduceLT, c0, h0, h3, hr]
        by_cases c2 : gr.length = 0
        · have := bad (by simp [badG, c2])
          have c2' : ((gr.map Rn.cells).length : Int) = 0 := by simp [c2]
          simp only [go_sem, reduceCtorEq, Nat.reduceEqDiff, Nat.reduceAdd, Nat.reduceSub, Nat.reduceMul, Nat.reduceLeDiff, Int.reduceEq, Int.reduceLT, Int.reduceLE, Int.reduceAdd, Int.reduceMul, Int.reduceSub, Int.reduceNeg, Int.reduceToNat, reduceIte, Nat.reduceLT, c2']
          simp [viewA, viewFn, viewC, viewFs, viewCs, viewAs, closedC, closedCs, this]
        · have c2' : ¬ ((gr.map Rn.cells).length : Int) = 0 := by simp; simpa using c2
          simp only [go_sem, reduceCtorEq, Nat.reduceEqDiff, Nat.reduceAdd, Nat.reduceSub, Nat.reduceMul, Nat.reduceLeDiff, Int.reduceEq, Int.reduceLT, Int.reduceLE, Int.reduceAdd, Int.reduceMul, Int.reduceSub, Int.reduceNeg, Int.reduceToNat, reduceIte, Nat.reduceLT, c2', h0, h3, hr]
          refine callW_pure hmr ?_
          cases c3 : mayRuns gr with
          | false =>
            have := bad (by simp [badG, c3])
            simp only [go_sem, reduceCtorEq, Nat.reduceEqDiff, Nat.reduceAdd, Nat.reduceSub, Nat.reduceMul, Nat.reduceLeDiff, Int.reduceEq, Int.reduceLT, Int.reduceLE, Int.reduceAdd, Int.reduceMul, Int.reduceSub, Int.reduceNeg, Int.reduceToNat, reduceIte, Nat.reduceLT]
            simp [viewA, viewFn, viewC, viewFs, viewCs, viewAs, closedC, closedCs, this]
          | true =>
            simp only [go_sem, reduceCtorEq, Nat.reduceEqDiff, Nat.reduceAdd, Nat.reduceSub, Nat.reduceMul, Nat.reduceLeDiff, Int.reduceEq, Int.reduceLT, Int.reduceLE, Int.reduceAdd, Int.reduceMul, Int.reduceSub, Int.reduceNeg, Int.reduceToNat, reduceIte, Nat.reduceLT, h3, hn]
            refine go _ ?_ ?_ ?_ _
            all_goals first | (simp only [go_sem, reduceCtorEq, Nat.reduceEqDiff, Nat.reduceAdd, Nat.reduceSub, Nat.reduceMul, Nat.reduceLeDiff, Int.reduceEq, Int.reduceLT, Int.reduceLE, Int.reduceAdd, Int.reduceMul, Int.reduceSub, Int.reduceNeg, Int.reduceToNat, reduceIte, Nat.reduceLT, hn]; done) | rfl | (simp [badG, c0, c1, c2, c3]; done)
  exact loop l [] _ _ rfl rfl rfl hv

theorem r14_MayHeader_ok (h : Hdr) : Pr 9 [.agg h.cells] (bC (mayH h)) := by
  obtain ⟨a, b, c⟩ := h
  refine pure_of mixed is_r14_MayHeader rfl fun hl T => ?_
  unfold c_r14_MayHeader
  dsimp only [Hdr.cells]
  simp only [go_sem, reduceCtorEq, Nat.reduceEqDiff, Nat.reduceAdd, Nat.reduceSub, Nat.reduceMul, Nat.reduceLeDiff, Int.reduceEq, Int.reduceLT, Int.reduceLE, Int.reduceAdd, Int.reduceMul, Int.reduceSub, Int.reduceNeg, Int.reduceToNat, reduceIte, Nat.reduceLT]
  repeat' (first | (first | refine guardW_split (fun h => ?_) (fun h => ?_) | refine condW_split (fun h => ?_) (fun h => ?_) | refine guardW_nsplit (fun h => ?_) (fun h => ?_) | refine condW_nsplit (fun h => ?_) (fun h => ?_) | refine guardW_nbool (fun h => ?_) (fun h => ?_) | refine condW_ncases (fun h => ?_) (fun h => ?_) | refine guardW_bool (fun h => ?_) (fun h => ?_) | refine condW_cases (fun h => ?_) (fun h => ?_)) | simp only [go_sem, reduceCtorEq, Nat.reduceEqDiff, Nat.reduceAdd, Nat.reduceSub, Nat.reduceMul, Nat.reduceLeDiff, Int.reduceEq, Int.reduceLT, Int.reduceLE, Int.reduceAdd, Int.reduceMul, Int.reduceSub, Int.reduceNeg, Int.reduceToNat, reduceIte, Nat.reduceLT, *])
  all_goals simp [viewA, viewFn, viewC, viewFs, viewCs, viewAs, closedC, closedCs, mayH, *]

theorem r14_HasGot_ok (l : List Got) (h : Hdr) : Pr 13 [.c (gotsC l), .agg h.cells] (bC (hasG l h)) := by
  refine pure_of mixed is_r14_HasGot (by simp [closedAs, closedA, closed_gotsC, Hdr.closed]) fun hl T => ?_
  have hlen : l.length ≤ maxLen := by simp [lenAs, lenA, lenC, gotsC] at hl; first | exact hl | exact hl.1 | exact hl.1.1
  unfold c_r14_HasGot
  dsimp only [gotsC]
  generalize hv : hasG l h = v
  obtain ⟨a, b, c⟩ := h
  simp only [go_sem, reduceCtorEq, Nat.reduceEqDiff, Nat.reduceAdd, Nat.reduceSub, Nat.reduceMul, Nat.reduceLeDiff, Int.reduceEq, Int.reduceLT, Int.reduceLE, Int.reduceAdd, Int.reduceMul, Int.reduceSub, Int.reduceNeg, Int.reduceToNat, reduceIte, Nat.reduceLT]
  have loop : ∀ (rest pre : List Got) (e : Env) (H : Heap), l = pre ++ rest → e 0 = .c (.lst 2 (l.map Got.cells)) → e 3 = .c (.fp [.int .i64 a, .int .i64 b, .int .i64 c] 0) → e 5 = iC pre.length →
      hasG rest ⟨a, b, c⟩ = v → Run (progT Try.prog T) ⟨[.tmp 4], fun u E => viewA E u = some (bC v)⟩ [.loop r14_HasGot_L0, .blk 0, .code r14_HasGot_K1] e H := by
    intro rest
    induction rest with
    | nil =>
      intro pre e H hp h0 h3 h5 hm
      have hc := not_lt_at (f := Got.cells) hp
      refine run_again ?_
      conv => enter [3, 1]; unfold r14_HasGot_L0
      simp only [go_sem, reduceCtorEq, Nat.reduceEqDiff, Nat.reduceAdd, Nat.reduceSub, Nat.reduceMul, Nat.reduceLeDiff, Int.reduceEq, Int.reduceLT, Int.reduceLE, Int.reduceAdd, Int.reduceMul, Int.reduceSub, Int.reduceNeg, Int.reduceToNat, reduceIte, Nat.reduceLT, h0, h3, h5, hc]
      unfold r14_HasGot_K1
      simp only [go_sem, reduceCtorEq, Nat.reduceEqDiff, Nat.reduceAdd, Nat.reduceSub, Nat.reduceMul, Nat.reduceLeDiff, Int.reduceEq, Int.reduceLT, Int.reduceLE, Int.reduceAdd, Int.reduceMul, Int.reduceSub, Int.reduceNeg, Int.reduceToNat, reduceIte, Nat.reduceLT]
      simp [viewA, viewFn, viewC, viewFs, viewCs, viewAs, closedC, closedCs, ← hm, hasG]
    | cons r rest ih =>
      intro pre e H hp h0 h3 h5 hm
      have hc := lt_at (f := Got.cells) hp
      have hr := map_at' (f := Got.cells) hp
      have hn := next_at hp hlen
      obtain ⟨ge, gr⟩ := r
      dsimp only [Got.cells, runsC] at hr
      have hmr := r7_Has_ok gr ⟨b, c⟩
      dsimp only [runsC, Dot.cells] at hmr
      have hm' : (decide (ge = a) && hasDot gr ⟨b, c⟩ || hasG rest ⟨a, b, c⟩) = v := by rw [← hm]; rfl
      refine run_again ?_
      conv => enter [3, 1]; unfold r14_HasGot_L0
      simp only [go_sem, reduceCtorEq, Nat.reduceEqDiff, Nat.reduceAdd, Nat.reduceSub, Nat.reduceMul, Nat.reduceLeDiff, Int.reduceEq, Int.reduceLT, Int.reduceLE, Int.reduceAdd, Int.reduceMul, Int.reduceSub, Int.reduceNeg, Int.reduceToNat, reduceIte, Nat.reduceLT, h0, h3, h5, hc, hr]
      by_cases c1 : ge = a
      · subst c1
        simp only [go_sem, reduceCtorEq, Nat.reduceEqDiff, Nat.reduceAdd, Nat.reduceSub, Nat.reduceMul, Nat.reduceLeDiff, Int.reduceEq, Int.reduceLT, Int.reduceLE, Int.reduceAdd, Int.reduceMul, Int.reduceSub, Int.reduceNeg, Int.reduceToNat, reduceIte, Nat.reduceLT, h0, h3, h5, hr]
        refine callW_pure hmr ?_
        cases c2 : hasDot gr ⟨b, c⟩ with
        | true =>
          simp only [go_sem, reduceCtorEq, Nat.reduceEqDiff, Nat.reduceAdd, Nat.reduceSub, Nat.reduceMul, Nat.reduceLeDiff, Int.reduceEq, Int.reduceLT, Int.reduceLE, Int.reduceAdd, Int.reduceMul, Int.reduceSub, Int.reduceNeg, Int.reduceToNat, reduceIte, Nat.reduceLT]
          simp [viewA, viewFn, viewC, viewFs, viewCs, viewAs, closedC, closedCs, ← hm', c2]
        | false =>
          simp only [go_sem, reduceCtorEq, Nat.reduceEqDiff, Nat.reduceAdd, Nat.reduceSub, Nat.reduceMul, Nat.reduceLeDiff, Int.reduceEq, Int.reduceLT, Int.reduceLE, Int.reduceAdd, Int.reduceMul, Int.reduceSub, Int.reduceNeg, Int.reduceToNat, reduceIte, Nat.reduceLT, h5, hn]
          refine ih (pre ++ [(⟨ge, gr⟩ : Got)]) _ _ (by simp [hp]) ?_ ?_ ?_ ?_
          all_goals first | (simp only [go_sem, reduceCtorEq, Nat.reduceEqDiff, Nat.reduceAdd, Nat.reduceSub, Nat.reduceMul, Nat.reduceLeDiff, Int.reduceEq, Int.reduceLT, Int.reduceLE, Int.reduceAdd, Int.reduceMul, Int.reduceSub, Int.reduceNeg, Int.reduceToNat, reduceIte, Nat.reduceLT, h0, h3]; done) | (simp [← hm', c2]; done)
      · simp only [go_sem, reduceCtorEq, Nat.reduceEqDiff, Nat.reduceAdd, Nat.reduceSub, Nat.reduceMul, Nat.reduceLeDiff, Int.reduceEq, Int.reduceLT, Int.reduceLE, Int.reduceAdd, Int.reduceMul, Int.reduceSub, Int.reduceNeg, Int.reduceToNat, reduceIte, Nat.reduceLT, c1, h5, hn]
        refine ih (pre ++ [(⟨ge, gr⟩ : Got)]) _ _ (by simp [hp]) ?_ ?_ ?_ ?_
        all_goals first | (simp only [go_sem, reduceCtorEq, Nat.reduceEqDiff, Nat.reduceAdd, Nat.reduceSub, Nat.reduceMul, Nat.reduceLeDiff, Int.reduceEq, Int.reduceLT, Int.reduceLE, Int.reduceAdd, Int.reduceMul, Int.reduceSub, Int.reduceNeg, Int.reduceToNat, reduceIte, Nat.reduceLT, h0, h3]; done) | (simp [← hm', c1]; done)
  exact loop l [] _ _ rfl rfl rfl rfl hv

theorem r14_SameGot_ok (a b : List Got) : Pr 14 [.c (gotsC a), .c (gotsC b)] (bC (decide (a = b))) := by
  refine pure_of mixed is_r14_SameGot (by simp [closedAs, closedA, closed_gotsC]) fun hl T => ?_
  have hla : a.length ≤ maxLen := by simp [lenAs, lenA, lenC, gotsC] at hl; first | exact hl | exact hl.1 | exact hl.1.1
  unfold c_r14_SameGot
  dsimp only [gotsC]
  generalize hv : decide (a = b) = v
  simp only [go_sem, reduceCtorEq, Nat.reduceEqDiff, Nat.reduceAdd, Nat.reduceSub, Nat.reduceMul, Nat.reduceLeDiff, Int.reduceEq, Int.reduceLT, Int.reduceLE, Int.reduceAdd, Int.reduceMul, Int.reduceSub, Int.reduceNeg, Int.reduceToNat, reduceIte, Nat.reduceLT, List.length_map]
  by_cases hne : (a.length : Int) = b.length
  case neg =>
    simp only [go_sem, reduceCtorEq, Nat.reduceEqDiff, Nat.reduceAdd, Nat.reduceSub, Nat.reduceMul, Nat.reduceLeDiff, Int.reduceEq, Int.reduceLT, Int.reduceLE, Int.reduceAdd, Int.reduceMul, Int.reduceSub, Int.reduceNeg, Int.reduceToNat, reduceIte, Nat.reduceLT, hne]
    have : a ≠ b := by intro h; subst h; exact hne rfl
    simp [viewA, viewFn, viewC, viewFs, viewCs, viewAs, closedC, closedCs, ← hv, this]
  simp only [go_sem, reduceCtorEq, Nat.reduceEqDiff, Nat.reduceAdd, Nat.reduceSub, Nat.reduceMul, Nat.reduceLeDiff, Int.reduceEq, Int.reduceLT, Int.reduceLE, Int.reduceAdd, Int.reduceMul, Int.reduceSub, Int.reduceNeg, Int.reduceToNat, reduceIte, Nat.reduceLT, hne]
  have loop : ∀ (ra rb pa pb : List Got) (e : Env) (H : Heap), a = pa ++ ra → b = pb ++ rb → pa.length = pb.length → ra.length = rb.length → e 0 = .c (.lst 2 (a.map Got.cells)) → e 1 = .c (.lst 2 (b.map Got.cells)) → e 5 = iC pa.length →
      decide (ra = rb) = v → Run (progT Try.prog T) ⟨[.tmp 4], fun u E => viewA E u = some (bC v)⟩ [.loop r14_SameGot_L0, .blk 0, .code r14_SameGot_K1] e H := by
    intro ra
    induction ra with
    | nil =>
      intro rb pa pb e H hp hq hpq hab h0 h1 h5 hm
      have hrb : rb = [] := List.eq_nil_of_length_eq_zero hab.symm
      subst hrb
      have hc := not_lt_at (f := Got.cells) hp
      refine run_again ?_
      conv => enter [3, 1]; unfold r14_SameGot_L0
      simp only [go_sem, reduceCtorEq, Nat.reduceEqDiff, Nat.reduceAdd, Nat.reduceSub, Nat.reduceMul, Nat.reduceLeDiff, Int.reduceEq, Int.reduceLT, Int.reduceLE, Int.reduceAdd, Int.reduceMul, Int.reduceSub, Int.reduceNeg, Int.reduceToNat, reduceIte, Nat.reduceLT, h0, h1, h5, hc]
      unfold r14_SameGot_K1
      simp only [go_sem, reduceCtorEq, Nat.reduceEqDiff, Nat.reduceAdd, Nat.reduceSub, Nat.reduceMul, Nat.reduceLeDiff, Int.reduceEq, Int.reduceLT, Int.reduceLE, Int.reduceAdd, Int.reduceMul, Int.reduceSub, Int.reduceNeg, Int.reduceToNat, reduceIte, Nat.reduceLT]
      simp [viewA, viewFn, viewC, viewFs, viewCs, viewAs, closedC, closedCs, ← hm]
    | cons x ra ih =>
      intro rb pa pb e H hp hq hpq hab h0 h1 h5 hm
      cases rb with
      | nil => simp at hab
      | cons y rb =>
        have hc := lt_at (f := Got.cells) hp
        have hx := map_at' (f := Got.cells) hp
        have hy := map_at' (f := Got.cells) hq
        rw [← hpq] at hy
        have hn := next_at hp hla
        obtain ⟨xe, xr⟩ := x
        obtain ⟨ye, yr⟩ := y
        dsimp only [Got.cells, runsC] at hx hy
        have hsr := r7_SameRuns_ok xr yr
        dsimp only [runsC] at hsr
        refine run_again ?_
        conv => enter [3, 1]; unfold r14_SameGot_L0
        simp only [go_sem, reduceCtorEq, Nat.reduceEqDiff, Nat.reduceAdd, Nat.reduceSub, Nat.reduceMul, Nat.reduceLeDiff, Int.reduceEq, Int.reduceLT, Int.reduceLE, Int.reduceAdd, Int.reduceMul, Int.reduceSub, Int.reduceNeg, Int.reduceToNat, reduceIte, Nat.reduceLT, h0, h1, h5, hc, hx, hy]
        by_cases c1 : xe = ye
        · subst c1
          simp only [go_sem, reduceCtorEq, Nat.reduceEqDiff, Nat.reduceAdd, Nat.reduceSub, Nat.reduceMul, Nat.reduceLeDiff, Int.reduceEq, Int.reduceLT, Int.reduceLE, Int.reduceAdd, Int.reduceMul, Int.reduceSub, Int.reduceNeg, Int.reduceToNat, reduceIte, Nat.reduceLT, h0, h1, h5, hx, hy]
          refine callW_pure hsr ?_
          by_cases c2 : xr = yr
          · subst c2
            simp only [go_sem, reduceCtorEq, Nat.reduceEqDiff, Nat.reduceAdd, Nat.reduceSub, Nat.reduceMul, Nat.reduceLeDiff, Int.reduceEq, Int.reduceLT, Int.reduceLE, Int.reduceAdd, Int.reduceMul, Int.reduceSub, Int.reduceNeg, Int.reduceToNat, reduceIte, Nat.reduceLT, h5, hn]
            refine ih rb (pa ++ [⟨xe, xr⟩]) (pb ++ [⟨xe, xr⟩]) _ _ (by simp [hp]) (by simp [hq]) (by simp [hpq]) (by simpa using hab) ?_ ?_ ?_ ?_
            all_goals first | (simp only [go_sem, reduceCtorEq, Nat.reduceEqDiff, Nat.reduceAdd, Nat.reduceSub, Nat.reduceMul, Nat.reduceLeDiff, Int.reduceEq, Int.reduceLT, Int.reduceLE, Int.reduceAdd, Int.reduceMul, Int.reduceSub, Int.reduceNeg, Int.reduceToNat, reduceIte, Nat.reduceLT, h0, h1]; done) | (simp [← hm]; done)
          · simp only [go_sem, reduceCtorEq, Nat.reduceEqDiff, Nat.reduceAdd, Nat.reduceSub, Nat.reduceMul, Nat.reduceLeDiff, Int.reduceEq, Int.reduceLT, Int.reduceLE, Int.reduceAdd, Int.reduceMul, Int.reduceSub, Int.reduceNeg, Int.reduceToNat, reduceIte, Nat.reduceLT, c2]
            simp [viewA, viewFn, viewC, viewFs, viewCs, viewAs, closedC, closedCs, ← hm, c2]
        · simp only [go_sem, reduceCtorEq, Nat.reduceEqDiff, Nat.reduceAdd, Nat.reduceSub, Nat.reduceMul, Nat.reduceLeDiff, Int.reduceEq, Int.reduceLT, Int.reduceLE, Int.reduceAdd, Int.reduceMul, Int.reduceSub, Int.reduceNeg, Int.reduceToNat, reduceIte, Nat.reduceLT, c1]
          simp [viewA, viewFn, viewC, viewFs, viewCs, viewAs, closedC, closedCs, ← hm, c1]
  exact loop a b [] [] _ _ rfl rfl rfl (by omega) rfl rfl rfl hv

end Go.Proofs.Ytmdblemjlmfbbaa.Eng
