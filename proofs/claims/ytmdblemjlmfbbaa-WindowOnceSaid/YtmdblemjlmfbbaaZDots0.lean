/- Contracts of the package dots: what tells. No statement of the seat is proved here. -/
import Derived.Test.YtmdblemjlmfbbaaZPartC
import Derived.Test.YtmdblemjlmfbbaaZLitD
namespace Go.Proofs.Ytmdblemjlmfbbaa.Eng
open Go
set_option linter.unusedVariables false
set_option linter.unusedSimpArgs false

theorem dots_right_ok (r : Rn) : Pr 30 [.agg r.cells] (bC r.right) := by
  obtain ⟨d, f, t⟩ := r
  refine pure_of mixed is_dots_right rfl fun hl T => ?_
  unfold c_dots_right
  dsimp only [Rn.cells]
  simp only [go_sem, reduceCtorEq, Nat.reduceEqDiff, Nat.reduceAdd, Nat.reduceSub, Nat.reduceMul, Nat.reduceLeDiff, Int.reduceEq, Int.reduceLT, Int.reduceLE, Int.reduceAdd, Int.reduceMul, Int.reduceSub, Int.reduceNeg, Int.reduceToNat, reduceIte, Nat.reduceLT]
  repeat' (first | (first | refine guardW_split (fun h => ?_) (fun h => ?_) | refine condW_split (fun h => ?_) (fun h => ?_) | refine guardW_nsplit (fun h => ?_) (fun h => ?_) | refine condW_nsplit (fun h => ?_) (fun h => ?_) | refine guardW_nbool (fun h => ?_) (fun h => ?_) | refine condW_ncases (fun h => ?_) (fun h => ?_) | refine guardW_bool (fun h => ?_) (fun h => ?_) | refine condW_cases (fun h => ?_) (fun h => ?_)) | simp only [go_sem, reduceCtorEq, Nat.reduceEqDiff, Nat.reduceAdd, Nat.reduceSub, Nat.reduceMul, Nat.reduceLeDiff, Int.reduceEq, Int.reduceLT, Int.reduceLE, Int.reduceAdd, Int.reduceMul, Int.reduceSub, Int.reduceNeg, Int.reduceToNat, reduceIte, Nat.reduceLT, *])
  all_goals simp [viewA, viewFn, viewC, viewFs, viewCs, viewAs, closedC, closedCs, Rn.right, *]

theorem dots_May_ok (l : List Rn) : Pr 15 [.c (runsC l)] (bC (mayRuns l)) := by
  refine pure_of mixed is_dots_May (by simp [closedAs, closedA, closed_runsC]) fun hl T => ?_
  have hlen : l.length ≤ maxLen := by simpa [lenAs, lenA, lenC, runsC] using hl
  unfold c_dots_May
  dsimp only [runsC]
  generalize hv : mayRuns l = v
  simp only [go_sem, reduceCtorEq, Nat.reduceEqDiff, Nat.reduceAdd, Nat.reduceSub, Nat.reduceMul, Nat.reduceLeDiff, Int.reduceEq, Int.reduceLT, Int.reduceLE, Int.reduceAdd, Int.reduceMul, Int.reduceSub, Int.reduceNeg, Int.reduceToNat, reduceIte, Nat.reduceLT]
  have loop : ∀ (rest pre : List Rn) (e : Env) (H : Heap), l = pre ++ rest → e 0 = .c (.lst 3 (l.map Rn.cells)) → e 5 = .c (.lst 3 (l.map Rn.cells)) → e 6 = iC (l.map Rn.cells).length → e 7 = iC pre.length →
      mayFrom pre.getLast? rest = v → Run (progT Try.prog T) ⟨[.tmp 2], fun u E => viewA E u = some (bC v)⟩ [.loop dots_May_L0, .blk 0, .code dots_May_K1] e H := by
    intro rest
    induction rest with
    | nil =>
      intro pre e H hp h0 h5 h6 h7 hm
      have hc := not_lt_at (f := Rn.cells) hp
      refine run_again ?_
      conv => enter [3, 1]; unfold dots_May_L0
      simp only [go_sem, reduceCtorEq, Nat.reduceEqDiff, Nat.reduceAdd, Nat.reduceSub, Nat.reduceMul, Nat.reduceLeDiff, Int.reduceEq, Int.reduceLT, Int.reduceLE, Int.reduceAdd, Int.reduceMul, Int.reduceSub, Int.reduceNeg, Int.reduceToNat, reduceIte, Nat.reduceLT, h0, h5, h6, h7, hc]
      unfold dots_May_K1
      simp only [go_sem, reduceCtorEq, Nat.reduceEqDiff, Nat.reduceAdd, Nat.reduceSub, Nat.reduceMul, Nat.reduceLeDiff, Int.reduceEq, Int.reduceLT, Int.reduceLE, Int.reduceAdd, Int.reduceMul, Int.reduceSub, Int.reduceNeg, Int.reduceToNat, reduceIte, Nat.reduceLT]
      simp [viewA, viewFn, viewC, viewFs, viewCs, viewAs, closedC, closedCs, ← hm, mayFrom]
    | cons r rest ih =>
      intro pre e H hp h0 h5 h6 h7 hm
      have hc := lt_at (f := Rn.cells) hp
      have hr := map_at' (f := Rn.cells) hp
      have hn := next_at hp hlen
      refine run_again ?_
      conv => enter [3, 1]; unfold dots_May_L0
      simp only [go_sem, reduceCtorEq, Nat.reduceEqDiff, Nat.reduceAdd, Nat.reduceSub, Nat.reduceMul, Nat.reduceLeDiff, Int.reduceEq, Int.reduceLT, Int.reduceLE, Int.reduceAdd, Int.reduceMul, Int.reduceSub, Int.reduceNeg, Int.reduceToNat, reduceIte, Nat.reduceLT, h0, h5, h6, h7, hc, hr]
      refine callW_pure (dots_right_ok r) ?_
      simp only [go_sem, reduceCtorEq, Nat.reduceEqDiff, Nat.reduceAdd, Nat.reduceSub, Nat.reduceMul, Nat.reduceLeDiff, Int.reduceEq, Int.reduceLT, Int.reduceLE, Int.reduceAdd, Int.reduceMul, Int.reduceSub, Int.reduceNeg, Int.reduceToNat, reduceIte, Nat.reduceLT, h0, h5, h6, h7, hc, hr]
      cases hright : r.right with
      | false =>
        simp only [go_sem, reduceCtorEq, Nat.reduceEqDiff, Nat.reduceAdd, Nat.reduceSub, Nat.reduceMul, Nat.reduceLeDiff, Int.reduceEq, Int.reduceLT, Int.reduceLE, Int.reduceAdd, Int.reduceMul, Int.reduceSub, Int.reduceNeg, Int.reduceToNat, reduceIte, Nat.reduceLT]
        simp [viewA, viewFn, viewC, viewFs, viewCs, viewAs, closedC, closedCs, ← hm, mayFrom, hright]
      | true =>
        have go : ∀ e' : Env, e' 0 = e 0 → e' 5 = e 5 → e' 6 = e 6 → e' 7 = iC (pre ++ [r]).length → mayFrom (some r) rest = v → ∀ H', Run (progT Try.prog T) ⟨[.tmp 2], fun u E => viewA E u = some (bC v)⟩ [.loop dots_May_L0, .blk 0, .code dots_May_K1] e' H' := by
          intro e' g0 g5 g6 g7 gm H'
          exact ih (pre ++ [r]) e' H' (by simp [hp]) (by rw [g0, h0]) (by rw [g5, h5]) (by rw [g6, h6]) g7 (by rw [← gm]; simp)
        rcases List.eq_nil_or_concat pre with rfl | ⟨pre', q, rfl⟩
        · simp only [go_sem, reduceCtorEq, Nat.reduceEqDiff, Nat.reduceAdd, Nat.reduceSub, Nat.reduceMul, Nat.reduceLeDiff, Int.reduceEq, Int.reduceLT, Int.reduceLE, Int.reduceAdd, Int.reduceMul, Int.reduceSub, Int.reduceNeg, Int.reduceToNat, reduceIte, Nat.reduceLT, h0, h5, h6, h7]
          refine go _ ?_ ?_ ?_ ?_ ?_ _
          all_goals first | (simp only [go_sem, reduceCtorEq, Nat.reduceEqDiff, Nat.reduceAdd, Nat.reduceSub, Nat.reduceMul, Nat.reduceLeDiff, Int.reduceEq, Int.reduceLT, Int.reduceLE, Int.reduceAdd, Int.reduceMul, Int.reduceSub, Int.reduceNeg, Int.reduceToNat, reduceIte, Nat.reduceLT]; done) | rfl | (simp [← hm, mayFrom, hright]; done)
        · have hq : (l.map Rn.cells)[pre'.length]? = some q.cells := by rw [hp]; simp
          have hprev := prev_at (pre := pre') (x := q) (by rw [hp] at hlen; simp at hlen ⊢; omega)
          simp only [List.concat_eq_append] at h7 hn go hm ⊢
          clear ih hp hl hr hc
          simp only [go_sem, reduceCtorEq, Nat.reduceEqDiff, Nat.reduceAdd, Nat.reduceSub, Nat.reduceMul, Nat.reduceLeDiff, Int.reduceEq, Int.reduceLT, Int.reduceLE, Int.reduceAdd, Int.reduceMul, Int.reduceSub, Int.reduceNeg, Int.reduceToNat, reduceIte, Nat.reduceLT, pos_at, h0, h5, h6, h7, hprev, hq]
          repeat' (first | (first | refine guardW_split (fun h => ?_) (fun h => ?_) | refine condW_split (fun h => ?_) (fun h => ?_) | refine guardW_nsplit (fun h => ?_) (fun h => ?_) | refine condW_nsplit (fun h => ?_) (fun h => ?_) | refine guardW_nbool (fun h => ?_) (fun h => ?_) | refine condW_ncases (fun h => ?_) (fun h => ?_) | refine guardW_bool (fun h => ?_) (fun h => ?_) | refine condW_cases (fun h => ?_) (fun h => ?_)) | simp only [go_sem, reduceCtorEq, Nat.reduceEqDiff, Nat.reduceAdd, Nat.reduceSub, Nat.reduceMul, Nat.reduceLeDiff, Int.reduceEq, Int.reduceLT, Int.reduceLE, Int.reduceAdd, Int.reduceMul, Int.reduceSub, Int.reduceNeg, Int.reduceToNat, reduceIte, Nat.reduceLT, h0, h7, hprev, hq, hn, *])
          all_goals first
            | (refine go _ ?_ ?_ ?_ ?_ ?_ _ <;> first | (simp only [go_sem, reduceCtorEq, Nat.reduceEqDiff, Nat.reduceAdd, Nat.reduceSub, Nat.reduceMul, Nat.reduceLeDiff, Int.reduceEq, Int.reduceLT, Int.reduceLE, Int.reduceAdd, Int.reduceMul, Int.reduceSub, Int.reduceNeg, Int.reduceToNat, reduceIte, Nat.reduceLT, hn]; done) | (simp [← hm, mayFrom, hright, *]; done))
            | (simp [viewA, viewFn, viewC, viewFs, viewCs, viewAs, closedC, closedCs, ← hm, mayFrom, hright, *]; done)
  exact loop l [] _ _ rfl rfl rfl rfl rfl hv

theorem r7_MayRuns_ok (l : List Rn) : Pr 16 [.c (runsC l)] (bC (mayRuns l)) := by
  refine pure_of mixed is_r7_MayRuns (by simp [closedAs, closedA, closed_runsC]) fun hl T => ?_
  have hlen : l.length ≤ maxLen := by simpa [lenAs, lenA, lenC, runsC] using hl
  unfold c_r7_MayRuns
  dsimp only [runsC]
  generalize hv : mayRuns l = v
  simp only [go_sem, reduceCtorEq, Nat.reduceEqDiff, Nat.reduceAdd, Nat.reduceSub, Nat.reduceMul, Nat.reduceLeDiff, Int.reduceEq, Int.reduceLT, Int.reduceLE, Int.reduceAdd, Int.reduceMul, Int.reduceSub, Int.reduceNeg, Int.reduceToNat, reduceIte, Nat.reduceLT]
  have loop : ∀ (rest pre : List Rn) (e : Env) (H : Heap), l = pre ++ rest → e 0 = .c (.lst 3 (l.map Rn.cells)) → e 3 = iC pre.length →
      mayFrom pre.getLast? rest = v → Run (progT Try.prog T) ⟨[.tmp 2], fun u E => viewA E u = some (bC v)⟩ [.loop r7_MayRuns_L0, .blk 0, .code r7_MayRuns_K1] e H := by
    intro rest
    induction rest with
    | nil =>
      intro pre e H hp h0 h3 hm
      have hc := not_lt_at (f := Rn.cells) hp
      refine run_again ?_
      conv => enter [3, 1]; unfold r7_MayRuns_L0
      simp only [go_sem, reduceCtorEq, Nat.reduceEqDiff, Nat.reduceAdd, Nat.reduceSub, Nat.reduceMul, Nat.reduceLeDiff, Int.reduceEq, Int.reduceLT, Int.reduceLE, Int.reduceAdd, Int.reduceMul, Int.reduceSub, Int.reduceNeg, Int.reduceToNat, reduceIte, Nat.reduceLT, h0, h3, hc]
      unfold r7_MayRuns_K1
      simp only [go_sem, reduceCtorEq, Nat.reduceEqDiff, Nat.reduceAdd, Nat.reduceSub, Nat.reduceMul, Nat.reduceLeDiff, Int.reduceEq, Int.reduceLT, Int.reduceLE, Int.reduceAdd, Int.reduceMul, Int.reduceSub, Int.reduceNeg, Int.reduceToNat, reduceIte, Nat.reduceLT]
      simp [viewA, viewFn, viewC, viewFs, viewCs, viewAs, closedC, closedCs, ← hm, mayFrom]
    | cons r rest ih =>
      intro pre e H hp h0 h3 hm
      have hc := lt_at (f := Rn.cells) hp
      have hr := map_at' (f := Rn.cells) hp
      have hn := next_at hp hlen
      have go : ∀ e' : Env, e' 0 = e 0 → e' 3 = iC (pre ++ [r]).length → mayFrom (some r) rest = v → ∀ H', Run (progT Try.prog T) ⟨[.tmp 2], fun u E => viewA E u = some (bC v)⟩ [.loop r7_MayRuns_L0, .blk 0, .code r7_MayRuns_K1] e' H' := by
        intro e' g0 g3 gm H'
        exact ih (pre ++ [r]) e' H' (by simp [hp]) (by rw [g0, h0]) g3 (by rw [← gm]; simp)
      refine run_again ?_
      conv => enter [3, 1]; unfold r7_MayRuns_L0
      simp only [go_sem, reduceCtorEq, Nat.reduceEqDiff, Nat.reduceAdd, Nat.reduceSub, Nat.reduceMul, Nat.reduceLeDiff, Int.reduceEq, Int.reduceLT, Int.reduceLE, Int.reduceAdd, Int.reduceMul, Int.reduceSub, Int.reduceNeg, Int.reduceToNat, reduceIte, Nat.reduceLT, h0, h3, hc, hr]
      by_cases hright : r.right = true
      · have hx := hright
        simp only [Rn.right, Bool.and_eq_true, decide_eq_true_eq] at hx
        obtain ⟨⟨⟨⟨x1, x2⟩, x3⟩, x4⟩, x5⟩ := hx
        have y1 : ¬ (r.dev < 0) := by omega
        have y2 : ¬ (8 ≤ r.dev) := by omega
        have y3 : ¬ (r.frm < 1) := by omega
        have y4 : ¬ (r.to < r.frm) := by omega
        have y5 : ¬ (4503599627370496 < r.to) := by omega
        rcases List.eq_nil_or_concat pre with rfl | ⟨pre', q, rfl⟩
        · simp only [go_sem, reduceCtorEq, Nat.reduceEqDiff, Nat.reduceAdd, Nat.reduceSub, Nat.reduceMul, Nat.reduceLeDiff, Int.reduceEq, Int.reduceLT, Int.reduceLE, Int.reduceAdd, Int.reduceMul, Int.reduceSub, Int.reduceNeg, Int.reduceToNat, reduceIte, Nat.reduceLT, h0, h3, y1, y2, y3, y4, y5]
          refine go _ ?_ ?_ ?_ _
          all_goals first | (simp only [go_sem, reduceCtorEq, Nat.reduceEqDiff, Nat.reduceAdd, Nat.reduceSub, Nat.reduceMul, Nat.reduceLeDiff, Int.reduceEq, Int.reduceLT, Int.reduceLE, Int.reduceAdd, Int.reduceMul, Int.reduceSub, Int.reduceNeg, Int.reduceToNat, reduceIte, Nat.reduceLT]; done) | rfl | (simp [← hm, mayFrom, hright]; done)
        · have hq : (l.map Rn.cells)[pre'.length]? = some q.cells := by rw [hp]; simp
          have hprev := prev_at (pre := pre') (x := q) (by rw [hp] at hlen; simp at hlen ⊢; omega)
          simp only [List.concat_eq_append] at h3 hn go hm ⊢
          clear ih hp hl hr hc
          simp only [go_sem, reduceCtorEq, Nat.reduceEqDiff, Nat.reduceAdd, Nat.reduceSub, Nat.reduceMul, Nat.reduceLeDiff, Int.reduceEq, Int.reduceLT, Int.reduceLE, Int.reduceAdd, Int.reduceMul, Int.reduceSub, Int.reduceNeg, Int.reduceToNat, reduceIte, Nat.reduceLT, pos_at, h0, h3, hprev, hq, y1, y2, y3, y4, y5]
          repeat' (first | (first | refine guardW_split (fun h => ?_) (fun h => ?_) | refine condW_split (fun h => ?_) (fun h => ?_) | refine guardW_nsplit (fun h => ?_) (fun h => ?_) | refine condW_nsplit (fun h => ?_) (fun h => ?_) | refine guardW_nbool (fun h => ?_) (fun h => ?_) | refine condW_ncases (fun h => ?_) (fun h => ?_) | refine guardW_bool (fun h => ?_) (fun h => ?_) | refine condW_cases (fun h => ?_) (fun h => ?_)) | simp only [go_sem, reduceCtorEq, Nat.reduceEqDiff, Nat.reduceAdd, Nat.reduceSub, Nat.reduceMul, Nat.reduceLeDiff, Int.reduceEq, Int.reduceLT, Int.reduceLE, Int.reduceAdd, Int.reduceMul, Int.reduceSub, Int.reduceNeg, Int.reduceToNat, reduceIte, Nat.reduceLT, h0, h3, hprev, hq, hn, *])
          all_goals first
            | (refine go _ ?_ ?_ ?_ _ <;> first | (simp only [go_sem, reduceCtorEq, Nat.reduceEqDiff, Nat.reduceAdd, Nat.reduceSub, Nat.reduceMul, Nat.reduceLeDiff, Int.reduceEq, Int.reduceLT, Int.reduceLE, Int.reduceAdd, Int.reduceMul, Int.reduceSub, Int.reduceNeg, Int.reduceToNat, reduceIte, Nat.reduceLT, hn]; done) | (simp [← hm, mayFrom, hright, *]; done))
            | (simp [viewA, viewFn, viewC, viewFs, viewCs, viewAs, closedC, closedCs, ← hm, mayFrom, hright, *]; done)
      · have hx := hright
        simp only [Rn.right, Bool.and_eq_true, decide_eq_true_eq] at hx
        clear ih hp hl hr hc go
        repeat' (first | (first | refine guardW_split (fun h => ?_) (fun h => ?_) | refine condW_split (fun h => ?_) (fun h => ?_) | refine guardW_nsplit (fun h => ?_) (fun h => ?_) | refine condW_nsplit (fun h => ?_) (fun h => ?_) | refine guardW_nbool (fun h => ?_) (fun h => ?_) | refine condW_ncases (fun h => ?_) (fun h => ?_) | refine guardW_bool (fun h => ?_) (fun h => ?_) | refine condW_cases (fun h => ?_) (fun h => ?_)) | simp only [go_sem, reduceCtorEq, Nat.reduceEqDiff, Nat.reduceAdd, Nat.reduceSub, Nat.reduceMul, Nat.reduceLeDiff, Int.reduceEq, Int.reduceLT, Int.reduceLE, Int.reduceAdd, Int.reduceMul, Int.reduceSub, Int.reduceNeg, Int.reduceToNat, reduceIte, Nat.reduceLT, *])
        all_goals first
          | (exfalso; omega)
          | (simp [viewA, viewFn, viewC, viewFs, viewCs, viewAs, closedC, closedCs, ← hm, mayFrom, hright]; done)
  exact loop l [] _ _ rfl rfl rfl hv

theorem dots_Has_1_ok (r : Rn) (d : Dot) : Pr 44 [.agg r.cells, .c (.fp d.cells 0)] (bC (r.has d)) := by
  refine pure_of mixed is_dots_Has_1 rfl fun hl T => ?_
  unfold c_dots_Has_1
  simp only [go_sem, reduceCtorEq, Nat.reduceEqDiff, Nat.reduceAdd, Nat.reduceSub, Nat.reduceMul, Nat.reduceLeDiff, Int.reduceEq, Int.reduceLT, Int.reduceLE, Int.reduceAdd, Int.reduceMul, Int.reduceSub, Int.reduceNeg, Int.reduceToNat, reduceIte, Nat.reduceLT]
  repeat' (first | (first | refine guardW_split (fun h => ?_) (fun h => ?_) | refine condW_split (fun h => ?_) (fun h => ?_) | refine guardW_nsplit (fun h => ?_) (fun h => ?_) | refine condW_nsplit (fun h => ?_) (fun h => ?_) | refine guardW_nbool (fun h => ?_) (fun h => ?_) | refine condW_ncases (fun h => ?_) (fun h => ?_) | refine guardW_bool (fun h => ?_) (fun h => ?_) | refine condW_cases (fun h => ?_) (fun h => ?_)) | simp only [go_sem, reduceCtorEq, Nat.reduceEqDiff, Nat.reduceAdd, Nat.reduceSub, Nat.reduceMul, Nat.reduceLeDiff, Int.reduceEq, Int.reduceLT, Int.reduceLE, Int.reduceAdd, Int.reduceMul, Int.reduceSub, Int.reduceNeg, Int.reduceToNat, reduceIte, Nat.reduceLT, *])
  all_goals simp [viewA, viewFn, viewC, viewFs, viewCs, viewAs, closedC, closedCs, Rn.has, *]

/-- The place of the first for which 'p' holds, or -1. -/
def firstAt (p : List Cell → Bool) (n : Int) : List (List Cell) → Int
  | [] => -1
  | r :: rest => if p r then n else firstAt p (n + 1) rest
theorem firstAt_nonneg {p : List Cell → Bool} : ∀ {rows : List (List Cell)} {n : Int}, 0 ≤ n → (0 ≤ firstAt p n rows ↔ rows.any p = true)
  | [], n, hn => by simp [firstAt]
  | r :: rest, n, hn => by
    simp only [firstAt, List.any_cons, Bool.or_eq_true]
    split
    · rename_i h; simp [h, hn]
    · rename_i h; rw [firstAt_nonneg (by omega)]; simp [h]

theorem slices_IndexFunc_Run_ok (rows : List (List Cell)) (g : Nat) (caps : List Cell) (p : List Cell → Bool) (hcl : closedR rows = true) (hcc : closedCs caps = true) (h3 : ∀ r ∈ rows, r.length = 3)
    (hg : ∀ r ∈ rows, Pr g (.agg r :: caps.map .c) (bC (p r))) : Pr 52 [.c (.lst 3 rows), .c (.fn g caps)] (iC (firstAt p 0 rows)) := by
  refine pure_of mixed is_slices_IndexFunc_Run (by simp [closedAs, closedA, closedC, hcl, hcc]) fun hl T => ?_
  have hlen : rows.length ≤ maxLen := by simp [lenAs, lenA, lenC] at hl; exact hl
  unfold c_slices_IndexFunc_Run
  generalize hv : firstAt p 0 rows = v
  simp only [go_sem, reduceCtorEq, Nat.reduceEqDiff, Nat.reduceAdd, Nat.reduceSub, Nat.reduceMul, Nat.reduceLeDiff, Int.reduceEq, Int.reduceLT, Int.reduceLE, Int.reduceAdd, Int.reduceMul, Int.reduceSub, Int.reduceNeg, Int.reduceToNat, reduceIte, Nat.reduceLT]
  have loop : ∀ (rest pre : List (List Cell)) (e : Env) (H : Heap), rows = pre ++ rest → e 0 = .c (.lst 3 rows) → e 1 = .c (.fn g caps) → e 7 = iC rows.length → e 8 = iC pre.length →
      firstAt p pre.length rest = v → Run (progT Try.prog T) ⟨[.tmp 4], fun u E => viewA E u = some (iC v)⟩ [.loop slices_IndexFunc_Run_L0, .blk 0, .code slices_IndexFunc_Run_K1] e H := by
    intro rest
    induction rest with
    | nil =>
      intro pre e H hp h0 h1 h7 h8 hm
      have hc : ¬ ((pre.length : Int) < (rows.length : Int)) := by rw [hp]; simp
      refine run_again ?_
      conv => enter [3, 1]; unfold slices_IndexFunc_Run_L0
      simp only [go_sem, reduceCtorEq, Nat.reduceEqDiff, Nat.reduceAdd, Nat.reduceSub, Nat.reduceMul, Nat.reduceLeDiff, Int.reduceEq, Int.reduceLT, Int.reduceLE, Int.reduceAdd, Int.reduceMul, Int.reduceSub, Int.reduceNeg, Int.reduceToNat, reduceIte, Nat.reduceLT, h0, h1, h7, h8, hc]
      unfold slices_IndexFunc_Run_K1
      simp only [go_sem, reduceCtorEq, Nat.reduceEqDiff, Nat.reduceAdd, Nat.reduceSub, Nat.reduceMul, Nat.reduceLeDiff, Int.reduceEq, Int.reduceLT, Int.reduceLE, Int.reduceAdd, Int.reduceMul, Int.reduceSub, Int.reduceNeg, Int.reduceToNat, reduceIte, Nat.reduceLT]
      simp [viewA, viewFn, viewC, viewFs, viewCs, viewAs, closedC, closedCs, ← hm, firstAt]
    | cons r rest ih =>
      intro pre e H hp h0 h1 h7 h8 hm
      have hc : ((pre.length : Int) < (rows.length : Int)) := by rw [hp]; simp; omega
      have hr : rows[pre.length]? = some r := by rw [hp]; simp
      have hrm : r ∈ rows := by rw [hp]; simp
      have hr3 := h3 r hrm
      have hn := next_at hp hlen
      refine run_again ?_
      conv => enter [3, 1]; unfold slices_IndexFunc_Run_L0
      simp only [go_sem, reduceCtorEq, Nat.reduceEqDiff, Nat.reduceAdd, Nat.reduceSub, Nat.reduceMul, Nat.reduceLeDiff, Int.reduceEq, Int.reduceLT, Int.reduceLE, Int.reduceAdd, Int.reduceMul, Int.reduceSub, Int.reduceNeg, Int.reduceToNat, reduceIte, Nat.reduceLT, h0, h1, h7, h8, hc, hr, hr3, List.take_of_length_le (Nat.le_of_eq hr3)]
      refine callW_pure (hg r hrm) ?_
      simp only [go_sem, reduceCtorEq, Nat.reduceEqDiff, Nat.reduceAdd, Nat.reduceSub, Nat.reduceMul, Nat.reduceLeDiff, Int.reduceEq, Int.reduceLT, Int.reduceLE, Int.reduceAdd, Int.reduceMul, Int.reduceSub, Int.reduceNeg, Int.reduceToNat, reduceIte, Nat.reduceLT]
      cases hpr : p r with
      | true =>
        simp only [go_sem, reduceCtorEq, Nat.reduceEqDiff, Nat.reduceAdd, Nat.reduceSub, Nat.reduceMul, Nat.reduceLeDiff, Int.reduceEq, Int.reduceLT, Int.reduceLE, Int.reduceAdd, Int.reduceMul, Int.reduceSub, Int.reduceNeg, Int.reduceToNat, reduceIte, Nat.reduceLT]
        simp [viewA, viewFn, viewC, viewFs, viewCs, viewAs, closedC, closedCs, ← hm, firstAt, hpr]
      | false =>
        simp only [go_sem, reduceCtorEq, Nat.reduceEqDiff, Nat.reduceAdd, Nat.reduceSub, Nat.reduceMul, Nat.reduceLeDiff, Int.reduceEq, Int.reduceLT, Int.reduceLE, Int.reduceAdd, Int.reduceMul, Int.reduceSub, Int.reduceNeg, Int.reduceToNat, reduceIte, Nat.reduceLT, h8, hn]
        refine ih (pre ++ [r]) _ _ (by simp [hp]) ?_ ?_ ?_ ?_ ?_
        all_goals first | (simp only [go_sem, reduceCtorEq, Nat.reduceEqDiff, Nat.reduceAdd, Nat.reduceSub, Nat.reduceMul, Nat.reduceLeDiff, Int.reduceEq, Int.reduceLT, Int.reduceLE, Int.reduceAdd, Int.reduceMul, Int.reduceSub, Int.reduceNeg, Int.reduceToNat, reduceIte, Nat.reduceLT, h0, h1, h7]; done) | (simp [← hm, firstAt, hpr]; done)
  exact loop rows [] _ _ rfl rfl rfl rfl rfl hv

theorem slices_ContainsFunc_Run_ok (rows : List (List Cell)) (g : Nat) (caps : List Cell) (p : List Cell → Bool) (hcl : closedR rows = true) (hcc : closedCs caps = true) (h3 : ∀ r ∈ rows, r.length = 3)
    (hg : ∀ r ∈ rows, Pr g (.agg r :: caps.map .c) (bC (p r))) : Pr 43 [.c (.lst 3 rows), .c (.fn g caps)] (bC (rows.any p)) := by
  refine pure_of mixed is_slices_ContainsFunc_Run (by simp [closedAs, closedA, closedC, hcl, hcc]) fun hl T => ?_
  unfold c_slices_ContainsFunc_Run
  simp only [go_sem, reduceCtorEq, Nat.reduceEqDiff, Nat.reduceAdd, Nat.reduceSub, Nat.reduceMul, Nat.reduceLeDiff, Int.reduceEq, Int.reduceLT, Int.reduceLE, Int.reduceAdd, Int.reduceMul, Int.reduceSub, Int.reduceNeg, Int.reduceToNat, reduceIte, Nat.reduceLT]
  refine callW_pure (slices_IndexFunc_Run_ok rows g caps p hcl hcc h3 hg) ?_
  simp only [go_sem, reduceCtorEq, Nat.reduceEqDiff, Nat.reduceAdd, Nat.reduceSub, Nat.reduceMul, Nat.reduceLeDiff, Int.reduceEq, Int.reduceLT, Int.reduceLE, Int.reduceAdd, Int.reduceMul, Int.reduceSub, Int.reduceNeg, Int.reduceToNat, reduceIte, Nat.reduceLT]
  have := firstAt_nonneg (p := p) (rows := rows) (n := 0) (by omega)
  by_cases h : rows.any p = true
  · simp [viewA, viewFn, viewC, viewFs, viewCs, viewAs, closedC, closedCs, h, this]
  · simp [viewA, viewFn, viewC, viewFs, viewCs, viewAs, closedC, closedCs, h, this]

theorem dots_Has_ok (l : List Rn) (d : Dot) : Pr 27 [.c (runsC l), .agg d.cells] (bC (hasDot l d)) := by
  refine pure_of mixed is_dots_Has (by simp [closedAs, closedA, closed_runsC, Dot.closed]) fun hl T => ?_
  unfold c_dots_Has
  dsimp only [runsC]
  simp only [go_sem, reduceCtorEq, Nat.reduceEqDiff, Nat.reduceAdd, Nat.reduceSub, Nat.reduceMul, Nat.reduceLeDiff, Int.reduceEq, Int.reduceLT, Int.reduceLE, Int.reduceAdd, Int.reduceMul, Int.reduceSub, Int.reduceNeg, Int.reduceToNat, reduceIte, Nat.reduceLT]
  have hc := slices_ContainsFunc_Run_ok (l.map Rn.cells) 44 [.fp d.cells 0] (fun r => match r with | [.int _ a, .int _ b, .int _ c] => Rn.has ⟨a, b, c⟩ d | _ => false) (closed_runs l) rfl (by simp [Rn.cells])
    (by intro r hr; simp at hr; obtain ⟨q, hq, rfl⟩ := hr; exact dots_Has_1_ok q d)
  refine callW_pure hc ?_
  simp only [go_sem, reduceCtorEq, Nat.reduceEqDiff, Nat.reduceAdd, Nat.reduceSub, Nat.reduceMul, Nat.reduceLeDiff, Int.reduceEq, Int.reduceLT, Int.reduceLE, Int.reduceAdd, Int.reduceMul, Int.reduceSub, Int.reduceNeg, Int.reduceToNat, reduceIte, Nat.reduceLT]
  simp [viewA, viewFn, viewC, viewFs, viewCs, viewAs, closedC, closedCs, hasDot, List.any_map, Function.comp_def, Rn.cells]

end Go.Proofs.Ytmdblemjlmfbbaa.Eng
