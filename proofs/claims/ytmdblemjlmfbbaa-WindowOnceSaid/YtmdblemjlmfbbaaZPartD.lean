/- Texts that this claim's proof needs, joined. No statement of the seat is proved here. -/
import Derived.Test.YtmdblemjlmfbbaaZR71

/- Contracts of the document's answer: two sets together, one without another, a set out of dots, the last dot. No statement of the seat is proved here. -/
namespace Go.Proofs.Ytmdblemjlmfbbaa.Eng
open Go
set_option linter.unusedVariables false
set_option linter.unusedSimpArgs false

theorem marksFrom_step {d : Int} {l pre rest : List Rn} {r : Rn} {m ms : List Int} (h : marksFrom d m (r :: rest) = ms) : marksFrom d (if r.dev = d then insL (r.to + 1) (insL r.frm m) else m) rest = ms := h

theorem r7_mix_ok (d : Int) (a b : List Rn) (minus : Bool) (hs : a.length + b.length ≤ 200000) (ha : ∀ r ∈ a, r.Right) (hb : ∀ r ∈ b, r.Right) : Pr 42 [iC d, .c (runsC a), .c (runsC b), bC minus] (.c (runsC (mixL d a b minus))) := by
  refine pure_ofW mixed is_r7_mix (by simp [closedAs, closedA, closedC, closed_runsC]) fun hl T => ?_
  unfold c_r7_mix
  have hla : a.length ≤ maxLen := by unfold maxLen; omega
  have hlb : b.length ≤ maxLen := by unfold maxLen; omega
  generalize hms : marksL d a b = ms
  have hmlen : ms.length ≤ 400000 := by rw [← hms]; have := marksL_len (d := d) (a := a) (b := b); omega
  have hmb : ∀ z ∈ ms, 1 ≤ z ∧ z ≤ 4503599627370497 := by
    intro z hz
    rw [← hms] at hz
    obtain ⟨r, h, _, hz⟩ := marksL_mem.1 hz
    have hr : r.Right := h.elim (ha r) (hb r)
    have := hr.f1
    have := hr.ft
    have := hr.tm
    omega
  have hv : segs (keepM minus a b d) d none ms = mixL d a b minus := by rw [← hms]; rfl
  generalize mixL d a b minus = v at hv
  have loop2 : ∀ (rest pre : List Rn) (m : List Int) (e : Env) (H : Heap), b = pre ++ rest → e 0 = iC d → e 1 = .c (runsC a) → e 2 = .c (runsC b) → e 3 = bC minus → e 9 = .c (intsC m) → e 11 = iC pre.length →
      m.Pairwise (· < ·) → m.length + 2 * rest.length ≤ 1000000 → marksFrom d m rest = ms →
      Run (progT Try.prog T) ⟨[.tmp 8], fun u E => viewW E u (.c (runsC v))⟩ [.loop r7_mix_L1, .blk 2, .code r7_mix_K4] e H := by
    intro rest
    induction rest with
    | nil =>
      intro pre m e H hp h0 h1 h2 h3 h9 h11 hso hml hm
      have hc := not_lt_at (f := Rn.cells) hp
      refine run_again ?_
      conv => enter [3, 1]; unfold r7_mix_L1
      simp only [go_sem, reduceCtorEq, Nat.reduceEqDiff, Nat.reduceAdd, Nat.reduceSub, Nat.reduceMul, Nat.reduceLeDiff, Int.reduceEq, Int.reduceLT, Int.reduceLE, Int.reduceAdd, Int.reduceMul, Int.reduceSub, Int.reduceNeg, Int.reduceToNat, reduceIte, Nat.reduceLT, h2, h11, runsC, hc]
      unfold r7_mix_K4
      simp only [go_sem, reduceCtorEq, Nat.reduceEqDiff, Nat.reduceAdd, Nat.reduceSub, Nat.reduceMul, Nat.reduceLeDiff, Int.reduceEq, Int.reduceLT, Int.reduceLE, Int.reduceAdd, Int.reduceMul, Int.reduceSub, Int.reduceNeg, Int.reduceToNat, reduceIte, Nat.reduceLT]
      have hmm : m = ms := hm
      refine r7_mix_loop3 (a := a) (b := b) (d := d) (minus := minus) (ms := ms) (by omega) hmb ms [] [] none _ _ rfl ?_ ?_ ?_ ?_ ?_ ?_ ?_ (fun _ => rfl) (by simp; omega) hv
      · simp only [go_sem, reduceCtorEq, Nat.reduceEqDiff, Nat.reduceAdd, Nat.reduceSub, Nat.reduceMul, Nat.reduceLeDiff, Int.reduceEq, Int.reduceLT, Int.reduceLE, Int.reduceAdd, Int.reduceMul, Int.reduceSub, Int.reduceNeg, Int.reduceToNat, reduceIte, Nat.reduceLT, h0]
      · simp only [go_sem, reduceCtorEq, Nat.reduceEqDiff, Nat.reduceAdd, Nat.reduceSub, Nat.reduceMul, Nat.reduceLeDiff, Int.reduceEq, Int.reduceLT, Int.reduceLE, Int.reduceAdd, Int.reduceMul, Int.reduceSub, Int.reduceNeg, Int.reduceToNat, reduceIte, Nat.reduceLT, h1]
      · simp only [go_sem, reduceCtorEq, Nat.reduceEqDiff, Nat.reduceAdd, Nat.reduceSub, Nat.reduceMul, Nat.reduceLeDiff, Int.reduceEq, Int.reduceLT, Int.reduceLE, Int.reduceAdd, Int.reduceMul, Int.reduceSub, Int.reduceNeg, Int.reduceToNat, reduceIte, Nat.reduceLT, h2, runsC]
      · simp only [go_sem, reduceCtorEq, Nat.reduceEqDiff, Nat.reduceAdd, Nat.reduceSub, Nat.reduceMul, Nat.reduceLeDiff, Int.reduceEq, Int.reduceLT, Int.reduceLE, Int.reduceAdd, Int.reduceMul, Int.reduceSub, Int.reduceNeg, Int.reduceToNat, reduceIte, Nat.reduceLT, h3]
      · simp only [go_sem, reduceCtorEq, Nat.reduceEqDiff, Nat.reduceAdd, Nat.reduceSub, Nat.reduceMul, Nat.reduceLeDiff, Int.reduceEq, Int.reduceLT, Int.reduceLE, Int.reduceAdd, Int.reduceMul, Int.reduceSub, Int.reduceNeg, Int.reduceToNat, reduceIte, Nat.reduceLT, h9, hmm]
      · simp only [go_sem, reduceCtorEq, Nat.reduceEqDiff, Nat.reduceAdd, Nat.reduceSub, Nat.reduceMul, Nat.reduceLeDiff, Int.reduceEq, Int.reduceLT, Int.reduceLE, Int.reduceAdd, Int.reduceMul, Int.reduceSub, Int.reduceNeg, Int.reduceToNat, reduceIte, Nat.reduceLT]
      · simp only [go_sem, reduceCtorEq, Nat.reduceEqDiff, Nat.reduceAdd, Nat.reduceSub, Nat.reduceMul, Nat.reduceLeDiff, Int.reduceEq, Int.reduceLT, Int.reduceLE, Int.reduceAdd, Int.reduceMul, Int.reduceSub, Int.reduceNeg, Int.reduceToNat, reduceIte, Nat.reduceLT]; exact .nil
    | cons r rest ih =>
      intro pre m e H hp h0 h1 h2 h3 h9 h11 hso hml hm
      have hc := lt_at (f := Rn.cells) hp
      have hr := map_at' (f := Rn.cells) hp
      have hn := next_at hp hlb
      have hrR : r.Right := hb r (by rw [hp]; simp)
      have hw : IntKind.wrap .i64 (r.to + 1) = r.to + 1 := wrap64 (by have := hrR.tm; have := hrR.f1; have := hrR.ft; omega)
      refine run_again ?_
      conv => enter [3, 1]; unfold r7_mix_L1
      simp only [go_sem, reduceCtorEq, Nat.reduceEqDiff, Nat.reduceAdd, Nat.reduceSub, Nat.reduceMul, Nat.reduceLeDiff, Int.reduceEq, Int.reduceLT, Int.reduceLE, Int.reduceAdd, Int.reduceMul, Int.reduceSub, Int.reduceNeg, Int.reduceToNat, reduceIte, Nat.reduceLT, h0, h2, h11, runsC, hc, hr]
      by_cases hd : r.dev = d
      · simp only [go_sem, reduceCtorEq, Nat.reduceEqDiff, Nat.reduceAdd, Nat.reduceSub, Nat.reduceMul, Nat.reduceLeDiff, Int.reduceEq, Int.reduceLT, Int.reduceLE, Int.reduceAdd, Int.reduceMul, Int.reduceSub, Int.reduceNeg, Int.reduceToNat, reduceIte, Nat.reduceLT, hd, h2, h9, h11, hr, runsC]
        refine callW_pure (r7_mark_ok m r.frm (by simp at hml; unfold Sm; omega) hso) ?_
        simp only [go_sem, reduceCtorEq, Nat.reduceEqDiff, Nat.reduceAdd, Nat.reduceSub, Nat.reduceMul, Nat.reduceLeDiff, Int.reduceEq, Int.reduceLT, Int.reduceLE, Int.reduceAdd, Int.reduceMul, Int.reduceSub, Int.reduceNeg, Int.reduceToNat, reduceIte, Nat.reduceLT, h2, h11, hr, runsC, hw]
        refine callW_pure (r7_mark_ok (insL r.frm m) (r.to + 1) (by have := insL_len (x := r.frm) (l := m); simp at hml; unfold Sm; omega) (insL_sorted hso)) ?_
        simp only [go_sem, reduceCtorEq, Nat.reduceEqDiff, Nat.reduceAdd, Nat.reduceSub, Nat.reduceMul, Nat.reduceLeDiff, Int.reduceEq, Int.reduceLT, Int.reduceLE, Int.reduceAdd, Int.reduceMul, Int.reduceSub, Int.reduceNeg, Int.reduceToNat, reduceIte, Nat.reduceLT, h11, hn]
        refine ih (pre ++ [r]) (insL (r.to + 1) (insL r.frm m)) _ _ (by rw [hp]; simp) ?_ ?_ ?_ ?_ ?_ ?_ (insL_sorted (insL_sorted hso)) (by have := insL_len (x := r.frm) (l := m); have := insL_len (x := r.to + 1) (l := insL r.frm m); simp at hml; omega) (by rw [← hm]; simp [marksFrom, hd])
        · simp only [go_sem, reduceCtorEq, Nat.reduceEqDiff, Nat.reduceAdd, Nat.reduceSub, Nat.reduceMul, Nat.reduceLeDiff, Int.reduceEq, Int.reduceLT, Int.reduceLE, Int.reduceAdd, Int.reduceMul, Int.reduceSub, Int.reduceNeg, Int.reduceToNat, reduceIte, Nat.reduceLT, h0]
        · simp only [go_sem, reduceCtorEq, Nat.reduceEqDiff, Nat.reduceAdd, Nat.reduceSub, Nat.reduceMul, Nat.reduceLeDiff, Int.reduceEq, Int.reduceLT, Int.reduceLE, Int.reduceAdd, Int.reduceMul, Int.reduceSub, Int.reduceNeg, Int.reduceToNat, reduceIte, Nat.reduceLT, h1]
        · simp only [go_sem, reduceCtorEq, Nat.reduceEqDiff, Nat.reduceAdd, Nat.reduceSub, Nat.reduceMul, Nat.reduceLeDiff, Int.reduceEq, Int.reduceLT, Int.reduceLE, Int.reduceAdd, Int.reduceMul, Int.reduceSub, Int.reduceNeg, Int.reduceToNat, reduceIte, Nat.reduceLT, h2, runsC]
        · simp only [go_sem, reduceCtorEq, Nat.reduceEqDiff, Nat.reduceAdd, Nat.reduceSub, Nat.reduceMul, Nat.reduceLeDiff, Int.reduceEq, Int.reduceLT, Int.reduceLE, Int.reduceAdd, Int.reduceMul, Int.reduceSub, Int.reduceNeg, Int.reduceToNat, reduceIte, Nat.reduceLT, h3]
        · simp only [go_sem, reduceCtorEq, Nat.reduceEqDiff, Nat.reduceAdd, Nat.reduceSub, Nat.reduceMul, Nat.reduceLeDiff, Int.reduceEq, Int.reduceLT, Int.reduceLE, Int.reduceAdd, Int.reduceMul, Int.reduceSub, Int.reduceNeg, Int.reduceToNat, reduceIte, Nat.reduceLT]
        · simp only [go_sem, reduceCtorEq, Nat.reduceEqDiff, Nat.reduceAdd, Nat.reduceSub, Nat.reduceMul, Nat.reduceLeDiff, Int.reduceEq, Int.reduceLT, Int.reduceLE, Int.reduceAdd, Int.reduceMul, Int.reduceSub, Int.reduceNeg, Int.reduceToNat, reduceIte, Nat.reduceLT]
      · simp only [go_sem, reduceCtorEq, Nat.reduceEqDiff, Nat.reduceAdd, Nat.reduceSub, Nat.reduceMul, Nat.reduceLeDiff, Int.reduceEq, Int.reduceLT, Int.reduceLE, Int.reduceAdd, Int.reduceMul, Int.reduceSub, Int.reduceNeg, Int.reduceToNat, reduceIte, Nat.reduceLT, hd, h11, hn]
        refine ih (pre ++ [r]) m _ _ (by rw [hp]; simp) ?_ ?_ ?_ ?_ ?_ ?_ hso (by simp at hml; omega) (by rw [← hm]; simp [marksFrom, hd])
        · simp only [go_sem, reduceCtorEq, Nat.reduceEqDiff, Nat.reduceAdd, Nat.reduceSub, Nat.reduceMul, Nat.reduceLeDiff, Int.reduceEq, Int.reduceLT, Int.reduceLE, Int.reduceAdd, Int.reduceMul, Int.reduceSub, Int.reduceNeg, Int.reduceToNat, reduceIte, Nat.reduceLT, h0]
        · simp only [go_sem, reduceCtorEq, Nat.reduceEqDiff, Nat.reduceAdd, Nat.reduceSub, Nat.reduceMul, Nat.reduceLeDiff, Int.reduceEq, Int.reduceLT, Int.reduceLE, Int.reduceAdd, Int.reduceMul, Int.reduceSub, Int.reduceNeg, Int.reduceToNat, reduceIte, Nat.reduceLT, h1]
        · simp only [go_sem, reduceCtorEq, Nat.reduceEqDiff, Nat.reduceAdd, Nat.reduceSub, Nat.reduceMul, Nat.reduceLeDiff, Int.reduceEq, Int.reduceLT, Int.reduceLE, Int.reduceAdd, Int.reduceMul, Int.reduceSub, Int.reduceNeg, Int.reduceToNat, reduceIte, Nat.reduceLT, h2, runsC]
        · simp only [go_sem, reduceCtorEq, Nat.reduceEqDiff, Nat.reduceAdd, Nat.reduceSub, Nat.reduceMul, Nat.reduceLeDiff, Int.reduceEq, Int.reduceLT, Int.reduceLE, Int.reduceAdd, Int.reduceMul, Int.reduceSub, Int.reduceNeg, Int.reduceToNat, reduceIte, Nat.reduceLT, h3]
        · simp only [go_sem, reduceCtorEq, Nat.reduceEqDiff, Nat.reduceAdd, Nat.reduceSub, Nat.reduceMul, Nat.reduceLeDiff, Int.reduceEq, Int.reduceLT, Int.reduceLE, Int.reduceAdd, Int.reduceMul, Int.reduceSub, Int.reduceNeg, Int.reduceToNat, reduceIte, Nat.reduceLT, h9]
        · simp only [go_sem, reduceCtorEq, Nat.reduceEqDiff, Nat.reduceAdd, Nat.reduceSub, Nat.reduceMul, Nat.reduceLeDiff, Int.reduceEq, Int.reduceLT, Int.reduceLE, Int.reduceAdd, Int.reduceMul, Int.reduceSub, Int.reduceNeg, Int.reduceToNat, reduceIte, Nat.reduceLT]
  have loop1 : ∀ (rest pre : List Rn) (m : List Int) (e : Env) (H : Heap), a = pre ++ rest → e 0 = iC d → e 1 = .c (runsC a) → e 2 = .c (runsC b) → e 3 = bC minus → e 9 = .c (intsC m) → e 10 = iC pre.length →
      m.Pairwise (· < ·) → m.length + 2 * rest.length ≤ 400000 → marksFrom d (marksFrom d m rest) b = ms →
      Run (progT Try.prog T) ⟨[.tmp 8], fun u E => viewW E u (.c (runsC v))⟩ [.loop r7_mix_L0, .blk 0, .code r7_mix_K5] e H := by
    intro rest
    induction rest with
    | nil =>
      intro pre m e H hp h0 h1 h2 h3 h9 h10 hso hml hm
      have hc := not_lt_at (f := Rn.cells) hp
      refine run_again ?_
      conv => enter [3, 1]; unfold r7_mix_L0
      simp only [go_sem, reduceCtorEq, Nat.reduceEqDiff, Nat.reduceAdd, Nat.reduceSub, Nat.reduceMul, Nat.reduceLeDiff, Int.reduceEq, Int.reduceLT, Int.reduceLE, Int.reduceAdd, Int.reduceMul, Int.reduceSub, Int.reduceNeg, Int.reduceToNat, reduceIte, Nat.reduceLT, h1, h10, runsC, hc]
      unfold r7_mix_K5
      simp only [go_sem, reduceCtorEq, Nat.reduceEqDiff, Nat.reduceAdd, Nat.reduceSub, Nat.reduceMul, Nat.reduceLeDiff, Int.reduceEq, Int.reduceLT, Int.reduceLE, Int.reduceAdd, Int.reduceMul, Int.reduceSub, Int.reduceNeg, Int.reduceToNat, reduceIte, Nat.reduceLT]
      refine loop2 b [] m _ _ rfl ?_ ?_ ?_ ?_ ?_ ?_ hso (by simp at hml; omega) hm
      · simp only [go_sem, reduceCtorEq, Nat.reduceEqDiff, Nat.reduceAdd, Nat.reduceSub, Nat.reduceMul, Nat.reduceLeDiff, Int.reduceEq, Int.reduceLT, Int.reduceLE, Int.reduceAdd, Int.reduceMul, Int.reduceSub, Int.reduceNeg, Int.reduceToNat, reduceIte, Nat.reduceLT, h0]
      · simp only [go_sem, reduceCtorEq, Nat.reduceEqDiff, Nat.reduceAdd, Nat.reduceSub, Nat.reduceMul, Nat.reduceLeDiff, Int.reduceEq, Int.reduceLT, Int.reduceLE, Int.reduceAdd, Int.reduceMul, Int.reduceSub, Int.reduceNeg, Int.reduceToNat, reduceIte, Nat.reduceLT, h1, runsC]
      · simp only [go_sem, reduceCtorEq, Nat.reduceEqDiff, Nat.reduceAdd, Nat.reduceSub, Nat.reduceMul, Nat.reduceLeDiff, Int.reduceEq, Int.reduceLT, Int.reduceLE, Int.reduceAdd, Int.reduceMul, Int.reduceSub, Int.reduceNeg, Int.reduceToNat, reduceIte, Nat.reduceLT, h2]
      · simp only [go_sem, reduceCtorEq, Nat.reduceEqDiff, Nat.reduceAdd, Nat.reduceSub, Nat.reduceMul, Nat.reduceLeDiff, Int.reduceEq, Int.reduceLT, Int.reduceLE, Int.reduceAdd, Int.reduceMul, Int.reduceSub, Int.reduceNeg, Int.reduceToNat, reduceIte, Nat.reduceLT, h3]
      · simp only [go_sem, reduceCtorEq, Nat.reduceEqDiff, Nat.reduceAdd, Nat.reduceSub, Nat.reduceMul, Nat.reduceLeDiff, Int.reduceEq, Int.reduceLT, Int.reduceLE, Int.reduceAdd, Int.reduceMul, Int.reduceSub, Int.reduceNeg, Int.reduceToNat, reduceIte, Nat.reduceLT, h9]
      · simp only [go_sem, reduceCtorEq, Nat.reduceEqDiff, Nat.reduceAdd, Nat.reduceSub, Nat.reduceMul, Nat.reduceLeDiff, Int.reduceEq, Int.reduceLT, Int.reduceLE, Int.reduceAdd, Int.reduceMul, Int.reduceSub, Int.reduceNeg, Int.reduceToNat, reduceIte, Nat.reduceLT]
    | cons r rest ih =>
      intro pre m e H hp h0 h1 h2 h3 h9 h10 hso hml hm
      have hc := lt_at (f := Rn.cells) hp
      have hr := map_at' (f := Rn.cells) hp
      have hn := next_at hp hla
      have hrR : r.Right := ha r (by rw [hp]; simp)
      have hw : IntKind.wrap .i64 (r.to + 1) = r.to + 1 := wrap64 (by have := hrR.tm; have := hrR.f1; have := hrR.ft; omega)
      refine run_again ?_
      conv => enter [3, 1]; unfold r7_mix_L0
      simp only [go_sem, reduceCtorEq, Nat.reduceEqDiff, Nat.reduceAdd, Nat.reduceSub, Nat.reduceMul, Nat.reduceLeDiff, Int.reduceEq, Int.reduceLT, Int.reduceLE, Int.reduceAdd, Int.reduceMul, Int.reduceSub, Int.reduceNeg, Int.reduceToNat, reduceIte, Nat.reduceLT, h0, h1, h10, runsC, hc, hr]
      by_cases hd : r.dev = d
      · simp only [go_sem, reduceCtorEq, Nat.reduceEqDiff, Nat.reduceAdd, Nat.reduceSub, Nat.reduceMul, Nat.reduceLeDiff, Int.reduceEq, Int.reduceLT, Int.reduceLE, Int.reduceAdd, Int.reduceMul, Int.reduceSub, Int.reduceNeg, Int.reduceToNat, reduceIte, Nat.reduceLT, hd, h1, h9, h10, hr, runsC]
        refine callW_pure (r7_mark_ok m r.frm (by simp at hml; unfold Sm; omega) hso) ?_
        simp only [go_sem, reduceCtorEq, Nat.reduceEqDiff, Nat.reduceAdd, Nat.reduceSub, Nat.reduceMul, Nat.reduceLeDiff, Int.reduceEq, Int.reduceLT, Int.reduceLE, Int.reduceAdd, Int.reduceMul, Int.reduceSub, Int.reduceNeg, Int.reduceToNat, reduceIte, Nat.reduceLT, h1, h10, hr, runsC, hw]
        refine callW_pure (r7_mark_ok (insL r.frm m) (r.to + 1) (by have := insL_len (x := r.frm) (l := m); simp at hml; unfold Sm; omega) (insL_sorted hso)) ?_
        simp only [go_sem, reduceCtorEq, Nat.reduceEqDiff, Nat.reduceAdd, Nat.reduceSub, Nat.reduceMul, Nat.reduceLeDiff, Int.reduceEq, Int.reduceLT, Int.reduceLE, Int.reduceAdd, Int.reduceMul, Int.reduceSub, Int.reduceNeg, Int.reduceToNat, reduceIte, Nat.reduceLT, h10, hn]
        refine ih (pre ++ [r]) (insL (r.to + 1) (insL r.frm m)) _ _ (by rw [hp]; simp) ?_ ?_ ?_ ?_ ?_ ?_ (insL_sorted (insL_sorted hso)) (by have := insL_len (x := r.frm) (l := m); have := insL_len (x := r.to + 1) (l := insL r.frm m); simp at hml; omega) (by rw [← hm]; simp [marksFrom, hd])
        · simp only [go_sem, reduceCtorEq, Nat.reduceEqDiff, Nat.reduceAdd, Nat.reduceSub, Nat.reduceMul, Nat.reduceLeDiff, Int.reduceEq, Int.reduceLT, Int.reduceLE, Int.reduceAdd, Int.reduceMul, Int.reduceSub, Int.reduceNeg, Int.reduceToNat, reduceIte, Nat.reduceLT, h0]
        · simp only [go_sem, reduceCtorEq, Nat.reduceEqDiff, Nat.reduceAdd, Nat.reduceSub, Nat.reduceMul, Nat.reduceLeDiff, Int.reduceEq, Int.reduceLT, Int.reduceLE, Int.reduceAdd, Int.reduceMul, Int.reduceSub, Int.reduceNeg, Int.reduceToNat, reduceIte, Nat.reduceLT, h1, runsC]
        · simp only [go_sem, reduceCtorEq, Nat.reduceEqDiff, Nat.reduceAdd, Nat.reduceSub, Nat.reduceMul, Nat.reduceLeDiff, Int.reduceEq, Int.reduceLT, Int.reduceLE, Int.reduceAdd, Int.reduceMul, Int.reduceSub, Int.reduceNeg, Int.reduceToNat, reduceIte, Nat.reduceLT, h2]
        · simp only [go_sem, reduceCtorEq, Nat.reduceEqDiff, Nat.reduceAdd, Nat.reduceSub, Nat.reduceMul, Nat.reduceLeDiff, Int.reduceEq, Int.reduceLT, Int.reduceLE, Int.reduceAdd, Int.reduceMul, Int.reduceSub, Int.reduceNeg, Int.reduceToNat, reduceIte, Nat.reduceLT, h3]
        · simp only [go_sem, reduceCtorEq, Nat.reduceEqDiff, Nat.reduceAdd, Nat.reduceSub, Nat.reduceMul, Nat.reduceLeDiff, Int.reduceEq, Int.reduceLT, Int.reduceLE, Int.reduceAdd, Int.reduceMul, Int.reduceSub, Int.reduceNeg, Int.reduceToNat, reduceIte, Nat.reduceLT]
        · simp only [go_sem, reduceCtorEq, Nat.reduceEqDiff, Nat.reduceAdd, Nat.reduceSub, Nat.reduceMul, Nat.reduceLeDiff, Int.reduceEq, Int.reduceLT, Int.reduceLE, Int.reduceAdd, Int.reduceMul, Int.reduceSub, Int.reduceNeg, Int.reduceToNat, reduceIte, Nat.reduceLT]
      · simp only [go_sem, reduceCtorEq, Nat.reduceEqDiff, Nat.reduceAdd, Nat.reduceSub, Nat.reduceMul, Nat.reduceLeDiff, Int.reduceEq, Int.reduceLT, Int.reduceLE, Int.reduceAdd, Int.reduceMul, Int.reduceSub, Int.reduceNeg, Int.reduceToNat, reduceIte, Nat.reduceLT, hd, h10, hn]
        refine ih (pre ++ [r]) m _ _ (by rw [hp]; simp) ?_ ?_ ?_ ?_ ?_ ?_ hso (by simp at hml; omega) (by rw [← hm]; simp [marksFrom, hd])
        · simp only [go_sem, reduceCtorEq, Nat.reduceEqDiff, Nat.reduceAdd, Nat.reduceSub, Nat.reduceMul, Nat.reduceLeDiff, Int.reduceEq, Int.reduceLT, Int.reduceLE, Int.reduceAdd, Int.reduceMul, Int.reduceSub, Int.reduceNeg, Int.reduceToNat, reduceIte, Nat.reduceLT, h0]
        · simp only [go_sem, reduceCtorEq, Nat.reduceEqDiff, Nat.reduceAdd, Nat.reduceSub, Nat.reduceMul, Nat.reduceLeDiff, Int.reduceEq, Int.reduceLT, Int.reduceLE, Int.reduceAdd, Int.reduceMul, Int.reduceSub, Int.reduceNeg, Int.reduceToNat, reduceIte, Nat.reduceLT, h1, runsC]
        · simp only [go_sem, reduceCtorEq, Nat.reduceEqDiff, Nat.reduceAdd, Nat.reduceSub, Nat.reduceMul, Nat.reduceLeDiff, Int.reduceEq, Int.reduceLT, Int.reduceLE, Int.reduceAdd, Int.reduceMul, Int.reduceSub, Int.reduceNeg, Int.reduceToNat, reduceIte, Nat.reduceLT, h2]
        · simp only [go_sem, reduceCtorEq, Nat.reduceEqDiff, Nat.reduceAdd, Nat.reduceSub, Nat.reduceMul, Nat.reduceLeDiff, Int.reduceEq, Int.reduceLT, Int.reduceLE, Int.reduceAdd, Int.reduceMul, Int.reduceSub, Int.reduceNeg, Int.reduceToNat, reduceIte, Nat.reduceLT, h3]
        · simp only [go_sem, reduceCtorEq, Nat.reduceEqDiff, Nat.reduceAdd, Nat.reduceSub, Nat.reduceMul, Nat.reduceLeDiff, Int.reduceEq, Int.reduceLT, Int.reduceLE, Int.reduceAdd, Int.reduceMul, Int.reduceSub, Int.reduceNeg, Int.reduceToNat, reduceIte, Nat.reduceLT, h9]
        · simp only [go_sem, reduceCtorEq, Nat.reduceEqDiff, Nat.reduceAdd, Nat.reduceSub, Nat.reduceMul, Nat.reduceLeDiff, Int.reduceEq, Int.reduceLT, Int.reduceLE, Int.reduceAdd, Int.reduceMul, Int.reduceSub, Int.reduceNeg, Int.reduceToNat, reduceIte, Nat.reduceLT]
  simp only [go_sem, reduceCtorEq, Nat.reduceEqDiff, Nat.reduceAdd, Nat.reduceSub, Nat.reduceMul, Nat.reduceLeDiff, Int.reduceEq, Int.reduceLT, Int.reduceLE, Int.reduceAdd, Int.reduceMul, Int.reduceSub, Int.reduceNeg, Int.reduceToNat, reduceIte, Nat.reduceLT]
  refine run_fz0 (sz := 1) (y := .nilS) (by simp only [go_sem, reduceCtorEq, Nat.reduceEqDiff, Nat.reduceAdd, Nat.reduceSub, Nat.reduceMul, Nat.reduceLeDiff, Int.reduceEq, Int.reduceLT, Int.reduceLE, Int.reduceAdd, Int.reduceMul, Int.reduceSub, Int.reduceNeg, Int.reduceToNat, reduceIte, Nat.reduceLT]) (.inl rfl) ?_
  simp only [go_sem, reduceCtorEq, Nat.reduceEqDiff, Nat.reduceAdd, Nat.reduceSub, Nat.reduceMul, Nat.reduceLeDiff, Int.reduceEq, Int.reduceLT, Int.reduceLE, Int.reduceAdd, Int.reduceMul, Int.reduceSub, Int.reduceNeg, Int.reduceToNat, reduceIte, Nat.reduceLT]
  refine loop1 a [] [] _ _ rfl ?_ ?_ ?_ ?_ ?_ ?_ .nil (by simp; omega) hms
  · simp only [go_sem, reduceCtorEq, Nat.reduceEqDiff, Nat.reduceAdd, Nat.reduceSub, Nat.reduceMul, Nat.reduceLeDiff, Int.reduceEq, Int.reduceLT, Int.reduceLE, Int.reduceAdd, Int.reduceMul, Int.reduceSub, Int.reduceNeg, Int.reduceToNat, reduceIte, Nat.reduceLT]
  · simp only [go_sem, reduceCtorEq, Nat.reduceEqDiff, Nat.reduceAdd, Nat.reduceSub, Nat.reduceMul, Nat.reduceLeDiff, Int.reduceEq, Int.reduceLT, Int.reduceLE, Int.reduceAdd, Int.reduceMul, Int.reduceSub, Int.reduceNeg, Int.reduceToNat, reduceIte, Nat.reduceLT]
  · simp only [go_sem, reduceCtorEq, Nat.reduceEqDiff, Nat.reduceAdd, Nat.reduceSub, Nat.reduceMul, Nat.reduceLeDiff, Int.reduceEq, Int.reduceLT, Int.reduceLE, Int.reduceAdd, Int.reduceMul, Int.reduceSub, Int.reduceNeg, Int.reduceToNat, reduceIte, Nat.reduceLT]
  · simp only [go_sem, reduceCtorEq, Nat.reduceEqDiff, Nat.reduceAdd, Nat.reduceSub, Nat.reduceMul, Nat.reduceLeDiff, Int.reduceEq, Int.reduceLT, Int.reduceLE, Int.reduceAdd, Int.reduceMul, Int.reduceSub, Int.reduceNeg, Int.reduceToNat, reduceIte, Nat.reduceLT]
  · simp only [go_sem, reduceCtorEq, Nat.reduceEqDiff, Nat.reduceAdd, Nat.reduceSub, Nat.reduceMul, Nat.reduceLeDiff, Int.reduceEq, Int.reduceLT, Int.reduceLE, Int.reduceAdd, Int.reduceMul, Int.reduceSub, Int.reduceNeg, Int.reduceToNat, reduceIte, Nat.reduceLT]; rfl
  · simp only [go_sem, reduceCtorEq, Nat.reduceEqDiff, Nat.reduceAdd, Nat.reduceSub, Nat.reduceMul, Nat.reduceLeDiff, Int.reduceEq, Int.reduceLT, Int.reduceLE, Int.reduceAdd, Int.reduceMul, Int.reduceSub, Int.reduceNeg, Int.reduceToNat, reduceIte, Nat.reduceLT]

end Go.Proofs.Ytmdblemjlmfbbaa.Eng

/- Contracts of the document's answer: two sets together, one without another, a set out of dots, the last dot. No statement of the seat is proved here. -/
namespace Go.Proofs.Ytmdblemjlmfbbaa.Eng
open Go
set_option linter.unusedVariables false
set_option linter.unusedSimpArgs false

theorem r7_Union_ok (a b : List Rn) (hs : a.length + b.length ≤ 200000) (ha : ∀ r ∈ a, r.Right) (hb : ∀ r ∈ b, r.Right) : Pr 26 [.c (runsC a), .c (runsC b)] (.c (runsC (setR a b false))) := by
  refine pure_ofW mixed is_r7_Union (by simp [closedAs, closedA, closed_runsC]) fun hl T => ?_
  unfold c_r7_Union
  generalize hv : setR a b false = v
  have loop : ∀ (n i : Nat) (e : Env) (H : Heap), i + n = 8 → e 0 = .c (runsC a) → e 1 = .c (runsC b) → e 6 = iC (i : Int) → Acc 3 (((List.range i).flatMap fun (j : Nat) => mixL (j : Int) a b false).map Rn.cells) (e 5) H →
      Run (progT Try.prog T) ⟨[.tmp 4], fun u E => viewW E u (.c (runsC v))⟩ [.loop r7_Union_L0, .blk 0, .code r7_Union_K1] e H := by
    intro n
    induction n with
    | zero =>
      intro i e H hi h0 h1 h6 hacc
      have hi8 : i = 8 := by omega
      subst hi8
      have c8 : ((8 : Nat) : Int) = 8 := rfl
      refine run_again ?_
      conv => enter [3, 1]; unfold r7_Union_L0
      simp only [go_sem, reduceCtorEq, Nat.reduceEqDiff, Nat.reduceAdd, Nat.reduceSub, Nat.reduceMul, Nat.reduceLeDiff, Int.reduceEq, Int.reduceLT, Int.reduceLE, Int.reduceAdd, Int.reduceMul, Int.reduceSub, Int.reduceNeg, Int.reduceToNat, reduceIte, Nat.reduceLT, h6, c8]
      unfold r7_Union_K1
      simp only [go_sem, reduceCtorEq, Nat.reduceEqDiff, Nat.reduceAdd, Nat.reduceSub, Nat.reduceMul, Nat.reduceLeDiff, Int.reduceEq, Int.reduceLT, Int.reduceLE, Int.reduceAdd, Int.reduceMul, Int.reduceSub, Int.reduceNeg, Int.reduceToNat, reduceIte, Nat.reduceLT]
      have hv2 : ((List.range 8).flatMap fun (j : Nat) => mixL (j : Int) a b false) = v := hv
      rw [hv2] at hacc
      exact hacc.told (closed_runs _)
    | succ n ih =>
      intro i e H hi h0 h1 h6 hacc
      have hlt : (i : Int) < 8 := by omega
      have hw : IntKind.wrap .i64 ((i : Int) + 1) = ((i + 1 : Nat) : Int) := by rw [wrap64 (by omega)]; omega
      have hml : ∀ j : Int, (mixL j a b false).length ≤ 400000 := fun j => by
        have h1 := segs_len (keep := keepM false a b j) (d := j) (ms := marksL j a b) (p := none)
        have h2 := marksL_len (d := j) (a := a) (b := b)
        unfold mixL
        simp at h1
        omega
      have hal : ((List.range i).flatMap fun (j : Nat) => mixL (j : Int) a b false).length ≤ 400000 * i := by
        have key : ∀ l : List Nat, (l.flatMap fun (j : Nat) => mixL (j : Int) a b false).length ≤ 400000 * l.length := by
          intro l
          induction l with
          | nil => simp
          | cons x l ih => have := hml x; rw [List.flatMap_cons, List.length_append, List.length_cons]; omega
        simpa using key (List.range i)
      refine run_again ?_
      conv => enter [3, 1]; unfold r7_Union_L0
      simp only [go_sem, reduceCtorEq, Nat.reduceEqDiff, Nat.reduceAdd, Nat.reduceSub, Nat.reduceMul, Nat.reduceLeDiff, Int.reduceEq, Int.reduceLT, Int.reduceLE, Int.reduceAdd, Int.reduceMul, Int.reduceSub, Int.reduceNeg, Int.reduceToNat, reduceIte, Nat.reduceLT, h0, h1, h6, hlt]
      refine callW_pure (r7_mix_ok (i : Int) a b false hs ha hb) ?_
      simp only [go_sem, reduceCtorEq, Nat.reduceEqDiff, Nat.reduceAdd, Nat.reduceSub, Nat.reduceMul, Nat.reduceLeDiff, Int.reduceEq, Int.reduceLT, Int.reduceLE, Int.reduceAdd, Int.reduceMul, Int.reduceSub, Int.reduceNeg, Int.reduceToNat, reduceIte, Nat.reduceLT, runsC]
      refine hacc.app_step (by have := hml i; simp only [List.length_map]; omega) fun v' H' ha' => ?_
      simp only [go_sem, reduceCtorEq, Nat.reduceEqDiff, Nat.reduceAdd, Nat.reduceSub, Nat.reduceMul, Nat.reduceLeDiff, Int.reduceEq, Int.reduceLT, Int.reduceLE, Int.reduceAdd, Int.reduceMul, Int.reduceSub, Int.reduceNeg, Int.reduceToNat, reduceIte, Nat.reduceLT, h6, hw]
      refine ih (i + 1) _ _ (by omega) ?_ ?_ ?_ ?_
      · simp only [go_sem, reduceCtorEq, Nat.reduceEqDiff, Nat.reduceAdd, Nat.reduceSub, Nat.reduceMul, Nat.reduceLeDiff, Int.reduceEq, Int.reduceLT, Int.reduceLE, Int.reduceAdd, Int.reduceMul, Int.reduceSub, Int.reduceNeg, Int.reduceToNat, reduceIte, Nat.reduceLT, h0]
      · simp only [go_sem, reduceCtorEq, Nat.reduceEqDiff, Nat.reduceAdd, Nat.reduceSub, Nat.reduceMul, Nat.reduceLeDiff, Int.reduceEq, Int.reduceLT, Int.reduceLE, Int.reduceAdd, Int.reduceMul, Int.reduceSub, Int.reduceNeg, Int.reduceToNat, reduceIte, Nat.reduceLT, h1]
      · simp only [go_sem, reduceCtorEq, Nat.reduceEqDiff, Nat.reduceAdd, Nat.reduceSub, Nat.reduceMul, Nat.reduceLeDiff, Int.reduceEq, Int.reduceLT, Int.reduceLE, Int.reduceAdd, Int.reduceMul, Int.reduceSub, Int.reduceNeg, Int.reduceToNat, reduceIte, Nat.reduceLT]
      · simp only [go_sem, reduceCtorEq, Nat.reduceEqDiff, Nat.reduceAdd, Nat.reduceSub, Nat.reduceMul, Nat.reduceLeDiff, Int.reduceEq, Int.reduceLT, Int.reduceLE, Int.reduceAdd, Int.reduceMul, Int.reduceSub, Int.reduceNeg, Int.reduceToNat, reduceIte, Nat.reduceLT]
        rw [List.flatMap_append, List.map_append]
        simpa using ha'
  simp only [go_sem, reduceCtorEq, Nat.reduceEqDiff, Nat.reduceAdd, Nat.reduceSub, Nat.reduceMul, Nat.reduceLeDiff, Int.reduceEq, Int.reduceLT, Int.reduceLE, Int.reduceAdd, Int.reduceMul, Int.reduceSub, Int.reduceNeg, Int.reduceToNat, reduceIte, Nat.reduceLT]
  refine loop 8 0 _ _ rfl ?_ ?_ ?_ ?_
  · simp only [go_sem, reduceCtorEq, Nat.reduceEqDiff, Nat.reduceAdd, Nat.reduceSub, Nat.reduceMul, Nat.reduceLeDiff, Int.reduceEq, Int.reduceLT, Int.reduceLE, Int.reduceAdd, Int.reduceMul, Int.reduceSub, Int.reduceNeg, Int.reduceToNat, reduceIte, Nat.reduceLT]
  · simp only [go_sem, reduceCtorEq, Nat.reduceEqDiff, Nat.reduceAdd, Nat.reduceSub, Nat.reduceMul, Nat.reduceLeDiff, Int.reduceEq, Int.reduceLT, Int.reduceLE, Int.reduceAdd, Int.reduceMul, Int.reduceSub, Int.reduceNeg, Int.reduceToNat, reduceIte, Nat.reduceLT]
  · simp only [go_sem, reduceCtorEq, Nat.reduceEqDiff, Nat.reduceAdd, Nat.reduceSub, Nat.reduceMul, Nat.reduceLeDiff, Int.reduceEq, Int.reduceLT, Int.reduceLE, Int.reduceAdd, Int.reduceMul, Int.reduceSub, Int.reduceNeg, Int.reduceToNat, reduceIte, Nat.reduceLT]
  · simp only [go_sem, reduceCtorEq, Nat.reduceEqDiff, Nat.reduceAdd, Nat.reduceSub, Nat.reduceMul, Nat.reduceLeDiff, Int.reduceEq, Int.reduceLT, Int.reduceLE, Int.reduceAdd, Int.reduceMul, Int.reduceSub, Int.reduceNeg, Int.reduceToNat, reduceIte, Nat.reduceLT]; exact .nil

end Go.Proofs.Ytmdblemjlmfbbaa.Eng

/- Contracts of the document's answer: a set out of dots, the last dot; both answers' sets are the same. No statement of the seat is proved here. -/
namespace Go.Proofs.Ytmdblemjlmfbbaa.Eng
open Go
set_option linter.unusedVariables false
set_option linter.unusedSimpArgs false

/-- Sets, whoever makes them. -/
def unionL (a b : List Rn) : List Rn := normL (a ++ b)
def diffL (a b : List Rn) : List Rn := normL (minusL a b)
def dotsL (l : List Dot) : List Rn := normL (ofL l)

theorem unionL_ok {a b : List Rn} (ha : ∀ r ∈ a, r.Right) (hb : ∀ r ∈ b, r.Right) : Norm (unionL a b) ∧ ∀ d, hasDot (unionL a b) d = (hasDot a d || hasDot b d) := by
  obtain ⟨h1, h2⟩ := normL_ok (l := a ++ b) (by intro r hr; rcases List.mem_append.1 hr with h | h; exact ha r h; exact hb r h)
  exact ⟨h1, fun d => by unfold unionL; rw [h2, hasDot_append]⟩
theorem unionL_len {a b : List Rn} : (unionL a b).length ≤ a.length + b.length := by
  have := normL_len (a ++ b)
  simpa [unionL] using this
theorem diffL_ok {a b : List Rn} (ha : Norm a) (hb : ∀ r ∈ b, r.Right) : Norm (diffL a b) ∧ (diffL a b).length ≤ a.length + b.length ∧ ∀ d, hasDot (diffL a b) d = (hasDot a d && !hasDot b d) := by
  obtain ⟨h1, h2, h3⟩ := minusL_ok ha hb
  obtain ⟨h4, h5⟩ := normL_ok h1.right
  have := normL_len (minusL a b)
  exact ⟨h4, by unfold diffL; omega, fun d => by unfold diffL; rw [h5, h3]⟩
theorem hasDot_ofL {l : List Dot} {d : Dot} : hasDot (ofL l) d = (decide (d ∈ l) && (ofDot d).right) := by
  rw [Bool.eq_iff_iff, hasDot_iff]
  simp only [ofL, Bool.and_eq_true, decide_eq_true_eq, List.mem_filter, List.mem_map]
  constructor
  · rintro ⟨r, ⟨⟨x, hx, rfl⟩, hr⟩, h1, h2, h3⟩
    obtain ⟨xd, xn⟩ := x
    obtain ⟨dd, dn⟩ := d
    simp only [ofDot] at *
    have : xn = dn := by omega
    subst h1; subst this
    exact ⟨hx, hr⟩
  · rintro ⟨h1, h2⟩
    exact ⟨ofDot d, ⟨⟨d, h1, rfl⟩, h2⟩, rfl, Int.le_refl _, Int.le_refl _⟩
theorem dotsL_ok (l : List Dot) : Norm (dotsL l) ∧ ∀ d, hasDot (dotsL l) d = (decide (d ∈ l) && (ofDot d).right) := by
  obtain ⟨h1, h2⟩ := normL_ok (l := ofL l) ofL_right
  exact ⟨h1, fun d => by unfold dotsL; rw [h2, hasDot_ofL]⟩
theorem dotsL_len (l : List Dot) : (dotsL l).length ≤ l.length := Nat.le_trans (normL_len _) (ofL_len l)

theorem setR_union {a b : List Rn} (ha : ∀ r ∈ a, r.Right) (hb : ∀ r ∈ b, r.Right) : setR a b false = unionL a b := by
  obtain ⟨h1, h2⟩ := setR_ok ha hb false
  obtain ⟨h3, h4⟩ := unionL_ok ha hb
  exact h1.ext h3 fun d => by rw [h2, h4]; simp
theorem setR_diff {a b : List Rn} (ha : Norm a) (hb : ∀ r ∈ b, r.Right) : setR a b true = diffL a b := by
  obtain ⟨h1, h2⟩ := setR_ok ha.right hb true
  obtain ⟨h3, _, h4⟩ := diffL_ok ha hb
  exact h1.ext h3 fun d => by rw [h2, h4]; simp

theorem r7_Union_is (a b : List Rn) (hs : a.length + b.length ≤ 200000) (ha : ∀ r ∈ a, r.Right) (hb : ∀ r ∈ b, r.Right) : Pr 26 [.c (runsC a), .c (runsC b)] (.c (runsC (unionL a b))) := by
  rw [← setR_union ha hb]; exact r7_Union_ok a b hs ha hb

theorem r7_Of_ok (l : List Dot) (hs : l.length ≤ 100000) : Pr 25 [.c (dotsC l)] (.c (runsC (dotsL l))) := by
  refine pure_ofW mixed is_r7_Of (by simp [closedAs, closedA, closed_dotsC]) fun hl T => ?_
  unfold c_r7_Of
  dsimp only [dotsC]
  generalize hv : dotsL l = v
  have hlen : l.length ≤ maxLen := by unfold maxLen; omega
  have loop : ∀ (rest pre : List Dot) (s : List Rn) (e : Env) (H : Heap), l = pre ++ rest → e 0 = .c (.lst 2 (l.map Dot.cells)) → e 3 = .c (runsC s) → e 4 = iC pre.length → Norm s → s.length ≤ pre.length → (∀ d, hasDot s d = (decide (d ∈ pre) && (ofDot d).right)) →
      Run (progT Try.prog T) ⟨[.tmp 2], fun u E => viewW E u (.c (runsC v))⟩ [.loop r7_Of_L0, .blk 0, .code r7_Of_K1] e H := by
    intro rest
    induction rest with
    | nil =>
      intro pre s e H hp h0 h3 h4 hn hsl hh
      have hc := not_lt_at (f := Dot.cells) hp
      refine run_again ?_
      conv => enter [3, 1]; unfold r7_Of_L0
      simp only [go_sem, reduceCtorEq, Nat.reduceEqDiff, Nat.reduceAdd, Nat.reduceSub, Nat.reduceMul, Nat.reduceLeDiff, Int.reduceEq, Int.reduceLT, Int.reduceLE, Int.reduceAdd, Int.reduceMul, Int.reduceSub, Int.reduceNeg, Int.reduceToNat, reduceIte, Nat.reduceLT, h0, h4, hc]
      unfold r7_Of_K1
      simp only [go_sem, reduceCtorEq, Nat.reduceEqDiff, Nat.reduceAdd, Nat.reduceSub, Nat.reduceMul, Nat.reduceLeDiff, Int.reduceEq, Int.reduceLT, Int.reduceLE, Int.reduceAdd, Int.reduceMul, Int.reduceSub, Int.reduceNeg, Int.reduceToNat, reduceIte, Nat.reduceLT, h3]
      have hsv : s = v := by
        rw [← hv]
        obtain ⟨k1, k2⟩ := dotsL_ok l
        exact hn.ext k1 fun d => by rw [hh, k2, hp, List.append_nil]
      rw [hsv]
      exact told_runs _ _
    | cons r rest ih =>
      intro pre s e H hp h0 h3 h4 hn hsl hh
      have hc := lt_at (f := Dot.cells) hp
      have hr := map_at' (f := Dot.cells) hp
      have hn' := next_at hp hlen
      have hpl : pre.length < l.length := by rw [hp]; simp
      have hmay : mayRuns [ofDot r] = (ofDot r).right := by simp [mayRuns, mayFrom]
      refine run_again ?_
      conv => enter [3, 1]; unfold r7_Of_L0
      simp only [go_sem, reduceCtorEq, Nat.reduceEqDiff, Nat.reduceAdd, Nat.reduceSub, Nat.reduceMul, Nat.reduceLeDiff, Int.reduceEq, Int.reduceLT, Int.reduceLE, Int.reduceAdd, Int.reduceMul, Int.reduceSub, Int.reduceNeg, Int.reduceToNat, reduceIte, Nat.reduceLT, h0, h4, hc, hr]
      refine callW_pure (r7_MayRuns_ok [ofDot r]) ?_
      rw [hmay]
      cases hright : (ofDot r).right with
      | false =>
        simp only [go_sem, reduceCtorEq, Nat.reduceEqDiff, Nat.reduceAdd, Nat.reduceSub, Nat.reduceMul, Nat.reduceLeDiff, Int.reduceEq, Int.reduceLT, Int.reduceLE, Int.reduceAdd, Int.reduceMul, Int.reduceSub, Int.reduceNeg, Int.reduceToNat, reduceIte, Nat.reduceLT, h4, hn']
        refine ih (pre ++ [r]) s _ _ (by rw [hp]; simp) ?_ ?_ ?_ hn (by simp; omega) ?_
        · simp only [go_sem, reduceCtorEq, Nat.reduceEqDiff, Nat.reduceAdd, Nat.reduceSub, Nat.reduceMul, Nat.reduceLeDiff, Int.reduceEq, Int.reduceLT, Int.reduceLE, Int.reduceAdd, Int.reduceMul, Int.reduceSub, Int.reduceNeg, Int.reduceToNat, reduceIte, Nat.reduceLT, h0]
        · simp only [go_sem, reduceCtorEq, Nat.reduceEqDiff, Nat.reduceAdd, Nat.reduceSub, Nat.reduceMul, Nat.reduceLeDiff, Int.reduceEq, Int.reduceLT, Int.reduceLE, Int.reduceAdd, Int.reduceMul, Int.reduceSub, Int.reduceNeg, Int.reduceToNat, reduceIte, Nat.reduceLT, h3]
        · simp only [go_sem, reduceCtorEq, Nat.reduceEqDiff, Nat.reduceAdd, Nat.reduceSub, Nat.reduceMul, Nat.reduceLeDiff, Int.reduceEq, Int.reduceLT, Int.reduceLE, Int.reduceAdd, Int.reduceMul, Int.reduceSub, Int.reduceNeg, Int.reduceToNat, reduceIte, Nat.reduceLT]
        · intro d
          rw [hh]
          by_cases hdr : d = r
          · subst hdr; simp [hright]
          · simp [hdr]
      | true =>
        simp only [go_sem, reduceCtorEq, Nat.reduceEqDiff, Nat.reduceAdd, Nat.reduceSub, Nat.reduceMul, Nat.reduceLeDiff, Int.reduceEq, Int.reduceLT, Int.reduceLE, Int.reduceAdd, Int.reduceMul, Int.reduceSub, Int.reduceNeg, Int.reduceToNat, reduceIte, Nat.reduceLT, h3]
        have hR : ∀ q ∈ [ofDot r], q.Right := fun q hq => by simp at hq; subst hq; exact Rn.right_iff.1 hright
        refine callW_pure (r7_Union_is s [ofDot r] (by simp; omega) hn.right hR) ?_
        simp only [go_sem, reduceCtorEq, Nat.reduceEqDiff, Nat.reduceAdd, Nat.reduceSub, Nat.reduceMul, Nat.reduceLeDiff, Int.reduceEq, Int.reduceLT, Int.reduceLE, Int.reduceAdd, Int.reduceMul, Int.reduceSub, Int.reduceNeg, Int.reduceToNat, reduceIte, Nat.reduceLT, h4, hn']
        obtain ⟨k1, k2⟩ := unionL_ok hn.right hR
        have k3 := unionL_len (a := s) (b := [ofDot r])
        refine ih (pre ++ [r]) (unionL s [ofDot r]) _ _ (by rw [hp]; simp) ?_ ?_ ?_ k1 (by simp at k3 ⊢; omega) ?_
        · simp only [go_sem, reduceCtorEq, Nat.reduceEqDiff, Nat.reduceAdd, Nat.reduceSub, Nat.reduceMul, Nat.reduceLeDiff, Int.reduceEq, Int.reduceLT, Int.reduceLE, Int.reduceAdd, Int.reduceMul, Int.reduceSub, Int.reduceNeg, Int.reduceToNat, reduceIte, Nat.reduceLT, h0]
        · simp only [go_sem, reduceCtorEq, Nat.reduceEqDiff, Nat.reduceAdd, Nat.reduceSub, Nat.reduceMul, Nat.reduceLeDiff, Int.reduceEq, Int.reduceLT, Int.reduceLE, Int.reduceAdd, Int.reduceMul, Int.reduceSub, Int.reduceNeg, Int.reduceToNat, reduceIte, Nat.reduceLT]
        · simp only [go_sem, reduceCtorEq, Nat.reduceEqDiff, Nat.reduceAdd, Nat.reduceSub, Nat.reduceMul, Nat.reduceLeDiff, Int.reduceEq, Int.reduceLT, Int.reduceLE, Int.reduceAdd, Int.reduceMul, Int.reduceSub, Int.reduceNeg, Int.reduceToNat, reduceIte, Nat.reduceLT]
        · intro d
          rw [k2, hh]
          have h1 : hasDot [ofDot r] d = decide (d = r) := by
            rw [Bool.eq_iff_iff, hasDot_iff]
            obtain ⟨rd, rn⟩ := r
            obtain ⟨dd, dn⟩ := d
            simp [ofDot]
            omega
          rw [h1]
          by_cases hdr : d = r
          · subst hdr; simp [hright]
          · simp [hdr]
  simp only [go_sem, reduceCtorEq, Nat.reduceEqDiff, Nat.reduceAdd, Nat.reduceSub, Nat.reduceMul, Nat.reduceLeDiff, Int.reduceEq, Int.reduceLT, Int.reduceLE, Int.reduceAdd, Int.reduceMul, Int.reduceSub, Int.reduceNeg, Int.reduceToNat, reduceIte, Nat.reduceLT]
  refine run_fz0 (sz := 3) (y := .nilS) (by simp only [go_sem, reduceCtorEq, Nat.reduceEqDiff, Nat.reduceAdd, Nat.reduceSub, Nat.reduceMul, Nat.reduceLeDiff, Int.reduceEq, Int.reduceLT, Int.reduceLE, Int.reduceAdd, Int.reduceMul, Int.reduceSub, Int.reduceNeg, Int.reduceToNat, reduceIte, Nat.reduceLT]) (.inl rfl) ?_
  simp only [go_sem, reduceCtorEq, Nat.reduceEqDiff, Nat.reduceAdd, Nat.reduceSub, Nat.reduceMul, Nat.reduceLeDiff, Int.reduceEq, Int.reduceLT, Int.reduceLE, Int.reduceAdd, Int.reduceMul, Int.reduceSub, Int.reduceNeg, Int.reduceToNat, reduceIte, Nat.reduceLT]
  refine loop l [] [] _ _ rfl ?_ ?_ ?_ .nil (by simp) (fun d => by simp [hasDot])
  · simp only [go_sem, reduceCtorEq, Nat.reduceEqDiff, Nat.reduceAdd, Nat.reduceSub, Nat.reduceMul, Nat.reduceLeDiff, Int.reduceEq, Int.reduceLT, Int.reduceLE, Int.reduceAdd, Int.reduceMul, Int.reduceSub, Int.reduceNeg, Int.reduceToNat, reduceIte, Nat.reduceLT]
  · simp only [go_sem, reduceCtorEq, Nat.reduceEqDiff, Nat.reduceAdd, Nat.reduceSub, Nat.reduceMul, Nat.reduceLeDiff, Int.reduceEq, Int.reduceLT, Int.reduceLE, Int.reduceAdd, Int.reduceMul, Int.reduceSub, Int.reduceNeg, Int.reduceToNat, reduceIte, Nat.reduceLT]
  · simp only [go_sem, reduceCtorEq, Nat.reduceEqDiff, Nat.reduceAdd, Nat.reduceSub, Nat.reduceMul, Nat.reduceLeDiff, Int.reduceEq, Int.reduceLT, Int.reduceLE, Int.reduceAdd, Int.reduceMul, Int.reduceSub, Int.reduceNeg, Int.reduceToNat, reduceIte, Nat.reduceLT]

end Go.Proofs.Ytmdblemjlmfbbaa.Eng
