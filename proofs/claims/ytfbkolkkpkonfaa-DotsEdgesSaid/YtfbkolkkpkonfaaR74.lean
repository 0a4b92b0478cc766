/- Contracts of the document's answer: a set out of dots, the last dot; both answers' sets are the same. No statement of the seat is proved here. -/
import Derived.Test.YtfbkolkkpkonfaaR73
namespace Go.Proofs.Ytfbkolkkpkonfaa.Eng
open Go
set_option linter.unusedVariables false
set_option linter.unusedSimpArgs false

/-- Sets, whoever makes them. -/
def unionL (a b : List Rn) : List Rn := normL (a ++ b)
def diffL (a b : List Rn) : List Rn := normL (minusL a b)
def dotsL (l : List Dot) : List Rn := normL (ofL l)

theorem unionL_ok {a b : List Rn} (ha : ∀ r ∈ a, r.Right) (hb : ∀ r ∈ b, r.Right) : Norm (unionL a b) ∧ ∀ d, hasDot (unionL a b) d = (hasDot a d || hasDot b d) := by
  obtain ⟨h1, h2⟩ := normL_ok (l := a ++ b) (by intro r hr; rcases List.mem_append.1 hr with h | h; exact ha r h; exact hb r h)
  exact ⟨h1, fun d => by unfold unionL; rw [h2, hasDot_append]⟩
theorem unionL_len {a b : List Rn} : (unionL a b).length ≤ a.length + b.length := by
  have := normL_len (a ++ b)
  simpa [unionL] using this
theorem diffL_ok {a b : List Rn} (ha : Norm a) (hb : ∀ r ∈ b, r.Right) : Norm (diffL a b) ∧ (diffL a b).length ≤ a.length + b.length ∧ ∀ d, hasDot (diffL a b) d = (hasDot a d && !hasDot b d) := by
  obtain ⟨h1, h2, h3⟩ := minusL_ok ha hb
  obtain ⟨h4, h5⟩ := normL_ok h1.right
  have := normL_len (minusL a b)
  exact ⟨h4, by unfold diffL; omega, fun d => by unfold diffL; rw [h5, h3]⟩
theorem hasDot_ofL {l : List Dot} {d : Dot} : hasDot (ofL l) d = (decide (d ∈ l) && (ofDot d).right) := by
  rw [Bool.eq_iff_iff, hasDot_iff]
  simp only [ofL, Bool.and_eq_true, decide_eq_true_eq, List.mem_filter, List.mem_map]
  constructor
  · rintro ⟨r, ⟨⟨x, hx, rfl⟩, hr⟩, h1, h2, h3⟩
    obtain ⟨xd, xn⟩ := x
    obtain ⟨dd, dn⟩ := d
    simp only [ofDot] at *
    have : xn = dn := by omega
    subst h1; subst this
    exact ⟨hx, hr⟩
  · rintro ⟨h1, h2⟩
    exact ⟨ofDot d, ⟨⟨d, h1, rfl⟩, h2⟩, rfl, Int.le_refl _, Int.le_refl _⟩
theorem dotsL_ok (l : List Dot) : Norm (dotsL l) ∧ ∀ d, hasDot (dotsL l) d = (decide (d ∈ l) && (ofDot d).right) := by
  obtain ⟨h1, h2⟩ := normL_ok (l := ofL l) ofL_right
  exact ⟨h1, fun d => by unfold dotsL; rw [h2, hasDot_ofL]⟩
theorem dotsL_len (l : List Dot) : (dotsL l).length ≤ l.length := Nat.le_trans (normL_len _) (ofL_len l)

theorem setR_union {a b : List Rn} (ha : ∀ r ∈ a, r.Right) (hb : ∀ r ∈ b, r.Right) : setR a b false = unionL a b := by
  obtain ⟨h1, h2⟩ := setR_ok ha hb false
  obtain ⟨h3, h4⟩ := unionL_ok ha hb
  exact h1.ext h3 fun d => by rw [h2, h4]; simp
theorem setR_diff {a b : List Rn} (ha : Norm a) (hb : ∀ r ∈ b, r.Right) : setR a b true = diffL a b := by
  obtain ⟨h1, h2⟩ := setR_ok ha.right hb true
  obtain ⟨h3, _, h4⟩ := diffL_ok ha hb
  exact h1.ext h3 fun d => by rw [h2, h4]; simp

theorem r7_Union_is (a b : List Rn) (hs : a.length + b.length ≤ 200000) (ha : ∀ r ∈ a, r.Right) (hb : ∀ r ∈ b, r.Right) : Pr 35 [.c (runsC a), .c (runsC b)] (.c (runsC (unionL a b))) := by
  rw [← setR_union ha hb]; exact r7_Union_ok a b hs ha hb
theorem r7_Minus_is (a b : List Rn) (hs : a.length + b.length ≤ 200000) (ha : Norm a) (hb : ∀ r ∈ b, r.Right) : Pr 36 [.c (runsC a), .c (runsC b)] (.c (runsC (diffL a b))) := by
  rw [← setR_diff ha hb]; exact r7_Minus_ok a b hs ha.right hb

theorem r7_Of_ok (l : List Dot) (hs : l.length ≤ 100000) : Pr 33 [.c (dotsC l)] (.c (runsC (dotsL l))) := by
  refine pure_ofW mixed is_r7_Of (by simp [closedAs, closedA, closed_dotsC]) fun hl T => ?_
  unfold c_r7_Of
  dsimp only [dotsC]
  generalize hv : dotsL l = v
  have hlen : l.length ≤ maxLen := by unfold maxLen; omega
  have loop : ∀ (rest pre : List Dot) (s : List Rn) (e : Env) (H : Heap), l = pre ++ rest → e 0 = .c (.lst 2 (l.map Dot.cells)) → e 3 = .c (runsC s) → e 4 = iC pre.length → Norm s → s.length ≤ pre.length → (∀ d, hasDot s d = (decide (d ∈ pre) && (ofDot d).right)) →
      Run (progT Try.prog T) ⟨[.tmp 2], fun u E => viewW E u (.c (runsC v))⟩ [.loop r7_Of_L0, .blk 0, .code r7_Of_K1] e H := by
    intro rest
    induction rest with
    | nil =>
      intro pre s e H hp h0 h3 h4 hn hsl hh
      have hc := not_lt_at (f := Dot.cells) hp
      refine run_again ?_
      conv => enter [3, 1]; unfold r7_Of_L0
      simp only [go_sem, reduceCtorEq, Nat.reduceEqDiff, Nat.reduceAdd, Nat.reduceSub, Nat.reduceMul, Nat.reduceLeDiff, Int.reduceEq, Int.reduceLT, Int.reduceLE, Int.reduceAdd, Int.reduceMul, Int.reduceSub, Int.reduceNeg, Int.reduceToNat, reduceIte, Nat.reduceLT, h0, h4, hc]
      unfold r7_Of_K1
      simp only [go_sem, reduceCtorEq, Nat.reduceEqDiff, Nat.reduceAdd, Nat.reduceSub, Nat.reduceMul, Nat.reduceLeDiff, Int.reduceEq, Int.reduceLT, Int.reduceLE, Int.reduceAdd, Int.reduceMul, Int.reduceSub, Int.reduceNeg, Int.reduceToNat, reduceIte, Nat.reduceLT, h3]
      have hsv : s = v := by
        rw [← hv]
        obtain ⟨k1, k2⟩ := dotsL_ok l
        exact hn.ext k1 fun d => by rw [hh, k2, hp, List.append_nil]
      rw [hsv]
      exact told_runs _ _
    | cons r rest ih =>
      intro pre s e H hp h0 h3 h4 hn hsl hh
      have hc := lt_at (f := Dot.cells) hp
      have hr := map_at' (f := Dot.cells) hp
      have hn' := next_at hp hlen
      have hpl : pre.length < l.length := by rw [hp]; simp
      have hmay : mayRuns [ofDot r] = (ofDot r).right := by simp [mayRuns, mayFrom]
      refine run_again ?_
      conv => enter [3, 1]; unfold r7_Of_L0
      simp only [go_sem, reduceCtorEq, Nat.reduceEqDiff, Nat.reduceAdd, Nat.reduceSub, Nat.reduceMul, Nat.reduceLeDiff, Int.reduceEq, Int.reduceLT, Int.reduceLE, Int.reduceAdd, Int.reduceMul, Int.reduceSub, Int.reduceNeg, Int.reduceToNat, reduceIte, Nat.reduceLT, h0, h4, hc, hr]
      refine callW_pure (r7_MayRuns_ok [ofDot r]) ?_
      rw [hmay]
      cases hright : (ofDot r).right with
      | false =>
        simp only [go_sem, reduceCtorEq, Nat.reduceEqDiff, Nat.reduceAdd, Nat.reduceSub, Nat.reduceMul, Nat.reduceLeDiff, Int.reduceEq, Int.reduceLT, Int.reduceLE, Int.reduceAdd, Int.reduceMul, Int.reduceSub, Int.reduceNeg, Int.reduceToNat, reduceIte, Nat.reduceLT, h4, hn']
        refine ih (pre ++ [r]) s _ _ (by rw [hp]; simp) ?_ ?_ ?_ hn (by simp; omega) ?_
        · simp only [go_sem, reduceCtorEq, Nat.reduceEqDiff, Nat.reduceAdd, Nat.reduceSub, Nat.reduceMul, Nat.reduceLeDiff, Int.reduceEq, Int.reduceLT, Int.reduceLE, Int.reduceAdd, Int.reduceMul, Int.reduceSub, Int.reduceNeg, Int.reduceToNat, reduceIte, Nat.reduceLT, h0]
        · simp only [go_sem, reduceCtorEq, Nat.reduceEqDiff, Nat.reduceAdd, Nat.reduceSub, Nat.reduceMul, Nat.reduceLeDiff, Int.reduceEq, Int.reduceLT, Int.reduceLE, Int.reduceAdd, Int.reduceMul, Int.reduceSub, Int.reduceNeg, Int.reduceToNat, reduceIte, Nat.reduceLT, h3]
        · simp only [go_sem, reduceCtorEq, Nat.reduceEqDiff, Nat.reduceAdd, Nat.reduceSub, Nat.reduceMul, Nat.reduceLeDiff, Int.reduceEq, Int.reduceLT, Int.reduceLE, Int.reduceAdd, Int.reduceMul, Int.reduceSub, Int.reduceNeg, Int.reduceToNat, reduceIte, Nat.reduceLT]
        · intro d
          rw [hh]
          by_cases hdr : d = r
          · subst hdr; simp [hright]
          · simp [hdr]
      | true =>
        simp only [go_sem, reduceCtorEq, Nat.reduceEqDiff, Nat.reduceAdd, Nat.reduceSub, Nat.reduceMul, Nat.reduceLeDiff, Int.reduceEq, Int.reduceLT, Int.reduceLE, Int.reduceAdd, Int.reduceMul, Int.reduceSub, Int.reduceNeg, Int.reduceToNat, reduceIte, Nat.reduceLT, h3]
        have hR : ∀ q ∈ [ofDot r], q.Right := fun q hq => by simp at hq; subst hq; exact Rn.right_iff.1 hright
        refine callW_pure (r7_Union_is s [ofDot r] (by simp; omega) hn.right hR) ?_
        simp only [go_sem, reduceCtorEq, Nat.reduceEqDiff, Nat.reduceAdd, Nat.reduceSub, Nat.reduceMul, Nat.reduceLeDiff, Int.reduceEq, Int.reduceLT, Int.reduceLE, Int.reduceAdd, Int.reduceMul, Int.reduceSub, Int.reduceNeg, Int.reduceToNat, reduceIte, Nat.reduceLT, h4, hn']
        obtain ⟨k1, k2⟩ := unionL_ok hn.right hR
        have k3 := unionL_len (a := s) (b := [ofDot r])
        refine ih (pre ++ [r]) (unionL s [ofDot r]) _ _ (by rw [hp]; simp) ?_ ?_ ?_ k1 (by simp at k3 ⊢; omega) ?_
        · simp only [go_sem, reduceCtorEq, Nat.reduceEqDiff, Nat.reduceAdd, Nat.reduceSub, Nat.reduceMul, Nat.reduceLeDiff, Int.reduceEq, Int.reduceLT, Int.reduceLE, Int.reduceAdd, Int.reduceMul, Int.reduceSub, Int.reduceNeg, Int.reduceToNat, reduceIte, Nat.reduceLT, h0]
        · simp only [go_sem, reduceCtorEq, Nat.reduceEqDiff, Nat.reduceAdd, Nat.reduceSub, Nat.reduceMul, Nat.reduceLeDiff, Int.reduceEq, Int.reduceLT, Int.reduceLE, Int.reduceAdd, Int.reduceMul, Int.reduceSub, Int.reduceNeg, Int.reduceToNat, reduceIte, Nat.reduceLT]
        · simp only [go_sem, reduceCtorEq, Nat.reduceEqDiff, Nat.reduceAdd, Nat.reduceSub, Nat.reduceMul, Nat.reduceLeDiff, Int.reduceEq, Int.reduceLT, Int.reduceLE, Int.reduceAdd, Int.reduceMul, Int.reduceSub, Int.reduceNeg, Int.reduceToNat, reduceIte, Nat.reduceLT]
        · intro d
          rw [k2, hh]
          have h1 : hasDot [ofDot r] d = decide (d = r) := by
            rw [Bool.eq_iff_iff, hasDot_iff]
            obtain ⟨rd, rn⟩ := r
            obtain ⟨dd, dn⟩ := d
            simp [ofDot]
            omega
          rw [h1]
          by_cases hdr : d = r
          · subst hdr; simp [hright]
          · simp [hdr]
  simp only [go_sem, reduceCtorEq, Nat.reduceEqDiff, Nat.reduceAdd, Nat.reduceSub, Nat.reduceMul, Nat.reduceLeDiff, Int.reduceEq, Int.reduceLT, Int.reduceLE, Int.reduceAdd, Int.reduceMul, Int.reduceSub, Int.reduceNeg, Int.reduceToNat, reduceIte, Nat.reduceLT]
  refine run_fz0 (sz := 3) (y := .nilS) (by simp only [go_sem, reduceCtorEq, Nat.reduceEqDiff, Nat.reduceAdd, Nat.reduceSub, Nat.reduceMul, Nat.reduceLeDiff, Int.reduceEq, Int.reduceLT, Int.reduceLE, Int.reduceAdd, Int.reduceMul, Int.reduceSub, Int.reduceNeg, Int.reduceToNat, reduceIte, Nat.reduceLT]) (.inl rfl) ?_
  simp only [go_sem, reduceCtorEq, Nat.reduceEqDiff, Nat.reduceAdd, Nat.reduceSub, Nat.reduceMul, Nat.reduceLeDiff, Int.reduceEq, Int.reduceLT, Int.reduceLE, Int.reduceAdd, Int.reduceMul, Int.reduceSub, Int.reduceNeg, Int.reduceToNat, reduceIte, Nat.reduceLT]
  refine loop l [] [] _ _ rfl ?_ ?_ ?_ .nil (by simp) (fun d => by simp [hasDot])
  · simp only [go_sem, reduceCtorEq, Nat.reduceEqDiff, Nat.reduceAdd, Nat.reduceSub, Nat.reduceMul, Nat.reduceLeDiff, Int.reduceEq, Int.reduceLT, Int.reduceLE, Int.reduceAdd, Int.reduceMul, Int.reduceSub, Int.reduceNeg, Int.reduceToNat, reduceIte, Nat.reduceLT]
  · simp only [go_sem, reduceCtorEq, Nat.reduceEqDiff, Nat.reduceAdd, Nat.reduceSub, Nat.reduceMul, Nat.reduceLeDiff, Int.reduceEq, Int.reduceLT, Int.reduceLE, Int.reduceAdd, Int.reduceMul, Int.reduceSub, Int.reduceNeg, Int.reduceToNat, reduceIte, Nat.reduceLT]
  · simp only [go_sem, reduceCtorEq, Nat.reduceEqDiff, Nat.reduceAdd, Nat.reduceSub, Nat.reduceMul, Nat.reduceLeDiff, Int.reduceEq, Int.reduceLT, Int.reduceLE, Int.reduceAdd, Int.reduceMul, Int.reduceSub, Int.reduceNeg, Int.reduceToNat, reduceIte, Nat.reduceLT]

theorem r7_Last_ok (l : List Rn) (d : Int) : Pr 37 [.c (runsC l), iC d] (iC (lastL l d)) := by
  refine pure_of mixed is_r7_Last (by simp [closedAs, closedA, closedC, closed_runsC]) fun hl T => ?_
  have hlen : l.length ≤ maxLen := by simp [lenAs, lenA, lenC, runsC] at hl; exact hl
  unfold c_r7_Last
  dsimp only [runsC]
  generalize hv : lastL l d = v
  simp only [go_sem, reduceCtorEq, Nat.reduceEqDiff, Nat.reduceAdd, Nat.reduceSub, Nat.reduceMul, Nat.reduceLeDiff, Int.reduceEq, Int.reduceLT, Int.reduceLE, Int.reduceAdd, Int.reduceMul, Int.reduceSub, Int.reduceNeg, Int.reduceToNat, reduceIte, Nat.reduceLT]
  have loop : ∀ (rest pre : List Rn) (n : Int) (e : Env) (H : Heap), l = pre ++ rest → e 0 = .c (.lst 3 (l.map Rn.cells)) → e 6 = iC pre.length → e 1 = iC d → e 5 = iC n →
      lastFrom d n rest = v → Run (progT Try.prog T) ⟨[.tmp 4], fun u E => viewA E u = some (iC v)⟩ [.loop r7_Last_L0, .blk 0, .code r7_Last_K1] e H := by
    intro rest
    induction rest with
    | nil =>
      intro pre n e H hp h0 h6 h1 h5 hm
      have hc := not_lt_at (f := Rn.cells) hp
      refine run_again ?_
      conv => enter [3, 1]; unfold r7_Last_L0
      simp only [go_sem, reduceCtorEq, Nat.reduceEqDiff, Nat.reduceAdd, Nat.reduceSub, Nat.reduceMul, Nat.reduceLeDiff, Int.reduceEq, Int.reduceLT, Int.reduceLE, Int.reduceAdd, Int.reduceMul, Int.reduceSub, Int.reduceNeg, Int.reduceToNat, reduceIte, Nat.reduceLT, h0, h6, hc]
      unfold r7_Last_K1
      simp only [go_sem, reduceCtorEq, Nat.reduceEqDiff, Nat.reduceAdd, Nat.reduceSub, Nat.reduceMul, Nat.reduceLeDiff, Int.reduceEq, Int.reduceLT, Int.reduceLE, Int.reduceAdd, Int.reduceMul, Int.reduceSub, Int.reduceNeg, Int.reduceToNat, reduceIte, Nat.reduceLT, h5]
      simp [viewA, viewFn, viewC, viewFs, viewCs, viewAs, closedC, closedCs, ← hm, lastFrom]
    | cons r rest ih =>
      intro pre n e H hp h0 h6 h1 h5 hm
      have hc := lt_at (f := Rn.cells) hp
      have hr := map_at' (f := Rn.cells) hp
      have hn := next_at hp hlen
      refine run_again ?_
      conv => enter [3, 1]; unfold r7_Last_L0
      simp only [go_sem, reduceCtorEq, Nat.reduceEqDiff, Nat.reduceAdd, Nat.reduceSub, Nat.reduceMul, Nat.reduceLeDiff, Int.reduceEq, Int.reduceLT, Int.reduceLE, Int.reduceAdd, Int.reduceMul, Int.reduceSub, Int.reduceNeg, Int.reduceToNat, reduceIte, Nat.reduceLT, h0, h6, h1, h5, hc, hr]
      by_cases hd : r.dev = d
      · simp only [go_sem, reduceCtorEq, Nat.reduceEqDiff, Nat.reduceAdd, Nat.reduceSub, Nat.reduceMul, Nat.reduceLeDiff, Int.reduceEq, Int.reduceLT, Int.reduceLE, Int.reduceAdd, Int.reduceMul, Int.reduceSub, Int.reduceNeg, Int.reduceToNat, reduceIte, Nat.reduceLT, h0, h6, h5, hd, hn, hr]
        refine ih (pre ++ [r]) (if n < r.to then r.to else n) _ _ (by simp [hp]) ?_ ?_ ?_ ?_ ?_
        · simp only [go_sem, reduceCtorEq, Nat.reduceEqDiff, Nat.reduceAdd, Nat.reduceSub, Nat.reduceMul, Nat.reduceLeDiff, Int.reduceEq, Int.reduceLT, Int.reduceLE, Int.reduceAdd, Int.reduceMul, Int.reduceSub, Int.reduceNeg, Int.reduceToNat, reduceIte, Nat.reduceLT, h0]
        · simp only [go_sem, reduceCtorEq, Nat.reduceEqDiff, Nat.reduceAdd, Nat.reduceSub, Nat.reduceMul, Nat.reduceLeDiff, Int.reduceEq, Int.reduceLT, Int.reduceLE, Int.reduceAdd, Int.reduceMul, Int.reduceSub, Int.reduceNeg, Int.reduceToNat, reduceIte, Nat.reduceLT]
        · simp only [go_sem, reduceCtorEq, Nat.reduceEqDiff, Nat.reduceAdd, Nat.reduceSub, Nat.reduceMul, Nat.reduceLeDiff, Int.reduceEq, Int.reduceLT, Int.reduceLE, Int.reduceAdd, Int.reduceMul, Int.reduceSub, Int.reduceNeg, Int.reduceToNat, reduceIte, Nat.reduceLT, h1]
        · simp only [go_sem, reduceCtorEq, Nat.reduceEqDiff, Nat.reduceAdd, Nat.reduceSub, Nat.reduceMul, Nat.reduceLeDiff, Int.reduceEq, Int.reduceLT, Int.reduceLE, Int.reduceAdd, Int.reduceMul, Int.reduceSub, Int.reduceNeg, Int.reduceToNat, reduceIte, Nat.reduceLT]
        · rw [← hm]; simp [lastFrom, hd]
      · simp only [go_sem, reduceCtorEq, Nat.reduceEqDiff, Nat.reduceAdd, Nat.reduceSub, Nat.reduceMul, Nat.reduceLeDiff, Int.reduceEq, Int.reduceLT, Int.reduceLE, Int.reduceAdd, Int.reduceMul, Int.reduceSub, Int.reduceNeg, Int.reduceToNat, reduceIte, Nat.reduceLT, h6, h5, hd, hn]
        refine ih (pre ++ [r]) n _ _ (by simp [hp]) ?_ ?_ ?_ ?_ ?_
        · simp only [go_sem, reduceCtorEq, Nat.reduceEqDiff, Nat.reduceAdd, Nat.reduceSub, Nat.reduceMul, Nat.reduceLeDiff, Int.reduceEq, Int.reduceLT, Int.reduceLE, Int.reduceAdd, Int.reduceMul, Int.reduceSub, Int.reduceNeg, Int.reduceToNat, reduceIte, Nat.reduceLT, h0]
        · simp only [go_sem, reduceCtorEq, Nat.reduceEqDiff, Nat.reduceAdd, Nat.reduceSub, Nat.reduceMul, Nat.reduceLeDiff, Int.reduceEq, Int.reduceLT, Int.reduceLE, Int.reduceAdd, Int.reduceMul, Int.reduceSub, Int.reduceNeg, Int.reduceToNat, reduceIte, Nat.reduceLT]
        · simp only [go_sem, reduceCtorEq, Nat.reduceEqDiff, Nat.reduceAdd, Nat.reduceSub, Nat.reduceMul, Nat.reduceLeDiff, Int.reduceEq, Int.reduceLT, Int.reduceLE, Int.reduceAdd, Int.reduceMul, Int.reduceSub, Int.reduceNeg, Int.reduceToNat, reduceIte, Nat.reduceLT, h1]
        · simp only [go_sem, reduceCtorEq, Nat.reduceEqDiff, Nat.reduceAdd, Nat.reduceSub, Nat.reduceMul, Nat.reduceLeDiff, Int.reduceEq, Int.reduceLT, Int.reduceLE, Int.reduceAdd, Int.reduceMul, Int.reduceSub, Int.reduceNeg, Int.reduceToNat, reduceIte, Nat.reduceLT, h5]
        · rw [← hm]; simp [lastFrom, hd]
  refine loop l [] 0 _ _ rfl ?_ ?_ ?_ ?_ hv
  · simp only [go_sem, reduceCtorEq, Nat.reduceEqDiff, Nat.reduceAdd, Nat.reduceSub, Nat.reduceMul, Nat.reduceLeDiff, Int.reduceEq, Int.reduceLT, Int.reduceLE, Int.reduceAdd, Int.reduceMul, Int.reduceSub, Int.reduceNeg, Int.reduceToNat, reduceIte, Nat.reduceLT]
  · simp only [go_sem, reduceCtorEq, Nat.reduceEqDiff, Nat.reduceAdd, Nat.reduceSub, Nat.reduceMul, Nat.reduceLeDiff, Int.reduceEq, Int.reduceLT, Int.reduceLE, Int.reduceAdd, Int.reduceMul, Int.reduceSub, Int.reduceNeg, Int.reduceToNat, reduceIte, Nat.reduceLT]
  · simp only [go_sem, reduceCtorEq, Nat.reduceEqDiff, Nat.reduceAdd, Nat.reduceSub, Nat.reduceMul, Nat.reduceLeDiff, Int.reduceEq, Int.reduceLT, Int.reduceLE, Int.reduceAdd, Int.reduceMul, Int.reduceSub, Int.reduceNeg, Int.reduceToNat, reduceIte, Nat.reduceLT]
  · simp only [go_sem, reduceCtorEq, Nat.reduceEqDiff, Nat.reduceAdd, Nat.reduceSub, Nat.reduceMul, Nat.reduceLeDiff, Int.reduceEq, Int.reduceLT, Int.reduceLE, Int.reduceAdd, Int.reduceMul, Int.reduceSub, Int.reduceNeg, Int.reduceToNat, reduceIte, Nat.reduceLT]

end Go.Proofs.Ytfbkolkkpkonfaa.Eng
