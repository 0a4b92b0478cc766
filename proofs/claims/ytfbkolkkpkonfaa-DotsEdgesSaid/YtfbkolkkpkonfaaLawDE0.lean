/- The law DotsEdges: its call comes to true. -/
import Derived.Test.YtfbkolkkpkonfaaLists
import Derived.Test.YtfbkolkkpkonfaaLitM
namespace Go.Proofs.Ytfbkolkkpkonfaa.Eng
open Go
set_option linter.unusedVariables false
set_option linter.unusedSimpArgs false

theorem dotsL_is {l : List Dot} {s : List Rn} (hs : Norm s) (h : ∀ d, (d ∈ l ∧ (ofDot d).right = true) ↔ hasDot s d = true) : dotsL l = s := by
  obtain ⟨h1, h2⟩ := dotsL_ok l
  refine h1.ext hs fun d => ?_
  rw [h2, Bool.eq_iff_iff, ← h]
  simp

set_option maxHeartbeats 4000000 in
theorem l7_DotsEdges_ok (a b c : Nat) (ha : a < 256) (hb : b < 256) (hc : c < 256) : Pr 4 [.c (.int .u8 (a : Int)), .c (.int .u8 (b : Int)), .c (.int .u8 (c : Int))] (bC true) := by
  refine pure_of mixed is_l7_DotsEdges (by simp [closedAs, closedA, closedC]) fun hl T => ?_
  unfold c_l7_DotsEdges
  have wa : IntKind.wrap .i64 (a : Int) = (a : Int) := wrap64 (by omega)
  have wb : IntKind.wrap .i64 (b : Int) = (b : Int) := wrap64 (by omega)
  have wc : IntKind.wrap .i64 (c : Int) = (c : Int) := wrap64 (by omega)
  have r8 : (c : Int).tmod 8 = ((c % 8 : Nat) : Int) := by rw [Int.tmod_eq_emod_of_nonneg (by omega)]; omega
  have r3 : (b : Int).tmod 3 = ((b % 3 : Nat) : Int) := by rw [Int.tmod_eq_emod_of_nonneg (by omega)]; omega
  have w1 : IntKind.wrap .i64 (1 + (a : Int)) = 1 + (a : Int) := wrap64 (by omega)
  have w2 : IntKind.wrap .i64 (1 + (a : Int) + 2) = 3 + (a : Int) := by rw [wrap64 (by omega)]; omega
  have w3 : IntKind.wrap .i64 (3 + (a : Int) + ((b % 3 : Nat) : Int)) = 3 + (a : Int) + ((b % 3 : Nat) : Int) := wrap64 (by omega)
  have w4 : IntKind.wrap .i64 (1 + (a : Int) + 1) = 2 + (a : Int) := by rw [wrap64 (by omega)]; omega
  -- the numbers
  have hd8 : c % 8 < 8 := Nat.mod_lt _ (by omega)
  have hb3 : b % 3 < 3 := Nat.mod_lt _ (by omega)
  obtain ⟨d, hd⟩ : ∃ d : Int, ((c % 8 : Nat) : Int) = d := ⟨_, rfl⟩
  have hd0 : 0 ≤ d := by omega
  have hd7 : d < 8 := by omega
  obtain ⟨n, hn⟩ : ∃ n : Int, 1 + (a : Int) = n := ⟨_, rfl⟩
  have hn0 : 1 ≤ n := by omega
  have hn9 : n ≤ 256 := by omega
  obtain ⟨m, hm⟩ : ∃ m : Int, n + 2 + ((b % 3 : Nat) : Int) = m := ⟨_, rfl⟩
  have v0 : IntKind.wrap .i64 n = n := wrap64 (by omega)
  have v1 : IntKind.wrap .i64 (n + 2) = n + 2 := wrap64 (by omega)
  have v2 : IntKind.wrap .i64 (n + 2 + ((b % 3 : Nat) : Int)) = m := by rw [wrap64 (by omega), hm]
  have v3 : IntKind.wrap .i64 (n + 1) = n + 1 := wrap64 (by omega)
  have r : ∀ x y z : Int, x = d → 1 ≤ y → y ≤ z → z ≤ 4503599627370496 → (⟨x, y, z⟩ : Rn).Right := fun x y z h1 h2 h3 h4 => ⟨by simp only; omega, by simp only; omega, h2, h3, h4⟩
  have e1 : dotsL [⟨d, n⟩, ⟨d, m⟩] = [⟨d, n, n⟩, ⟨d, m, m⟩] := by
    refine dotsL_is ⟨?_, ?_⟩ fun z => ?_
    · intro x hx
      simp at hx
      rcases hx with rfl | rfl
      · exact r _ _ _ rfl (by omega) (by omega) (by omega)
      · exact r _ _ _ rfl (by omega) (by omega) (by omega)
    · simp [Sep]; omega
    · obtain ⟨x, y⟩ := z
      rw [hasDot_iff, Rn.right_iff]
      simp only [List.mem_cons, List.not_mem_nil, or_false, Dot.mk.injEq]
      constructor
      · rintro ⟨⟨h1, h2⟩ | ⟨h1, h2⟩, _⟩
        · exact ⟨⟨d, n, n⟩, by simp, by simp only; omega, by simp only; omega, by simp only; omega⟩
        · exact ⟨⟨d, m, m⟩, by simp, by simp only; omega, by simp only; omega, by simp only; omega⟩
      · rintro ⟨q, rfl | rfl, h1, h2, h3⟩
        · simp only at h1 h2 h3
          exact ⟨.inl ⟨by omega, by omega⟩, r x y y (by omega) (by omega) (by omega) (by omega)⟩
        · simp only at h1 h2 h3
          exact ⟨.inr ⟨by omega, by omega⟩, r x y y (by omega) (by omega) (by omega) (by omega)⟩
  have e2 : dotsL [⟨d, n + 1⟩] = [⟨d, n + 1, n + 1⟩] := by
    refine dotsL_is ⟨?_, ?_⟩ fun z => ?_
    · intro x hx
      simp at hx
      subst hx
      exact r _ _ _ rfl (by omega) (by omega) (by omega)
    · simp
    · obtain ⟨x, y⟩ := z
      rw [hasDot_iff, Rn.right_iff]
      simp only [List.mem_cons, List.not_mem_nil, or_false, Dot.mk.injEq]
      constructor
      · rintro ⟨⟨h1, h2⟩, _⟩
        exact ⟨⟨d, n + 1, n + 1⟩, by simp, by simp only; omega, by simp only; omega, by simp only; omega⟩
      · rintro ⟨q, rfl, h1, h2, h3⟩
        simp only at h1 h2 h3
        exact ⟨⟨by omega, by omega⟩, r x y y (by omega) (by omega) (by omega) (by omega)⟩
  have e3 : dotsL [⟨d, 4503599627370496⟩, ⟨d, 4503599627370497⟩, ⟨d, 0⟩, ⟨8, 1⟩, ⟨-1, 1⟩] = [⟨d, 4503599627370496, 4503599627370496⟩] := by
    refine dotsL_is ⟨?_, ?_⟩ fun z => ?_
    · intro x hx
      simp at hx
      subst hx
      exact r _ _ _ rfl (by omega) (by omega) (by omega)
    · simp
    · obtain ⟨x, y⟩ := z
      rw [hasDot_iff]
      simp only [List.mem_cons, List.not_mem_nil, or_false, Dot.mk.injEq]
      constructor
      · rintro ⟨h, hr⟩
        have hr := Rn.right_iff.1 hr
        have h1 := hr.d0
        have h2 := hr.d8
        have h3 := hr.f1
        have h4 := hr.tm
        simp only [ofDot] at h1 h2 h3 h4
        exact ⟨⟨d, 4503599627370496, 4503599627370496⟩, rfl, by simp only; omega, by simp only; omega, by simp only; omega⟩
      · rintro ⟨q, rfl, h1, h2, h3⟩
        simp only at h1 h2 h3
        exact ⟨.inl ⟨by omega, by omega⟩, Rn.right_iff.2 (r x y y (by omega) (by omega) (by omega) (by omega))⟩
  have hR1 : ∀ q ∈ ([⟨d, n, n⟩, ⟨d, m, m⟩] : List Rn), q.Right := by rw [← e1]; exact (dotsL_ok _).1.right
  have hR2 : ∀ q ∈ ([⟨d, n + 1, n + 1⟩] : List Rn), q.Right := by rw [← e2]; exact (dotsL_ok _).1.right
  have e4 : unionL [⟨d, n, n⟩, ⟨d, m, m⟩] [⟨d, n + 1, n + 1⟩] = if b % 3 = 0 then [⟨d, n, m⟩] else [⟨d, n, n + 1⟩, ⟨d, m, m⟩] := by
    obtain ⟨h1, h2⟩ := unionL_ok hR1 hR2
    refine h1.ext ⟨?_, ?_⟩ fun z => ?_
    · intro x hx
      split at hx <;> simp at hx
      · subst hx
        exact r _ _ _ rfl (by omega) (by omega) (by omega)
      · rcases hx with rfl | rfl
        · exact r _ _ _ rfl (by omega) (by omega) (by omega)
        · exact r _ _ _ rfl (by omega) (by omega) (by omega)
    · split
      · simp
      · simp [Sep]; omega
    · obtain ⟨x, y⟩ := z
      rw [h2, Bool.eq_iff_iff, Bool.or_eq_true, hasDot_iff, hasDot_iff, hasDot_iff]
      by_cases h0 : b % 3 = 0
      · simp [h0]
        omega
      · simp [h0]
        omega
  simp only [go_sem, reduceCtorEq, Nat.reduceEqDiff, Nat.reduceAdd, Nat.reduceSub, Nat.reduceMul, Nat.reduceLeDiff, Int.reduceEq, Int.reduceLT, Int.reduceLE, Int.reduceAdd, Int.reduceMul, Int.reduceSub, Int.reduceNeg, Int.reduceToNat, reduceIte, Nat.reduceLT, wa, wb, wc, vBin_rem, r8, hd, hn, v0, v1, r3, v2]
  refine callW_pure (dots_Of_is [⟨d, n⟩, ⟨d, m⟩] (by unfold Sm; simp)) ?_
  rw [e1]
  simp only [go_sem, reduceCtorEq, Nat.reduceEqDiff, Nat.reduceAdd, Nat.reduceSub, Nat.reduceMul, Nat.reduceLeDiff, Int.reduceEq, Int.reduceLT, Int.reduceLE, Int.reduceAdd, Int.reduceMul, Int.reduceSub, Int.reduceNeg, Int.reduceToNat, reduceIte, Nat.reduceLT, v3]
  refine callW_pure (dots_Of_is [⟨d, n + 1⟩] (by unfold Sm; simp)) ?_
  rw [e2]
  simp only [go_sem, reduceCtorEq, Nat.reduceEqDiff, Nat.reduceAdd, Nat.reduceSub, Nat.reduceMul, Nat.reduceLeDiff, Int.reduceEq, Int.reduceLT, Int.reduceLE, Int.reduceAdd, Int.reduceMul, Int.reduceSub, Int.reduceNeg, Int.reduceToNat, reduceIte, Nat.reduceLT]
  refine callW_pure (dots_Union_is [⟨d, n, n⟩, ⟨d, m, m⟩] [⟨d, n + 1, n + 1⟩] (by simp) hR1 hR2) ?_
  rw [e4]
  have hclosed : closedR [[.int .i64 d, .int .i64 4503599627370496], [.int .i64 d, .int .i64 4503599627370497], [.int .i64 d, .int .i64 0], [.int .i64 8, .int .i64 1], [.int .i64 (-1), .int .i64 1]] = true := rfl
  simp only [go_sem, reduceCtorEq, Nat.reduceEqDiff, Nat.reduceAdd, Nat.reduceSub, Nat.reduceMul, Nat.reduceLeDiff, Int.reduceEq, Int.reduceLT, Int.reduceLE, Int.reduceAdd, Int.reduceMul, Int.reduceSub, Int.reduceNeg, Int.reduceToNat, reduceIte, Nat.reduceLT]
  rw [mkF_lit (n := 5) rfl hclosed (by omega)]
  simp only [go_sem, reduceCtorEq, Nat.reduceEqDiff, Nat.reduceAdd, Nat.reduceSub, Nat.reduceMul, Nat.reduceLeDiff, Int.reduceEq, Int.reduceLT, Int.reduceLE, Int.reduceAdd, Int.reduceMul, Int.reduceSub, Int.reduceNeg, Int.reduceToNat, reduceIte, Nat.reduceLT]
  refine callW_pure (dots_Of_is [⟨d, 4503599627370496⟩, ⟨d, 4503599627370497⟩, ⟨d, 0⟩, ⟨8, 1⟩, ⟨-1, 1⟩] (by unfold Sm; simp)) ?_
  rw [e3]
  have hz : ((b : Int).tmod 3 = 0) = (b % 3 = 0) := by rw [r3]; simp; omega
  have c1 : ((1 : Nat) : Int) = 1 := rfl
  have c2 : ((2 : Nat) : Int) = 2 := rfl
  have ix1 : ∀ (x : List Cell) (H : Heap), vIx 3 (.c (.lst 3 [x])) (iC 0) H = some (.c (.fp x 0), H) := fun _ _ => rfl
  have ix2 : ∀ (x y : List Cell) (H : Heap), vIx 3 (.c (.lst 3 [x, y])) (iC 0) H = some (.c (.fp x 0), H) := fun _ _ _ => rfl
  have l3 : lastL [⟨d, 4503599627370496, 4503599627370496⟩] d = 4503599627370496 := by simp [lastL, lastFrom]
  have v4 : IntKind.wrap .i64 (d + 1) = d + 1 := wrap64 (by omega)
  have l4 : lastL [⟨d, 4503599627370496, 4503599627370496⟩] ((d + 1).tmod 8) = 0 := by
    have : d ≠ (d + 1).tmod 8 := by rw [Int.tmod_eq_emod_of_nonneg (by omega)]; omega
    simp [lastL, lastFrom, this]
  by_cases h0 : b % 3 = 0
  · have l1 : lastL [⟨d, n, m⟩] d = m := by simp [lastL, lastFrom]; omega
    simp only [go_sem, reduceCtorEq, Nat.reduceEqDiff, Nat.reduceAdd, Nat.reduceSub, Nat.reduceMul, Nat.reduceLeDiff, Int.reduceEq, Int.reduceLT, Int.reduceLE, Int.reduceAdd, Int.reduceMul, Int.reduceSub, Int.reduceNeg, Int.reduceToNat, reduceIte, Nat.reduceLT, vBin_rem, hz, h0, c1, c2, ix1]
    refine callW_pure (dots_Last_ok [⟨d, n, m⟩] d) ?_
    rw [l1]
    simp only [go_sem, reduceCtorEq, Nat.reduceEqDiff, Nat.reduceAdd, Nat.reduceSub, Nat.reduceMul, Nat.reduceLeDiff, Int.reduceEq, Int.reduceLT, Int.reduceLE, Int.reduceAdd, Int.reduceMul, Int.reduceSub, Int.reduceNeg, Int.reduceToNat, reduceIte, Nat.reduceLT, c1]
    refine callW_pure (dots_Last_ok [⟨d, 4503599627370496, 4503599627370496⟩] d) ?_
    rw [l3]
    simp only [go_sem, reduceCtorEq, Nat.reduceEqDiff, Nat.reduceAdd, Nat.reduceSub, Nat.reduceMul, Nat.reduceLeDiff, Int.reduceEq, Int.reduceLT, Int.reduceLE, Int.reduceAdd, Int.reduceMul, Int.reduceSub, Int.reduceNeg, Int.reduceToNat, reduceIte, Nat.reduceLT, v4, vBin_rem]
    refine callW_pure (dots_Last_ok [⟨d, 4503599627370496, 4503599627370496⟩] ((d + 1).tmod 8)) ?_
    rw [l4]
    simp only [go_sem, reduceCtorEq, Nat.reduceEqDiff, Nat.reduceAdd, Nat.reduceSub, Nat.reduceMul, Nat.reduceLeDiff, Int.reduceEq, Int.reduceLT, Int.reduceLE, Int.reduceAdd, Int.reduceMul, Int.reduceSub, Int.reduceNeg, Int.reduceToNat, reduceIte, Nat.reduceLT]
    refine callW_pure l7_awake_ok ?_
    simp only [go_sem, reduceCtorEq, Nat.reduceEqDiff, Nat.reduceAdd, Nat.reduceSub, Nat.reduceMul, Nat.reduceLeDiff, Int.reduceEq, Int.reduceLT, Int.reduceLE, Int.reduceAdd, Int.reduceMul, Int.reduceSub, Int.reduceNeg, Int.reduceToNat, reduceIte, Nat.reduceLT]
    rfl
  · have l1 : lastL [⟨d, n, n + 1⟩, ⟨d, m, m⟩] d = m := by simp [lastL, lastFrom]; omega
    simp only [go_sem, reduceCtorEq, Nat.reduceEqDiff, Nat.reduceAdd, Nat.reduceSub, Nat.reduceMul, Nat.reduceLeDiff, Int.reduceEq, Int.reduceLT, Int.reduceLE, Int.reduceAdd, Int.reduceMul, Int.reduceSub, Int.reduceNeg, Int.reduceToNat, reduceIte, Nat.reduceLT, vBin_rem, hz, h0, c1, c2, ix2]
    refine callW_pure (dots_Last_ok [⟨d, n, n + 1⟩, ⟨d, m, m⟩] d) ?_
    rw [l1]
    simp only [go_sem, reduceCtorEq, Nat.reduceEqDiff, Nat.reduceAdd, Nat.reduceSub, Nat.reduceMul, Nat.reduceLeDiff, Int.reduceEq, Int.reduceLT, Int.reduceLE, Int.reduceAdd, Int.reduceMul, Int.reduceSub, Int.reduceNeg, Int.reduceToNat, reduceIte, Nat.reduceLT, c1]
    refine callW_pure (dots_Last_ok [⟨d, 4503599627370496, 4503599627370496⟩] d) ?_
    rw [l3]
    simp only [go_sem, reduceCtorEq, Nat.reduceEqDiff, Nat.reduceAdd, Nat.reduceSub, Nat.reduceMul, Nat.reduceLeDiff, Int.reduceEq, Int.reduceLT, Int.reduceLE, Int.reduceAdd, Int.reduceMul, Int.reduceSub, Int.reduceNeg, Int.reduceToNat, reduceIte, Nat.reduceLT, v4, vBin_rem]
    refine callW_pure (dots_Last_ok [⟨d, 4503599627370496, 4503599627370496⟩] ((d + 1).tmod 8)) ?_
    rw [l4]
    simp only [go_sem, reduceCtorEq, Nat.reduceEqDiff, Nat.reduceAdd, Nat.reduceSub, Nat.reduceMul, Nat.reduceLeDiff, Int.reduceEq, Int.reduceLT, Int.reduceLE, Int.reduceAdd, Int.reduceMul, Int.reduceSub, Int.reduceNeg, Int.reduceToNat, reduceIte, Nat.reduceLT]
    refine callW_pure l7_awake_ok ?_
    simp only [go_sem, reduceCtorEq, Nat.reduceEqDiff, Nat.reduceAdd, Nat.reduceSub, Nat.reduceMul, Nat.reduceLeDiff, Int.reduceEq, Int.reduceLT, Int.reduceLE, Int.reduceAdd, Int.reduceMul, Int.reduceSub, Int.reduceNeg, Int.reduceToNat, reduceIte, Nat.reduceLT]
    rfl

theorem l7_DotsEdges_law (a : Int) (ha : IntKind.min .u8 ≤ a ∧ a ≤ IntKind.max .u8) (b : Int) (hb : IntKind.min .u8 ≤ b ∧ b ≤ IntKind.max .u8) (c : Int) (hc : IntKind.min .u8 ≤ c ∧ c ≤ IntKind.max .u8) :
    Pr 4 [.c (.int .u8 a), .c (.int .u8 b), .c (.int .u8 c)] (bC true) := by
  have a1 : 0 ≤ a := ha.1
  have a2 : a ≤ 255 := ha.2
  have b1 : 0 ≤ b := hb.1
  have b2 : b ≤ 255 := hb.2
  have c1 : 0 ≤ c := hc.1
  have c2 : c ≤ 255 := hc.2
  have := l7_DotsEdges_ok a.toNat b.toNat c.toNat (by omega) (by omega) (by omega)
  rwa [Int.toNat_of_nonneg a1, Int.toNat_of_nonneg b1, Int.toNat_of_nonneg c1] at this

end Go.Proofs.Ytfbkolkkpkonfaa.Eng
