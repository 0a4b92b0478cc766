/- The document's Unpad: the same as the program's. No statement of the seat is proved here. -/
import Derived.Test.YtjjmeoeaimfiiaaDoorZRefQ
import Derived.Test.YtjjmeoeaimfiiaaDoorZLitV
namespace Go.Proofs.YtjjmeoeaimfiiaaDoor.Eng
open Go
set_option linter.unusedVariables false
set_option linter.unusedSimpArgs false

def padR (s : ByteArray) : ByteArray × Bool := if bucketI s.size = 0 then (⟨#[]⟩, false) else (padS s, true)

theorem r1_Pad_all (s : ByteArray) : Pr 7 [sC s] (.agg [.str (padR s).1, .bool (padR s).2]) := by
  unfold padR
  by_cases h : bucketI s.size = 0
  · rw [if_pos h]; exact r1_Pad_no s h
  · rw [if_neg h]; exact r1_Pad_ok s h
theorem pad_Pad_all (s : ByteArray) : Pr 9 [sC s] (.tup [sC (padR s).1, bC (padR s).2]) := by
  unfold padR
  by_cases h : bucketI s.size = 0
  · rw [if_pos h]; exact pad_Pad_no s h
  · rw [if_neg h]; exact pad_Pad_ok s h

theorem mk_size (l : List UInt8) : (⟨l.toArray⟩ : ByteArray).size = l.length := by
  show l.toArray.size = _
  simp
theorem mk_inj {a b : List UInt8} (h : (⟨a.toArray⟩ : ByteArray) = ⟨b.toArray⟩) : a = b := by
  have := congrArg (fun s : ByteArray => s.data.toList) h
  simpa using this

theorem unpad_none : unpadS ⟨#[]⟩ = (⟨#[]⟩, false) := rfl

theorem unpad_zeros (n : Nat) : unpadS ⟨(List.replicate n (0 : UInt8)).toArray⟩ = (⟨#[]⟩, false) := by
  have h : trimS ⟨(List.replicate n (0 : UInt8)).toArray⟩ = ⟨#[]⟩ := by
    unfold trimS Lib.trimRightB
    simp
  unfold unpadS
  rw [h, if_neg]
  intro h'
  exact absurd h'.1 (by decide)

theorem unpad_dec (X : List UInt8) (c : UInt8) (r : Nat) (hc : c ≠ 0) :
    unpadS ⟨(X ++ c :: List.replicate r 0).toArray⟩ = if (padR ⟨X.toArray⟩).1 = ⟨(X ++ c :: List.replicate r 0).toArray⟩ then (⟨X.toArray⟩, true) else (⟨#[]⟩, false) := by
  have htrim : trimS ⟨(X ++ c :: List.replicate r 0).toArray⟩ = ⟨(X ++ [c]).toArray⟩ := by
    unfold trimS Lib.trimRightB
    have h2 : (X ++ c :: List.replicate r (0 : UInt8)).reverse = List.replicate r 0 ++ (c :: X.reverse) := by simp
    have h3 : ∀ r, (List.replicate r (0 : UInt8) ++ (c :: X.reverse)).dropWhile (· == 0) = c :: X.reverse := fun r => by
      induction r with
      | zero => simp [List.dropWhile_cons, hc]
      | succ r ih => simp [List.replicate_succ, ih]
    simp only [h2, h3]
    simp
  have hend : endsS ⟨(X ++ [c]).toArray⟩ ⟨#[128]⟩ = decide (c = 128) := by
    unfold endsS Lib.hasSuffix
    by_cases h : c = 128
    · subst h; simp
    · simp [List.isSuffixOf, List.isPrefixOf, h]
      exact fun h' => h h'.symm
  have hs := mk_size (X ++ c :: List.replicate r 0)
  have hx := mk_size X
  simp only [List.length_append, List.length_cons, List.length_replicate] at hs
  have hpl : (bucketI (⟨X.toArray⟩ : ByteArray).size ≠ 0) → padS ⟨X.toArray⟩ = ⟨(X ++ 128 :: List.replicate ((bucketI (⟨X.toArray⟩ : ByteArray).size).toNat - X.length - 1) 0).toArray⟩ := fun _ => by
    have := of_list (padS_list ⟨X.toArray⟩)
    rw [this, hx]
  by_cases h : c = 128
  · subst h
    have hcut : cutS ⟨(X ++ [128]).toArray⟩ ⟨#[128]⟩ = ⟨X.toArray⟩ := by
      unfold cutS Lib.trimSuffix Lib.hasSuffix
      simp
    unfold unpadS
    rw [htrim, hend, hcut]
    unfold padR
    by_cases hb : bucketI (⟨X.toArray⟩ : ByteArray).size = 0
    · rw [if_pos hb, if_neg (by rw [hb, hs]; omega), if_neg]
      intro h'
      have := congrArg ByteArray.size h'
      rw [hs] at this
      have h0 : ((⟨#[]⟩ : ByteArray), false).1.size = 0 := rfl
      omega
    · rw [if_neg hb]
      simp only
      obtain ⟨b1, b2, b3⟩ := (bucketI_cases (⟨X.toArray⟩ : ByteArray).size).resolve_left hb
      by_cases he : bucketI (⟨X.toArray⟩ : ByteArray).size = (⟨(X ++ 128 :: List.replicate r 0).toArray⟩ : ByteArray).size
      · rw [if_pos ⟨by decide, he⟩, if_pos]
        have hcount : (bucketI (⟨X.toArray⟩ : ByteArray).size).toNat - X.length - 1 = r := by
          rw [hs] at he
          generalize bucketI (⟨X.toArray⟩ : ByteArray).size = B at *
          omega
        rw [hpl hb, hcount]
      · rw [if_neg (fun h' => he h'.2), if_neg]
        intro h'
        apply he
        have := padS_size hb
        rw [h'] at this
        exact this.symm
  · unfold unpadS
    rw [htrim, hend, if_neg (by simp [h]), if_neg]
    unfold padR
    by_cases hb : bucketI (⟨X.toArray⟩ : ByteArray).size = 0
    · rw [if_pos hb]
      intro h'
      have := congrArg ByteArray.size h'
      rw [hs] at this
      have h0 : ((⟨#[]⟩ : ByteArray), false).1.size = 0 := rfl
      omega
    · rw [if_neg hb]
      simp only
      rw [hpl hb]
      intro h'
      have := List.append_cancel_left (mk_inj h')
      injection this with h1 h2
      exact h h1.symm

/-- A text whose last byte that is no nought stands at a place. -/
theorem dec_of {s : ByteArray} {k : Nat} (hk : k < s.size) (hz : ∀ j (h : j < s.size), k < j → s[j] = 0) : s.data.toList = s.data.toList.take k ++ s[k] :: List.replicate (s.size - k - 1) 0 := by
  have hl := size_list s
  have h1 : s.data.toList.drop (k + 1) = List.replicate (s.size - k - 1) 0 := by
    rw [List.eq_replicate_iff]
    refine ⟨by rw [List.length_drop]; omega, fun b hb => ?_⟩
    obtain ⟨j, hj, rfl⟩ := List.getElem_of_mem hb
    rw [List.getElem_drop]
    have hj' : k + 1 + j < s.size := by rw [List.length_drop] at hj; omega
    have := hz (k + 1 + j) hj' (by omega)
    rw [Array.getElem_toList]
    exact this
  have h2 : s.data.toList.drop k = s[k] :: s.data.toList.drop (k + 1) := by
    rw [List.drop_eq_getElem_cons (by omega)]
    congr 1
  rw [← h1, ← h2, List.take_append_drop]

theorem unpad_ref (s : ByteArray) (k : Nat) (hk : k < s.size) (hz : ∀ j (h : j < s.size), k < j → s[j] = 0) (hc : s[k] ≠ 0) : unpadS s = if (padR (s.extract 0 k)).1 = s then (s.extract 0 k, true) else (⟨#[]⟩, false) := by
  have hx : s.extract 0 k = ⟨(s.data.toList.take k).toArray⟩ := by
    apply ByteArray.ext
    apply Array.ext'
    simp [ByteArray.data_extract]
  have h := unpad_dec (s.data.toList.take k) s[k] (s.size - k - 1) hc
  rw [← dec_of hk hz] at h
  have hss : (⟨s.data.toList.toArray⟩ : ByteArray) = s := (of_list rfl).symm
  rw [hss] at h
  rw [hx]
  exact h

theorem unpad_all0 (s : ByteArray) (hz : ∀ j (h : j < s.size), s[j] = 0) : unpadS s = (⟨#[]⟩, false) := by
  have h1 : s.data.toList = List.replicate s.size 0 := by
    rw [List.eq_replicate_iff]
    refine ⟨size_list s, fun b hb => ?_⟩
    obtain ⟨j, hj, rfl⟩ := List.getElem_of_mem hb
    rw [size_list] at hj
    have := hz j hj
    rw [Array.getElem_toList]
    exact this
  rw [of_list h1]
  exact unpad_zeros _

theorem r1_Unpad_ok (s : ByteArray) (hs : s.size ≤ 9223372036854775807) : Pr 10 [sC s] (.agg [.str (unpadS s).1, .bool (unpadS s).2]) := by
  refine pure_of mixed is_r1_Unpad rfl fun hl T => ?_
  unfold c_r1_Unpad
  have loop : ∀ (k : Nat), k ≤ s.size → (∀ j (h : j < s.size), k ≤ j → s[j] = 0) → ∀ e : Env, e 0 = sC s → e 2 = .c (.ptr 0 0 0) → e 3 = iC k →
      Run (progT Tryd.prog T) ⟨[.cell 2 true 2], fun u E => viewA E u = some (.agg [.str (unpadS s).1, .bool (unpadS s).2])⟩ [.loop r1_Unpad_L0, .blk 0, .code r1_Unpad_K1] e [{ sz := 2, rows := [[.str ⟨#[]⟩, .bool false]] }] := by
    intro k
    induction k with
    | zero =>
      intro hk hz e h0 h2 h3
      have hu := unpad_all0 s fun j h => hz j h (Nat.zero_le _)
      refine run_again ?_
      conv => enter [3, 1]; unfold r1_Unpad_L0
      have c0 : ((0 : Nat) : Int) = 0 := rfl
      have g0 : ¬ ((0 : Int) > 0) := by omega
      simp only [go_sem, reduceCtorEq, Nat.reduceEqDiff, Nat.reduceAdd, Nat.reduceSub, Nat.reduceMul, Nat.reduceLeDiff, Int.reduceEq, Int.reduceLT, Int.reduceLE, Int.reduceAdd, Int.reduceMul, Int.reduceSub, Int.reduceNeg, Int.reduceToNat, reduceIte, Nat.reduceLT, h0, h2, h3, c0, g0]
      unfold r1_Unpad_K1
      simp only [go_sem, reduceCtorEq, Nat.reduceEqDiff, Nat.reduceAdd, Nat.reduceSub, Nat.reduceMul, Nat.reduceLeDiff, Int.reduceEq, Int.reduceLT, Int.reduceLE, Int.reduceAdd, Int.reduceMul, Int.reduceSub, Int.reduceNeg, Int.reduceToNat, reduceIte, Nat.reduceLT, h0, h2, h3, c0]
      simp [viewA, viewFn, viewC, viewFs, viewCs, viewAs, closedC, closedCs, hu]
    | succ k ih =>
      intro hk hz e h0 h2 h3
      have hkk : k < s.size := by omega
      have g0 : ((k + 1 : Nat) : Int) > 0 := by omega
      have hw : IntKind.wrap .i64 (((k + 1 : Nat) : Int) - 1) = (k : Int) := by rw [wrap64 (by omega)]; omega
      have hix : ∀ H : Heap, vIxS (sC s) (iC k) H = some (.c (.int .u8 (s[k].toNat : Int)), H) := fun H => by
        have : (0 : Int) ≤ (k : Int) ∧ (k : Int).toNat < s.size := ⟨by omega, by omega⟩
        simp only [vIxS]
        rw [dif_pos this]
        simp
      refine run_again ?_
      conv => enter [3, 1]; unfold r1_Unpad_L0
      by_cases hb : (s[k].toNat : Int) = 0
      · have hb0 : s[k] = 0 := by
          apply UInt8.toNat_inj.1
          simpa using hb
        simp only [go_sem, reduceCtorEq, Nat.reduceEqDiff, Nat.reduceAdd, Nat.reduceSub, Nat.reduceMul, Nat.reduceLeDiff, Int.reduceEq, Int.reduceLT, Int.reduceLE, Int.reduceAdd, Int.reduceMul, Int.reduceSub, Int.reduceNeg, Int.reduceToNat, reduceIte, Nat.reduceLT, h0, h2, h3, g0, hw, hix, hb]
        refine ih (by omega) (fun j h hj => ?_) _ (by simp only [go_sem, reduceCtorEq, Nat.reduceEqDiff, Nat.reduceAdd, Nat.reduceSub, Nat.reduceMul, Nat.reduceLeDiff, Int.reduceEq, Int.reduceLT, Int.reduceLE, Int.reduceAdd, Int.reduceMul, Int.reduceSub, Int.reduceNeg, Int.reduceToNat, reduceIte, Nat.reduceLT, h0]) (by simp only [go_sem, reduceCtorEq, Nat.reduceEqDiff, Nat.reduceAdd, Nat.reduceSub, Nat.reduceMul, Nat.reduceLeDiff, Int.reduceEq, Int.reduceLT, Int.reduceLE, Int.reduceAdd, Int.reduceMul, Int.reduceSub, Int.reduceNeg, Int.reduceToNat, reduceIte, Nat.reduceLT, h2]) (by simp only [go_sem, reduceCtorEq, Nat.reduceEqDiff, Nat.reduceAdd, Nat.reduceSub, Nat.reduceMul, Nat.reduceLeDiff, Int.reduceEq, Int.reduceLT, Int.reduceLE, Int.reduceAdd, Int.reduceMul, Int.reduceSub, Int.reduceNeg, Int.reduceToNat, reduceIte, Nat.reduceLT])
        rcases Nat.lt_or_ge k j with h' | h'
        · exact hz j h (by omega)
        · obtain rfl : j = k := by omega
          exact hb0
      · have hb0 : s[k] ≠ 0 := fun h => hb (by rw [h]; rfl)
        have hu := unpad_ref s k hkk (fun j h hj => hz j h (by omega)) hb0
        have gn : ¬ (((k + 1 : Nat) : Int) = 0) := by omega
        have hsl : ∀ (e : Env) (t : Nat) (H : Heap), e t = iC k → vSlS (sC s) e none (some (.t t)) H = some (sC (s.extract 0 k), H) := fun e t H h => by
          have h1 : k ≤ s.size := by omega
          simp [vSlS, evSlS, boundO, bound, Opd.ev, h, h1]
        simp only [go_sem, reduceCtorEq, Nat.reduceEqDiff, Nat.reduceAdd, Nat.reduceSub, Nat.reduceMul, Nat.reduceLeDiff, Int.reduceEq, Int.reduceLT, Int.reduceLE, Int.reduceAdd, Int.reduceMul, Int.reduceSub, Int.reduceNeg, Int.reduceToNat, reduceIte, Nat.reduceLT, h0, h2, h3, g0, hw, hix, hb]
        unfold r1_Unpad_K1
        simp only [go_sem, reduceCtorEq, Nat.reduceEqDiff, Nat.reduceAdd, Nat.reduceSub, Nat.reduceMul, Nat.reduceLeDiff, Int.reduceEq, Int.reduceLT, Int.reduceLE, Int.reduceAdd, Int.reduceMul, Int.reduceSub, Int.reduceNeg, Int.reduceToNat, reduceIte, Nat.reduceLT, h0, h2, h3, gn, hw, hsl]
        refine callW_pure (r1_Pad_all _) ?_
        by_cases hp : (padR (s.extract 0 k)).1 = s
        · rw [if_pos hp] at hu
          simp only [go_sem, reduceCtorEq, Nat.reduceEqDiff, Nat.reduceAdd, Nat.reduceSub, Nat.reduceMul, Nat.reduceLeDiff, Int.reduceEq, Int.reduceLT, Int.reduceLE, Int.reduceAdd, Int.reduceMul, Int.reduceSub, Int.reduceNeg, Int.reduceToNat, reduceIte, Nat.reduceLT, h0, h2, h3, gn, hw, hsl, hp]
          simp [viewA, viewFn, viewC, viewFs, viewCs, viewAs, closedC, closedCs, hu]
        · rw [if_neg hp] at hu
          simp only [go_sem, reduceCtorEq, Nat.reduceEqDiff, Nat.reduceAdd, Nat.reduceSub, Nat.reduceMul, Nat.reduceLeDiff, Int.reduceEq, Int.reduceLT, Int.reduceLE, Int.reduceAdd, Int.reduceMul, Int.reduceSub, Int.reduceNeg, Int.reduceToNat, reduceIte, Nat.reduceLT, h0, h2, h3, gn, hw, hsl, hp]
          simp [viewA, viewFn, viewC, viewFs, viewCs, viewAs, closedC, closedCs, hu]
  simp only [go_sem, reduceCtorEq, Nat.reduceEqDiff, Nat.reduceAdd, Nat.reduceSub, Nat.reduceMul, Nat.reduceLeDiff, Int.reduceEq, Int.reduceLT, Int.reduceLE, Int.reduceAdd, Int.reduceMul, Int.reduceSub, Int.reduceNeg, Int.reduceToNat, reduceIte, Nat.reduceLT]
  exact loop s.size (Nat.le_refl _) (fun j h hj => by omega) _ (by simp only [go_sem, reduceCtorEq, Nat.reduceEqDiff, Nat.reduceAdd, Nat.reduceSub, Nat.reduceMul, Nat.reduceLeDiff, Int.reduceEq, Int.reduceLT, Int.reduceLE, Int.reduceAdd, Int.reduceMul, Int.reduceSub, Int.reduceNeg, Int.reduceToNat, reduceIte, Nat.reduceLT]) (by simp only [go_sem, reduceCtorEq, Nat.reduceEqDiff, Nat.reduceAdd, Nat.reduceSub, Nat.reduceMul, Nat.reduceLeDiff, Int.reduceEq, Int.reduceLT, Int.reduceLE, Int.reduceAdd, Int.reduceMul, Int.reduceSub, Int.reduceNeg, Int.reduceToNat, reduceIte, Nat.reduceLT]) (by simp only [go_sem, reduceCtorEq, Nat.reduceEqDiff, Nat.reduceAdd, Nat.reduceSub, Nat.reduceMul, Nat.reduceLeDiff, Int.reduceEq, Int.reduceLT, Int.reduceLE, Int.reduceAdd, Int.reduceMul, Int.reduceSub, Int.reduceNeg, Int.reduceToNat, reduceIte, Nat.reduceLT])

end Go.Proofs.YtjjmeoeaimfiiaaDoor.Eng
