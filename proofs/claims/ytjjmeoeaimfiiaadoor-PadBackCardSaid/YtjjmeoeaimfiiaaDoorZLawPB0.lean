/- The law PadBack: its call comes to true. -/
import Derived.Test.YtjjmeoeaimfiiaaDoorZUnpR
namespace Go.Proofs.YtjjmeoeaimfiiaaDoor.Eng
open Go
set_option linter.unusedVariables false
set_option linter.unusedSimpArgs false

theorem bucketI_vals (n : Int) : bucketI n = 0 ∨ bucketI n = 64 ∨ bucketI n = 256 ∨ bucketI n = 1024 ∨ bucketI n = 4096 ∨ bucketI n = 16384 := by
  unfold bucketI
  repeat' split
  all_goals omega

theorem bucketI_ne {n : Int} (h0 : 0 ≤ n) (h : n < 16384) : bucketI n ≠ 0 := by
  unfold bucketI
  repeat' split
  all_goals omega

theorem back_fin {T : Nat → Option AFun} (t o : ByteArray) (ht : t.size ≤ 800) (ho : o.size ≤ 800) (e : Env) (H : Heap) (h9 : e 9 = sC t) (h3 : e 3 = sC o) :
    Run (progT Tryd.prog T) ⟨[.tmp 8], fun u E => viewA E u = some (bC true)⟩ [.code l5_PadBack_K2] e H := by
  have bt : bucketI t.size ≠ 0 := bucketI_ne (by omega) (by omega)
  have bo : bucketI o.size ≠ 0 := bucketI_ne (by omega) (by omega)
  have p1 := pad_Pad_ok t bt
  have p2 := pad_Pad_ok o bo
  have z1 := padS_size bt
  have z2 := padS_size bo
  have u1 := unpad_pad t bt
  have v := bucketI_vals t.size
  have vo := bucketI_vals o.size
  have b1 := pad_Bucket_ok t.size
  have b2 := pad_Bucket_ok o.size
  generalize padS t = p at *
  generalize padS o = q at *
  generalize bucketI t.size = N at *
  generalize bucketI o.size = M at *
  obtain ⟨n, hn⟩ : ∃ n : Nat, N = n := ⟨N.toNat, by omega⟩
  have pn : p.size = n := by omega
  have r1 := pad_Unpad_ok p (by omega)
  rw [u1] at r1
  have hw : IntKind.wrap .i64 ((n : Int) - 1) = ((n - 1 : Nat) : Int) := by rw [wrap64 (by omega)]; omega
  have hmx : (if ((n - 1 : Nat) : Int) > 0 then ((n - 1 : Nat) : Int) else 0) = ((n - 1 : Nat) : Int) := by rw [if_pos (by omega)]
  have hsl : ∀ (e : Env) (H : Heap), e 74 = iC ((n - 1 : Nat) : Int) → vSlS (sC p) e none (some (.t 74)) H = some (sC (p.extract 0 (n - 1)), H) := fun e H h => by
    have h1 : (n - 1 : Nat) ≤ p.size := by omega
    simp [vSlS, evSlS, boundO, bound, Opd.ev, h, h1]
  have xs : (p.extract 0 (n - 1)).size = n - 1 := by simp [ByteArray.size_extract]; omega
  have r2 := pad_Unpad_ok (p.extract 0 (n - 1)) (by omega)
  rw [unpad_no _ (fun k => by have := bucketI_vals k; rw [xs]; omega)] at r2
  have hcat : ∀ H : Heap, vBin .add (sC p) (.c (.str ⟨#[0]⟩)) H = some (sC (p ++ ⟨#[0]⟩), H) := fun H => vBin_cat (by show p.size + 1 ≤ _; omega)
  have ys : (p ++ ⟨#[0]⟩ : ByteArray).size = n + 1 := by rw [ByteArray.size_append, pn]; rfl
  have r3 := pad_Unpad_ok (p ++ ⟨#[0]⟩) (by omega)
  rw [unpad_no _ (fun k => by have := bucketI_vals k; rw [ys]; omega)] at r3
  generalize p ++ ⟨#[0]⟩ = y at *
  generalize p.extract 0 (n - 1) = x at *
  unfold l5_PadBack_K2
  simp only [go_sem, reduceCtorEq, Nat.reduceEqDiff, Nat.reduceAdd, Nat.reduceSub, Nat.reduceMul, Nat.reduceLeDiff, Int.reduceEq, Int.reduceLT, Int.reduceLE, Int.reduceAdd, Int.reduceMul, Int.reduceSub, Int.reduceNeg, Int.reduceToNat, reduceIte, Nat.reduceLT, h9]
  refine callW_pure p1 ?_
  simp only [go_sem, reduceCtorEq, Nat.reduceEqDiff, Nat.reduceAdd, Nat.reduceSub, Nat.reduceMul, Nat.reduceLeDiff, Int.reduceEq, Int.reduceLT, Int.reduceLE, Int.reduceAdd, Int.reduceMul, Int.reduceSub, Int.reduceNeg, Int.reduceToNat, reduceIte, Nat.reduceLT, h3]
  refine callW_pure p2 ?_
  simp only [go_sem, reduceCtorEq, Nat.reduceEqDiff, Nat.reduceAdd, Nat.reduceSub, Nat.reduceMul, Nat.reduceLeDiff, Int.reduceEq, Int.reduceLT, Int.reduceLE, Int.reduceAdd, Int.reduceMul, Int.reduceSub, Int.reduceNeg, Int.reduceToNat, reduceIte, Nat.reduceLT]
  refine callW_pure r1 ?_
  simp only [go_sem, reduceCtorEq, Nat.reduceEqDiff, Nat.reduceAdd, Nat.reduceSub, Nat.reduceMul, Nat.reduceLeDiff, Int.reduceEq, Int.reduceLT, Int.reduceLE, Int.reduceAdd, Int.reduceMul, Int.reduceSub, Int.reduceNeg, Int.reduceToNat, reduceIte, Nat.reduceLT, pn, hw, hmx, hsl]
  refine callW_pure r2 ?_
  simp only [go_sem, reduceCtorEq, Nat.reduceEqDiff, Nat.reduceAdd, Nat.reduceSub, Nat.reduceMul, Nat.reduceLeDiff, Int.reduceEq, Int.reduceLT, Int.reduceLE, Int.reduceAdd, Int.reduceMul, Int.reduceSub, Int.reduceNeg, Int.reduceToNat, reduceIte, Nat.reduceLT, hcat]
  refine callW_pure r3 ?_
  simp only [go_sem, reduceCtorEq, Nat.reduceEqDiff, Nat.reduceAdd, Nat.reduceSub, Nat.reduceMul, Nat.reduceLeDiff, Int.reduceEq, Int.reduceLT, Int.reduceLE, Int.reduceAdd, Int.reduceMul, Int.reduceSub, Int.reduceNeg, Int.reduceToNat, reduceIte, Nat.reduceLT, h9, h3, z1, z2]
  refine callW_pure b1 ?_
  simp only [go_sem, reduceCtorEq, Nat.reduceEqDiff, Nat.reduceAdd, Nat.reduceSub, Nat.reduceMul, Nat.reduceLeDiff, Int.reduceEq, Int.reduceLT, Int.reduceLE, Int.reduceAdd, Int.reduceMul, Int.reduceSub, Int.reduceNeg, Int.reduceToNat, reduceIte, Nat.reduceLT, h9, h3, z1, z2]
  refine callW_pure b1 ?_
  simp only [go_sem, reduceCtorEq, Nat.reduceEqDiff, Nat.reduceAdd, Nat.reduceSub, Nat.reduceMul, Nat.reduceLeDiff, Int.reduceEq, Int.reduceLT, Int.reduceLE, Int.reduceAdd, Int.reduceMul, Int.reduceSub, Int.reduceNeg, Int.reduceToNat, reduceIte, Nat.reduceLT, h9, h3, z1, z2]
  refine callW_pure b2 ?_
  have hbb : (decide (N = M) == decide (N = M)) = true := by simp
  simp only [go_sem, reduceCtorEq, Nat.reduceEqDiff, Nat.reduceAdd, Nat.reduceSub, Nat.reduceMul, Nat.reduceLeDiff, Int.reduceEq, Int.reduceLT, Int.reduceLE, Int.reduceAdd, Int.reduceMul, Int.reduceSub, Int.reduceNeg, Int.reduceToNat, reduceIte, Nat.reduceLT, h9, h3, z1, z2, hbb]
  refine callW_pure l5_awake_ok ?_
  simp [go_sem, reduceCtorEq, Nat.reduceEqDiff, Nat.reduceAdd, Nat.reduceSub, Nat.reduceMul, Nat.reduceLeDiff, Int.reduceEq, Int.reduceLT, Int.reduceLE, Int.reduceAdd, Int.reduceMul, Int.reduceSub, Int.reduceNeg, Int.reduceToNat, reduceIte, Nat.reduceLT, viewA, viewFn, viewC, viewFs, viewCs, viewAs, closedC, closedCs]

theorem back_L1 {T : Nat → Option AFun} (o : ByteArray) (m : Int) (k : Nat) (hm : Int.tmod (IntKind.wrap .i64 m) 40 = k) (hk : k < 40) (ho : o.size ≤ 800) :
    ∀ (r i : Nat) (t : ByteArray) (e : Env) (H : Heap), i + r = k → t.size + 10 * r ≤ 800 → e 2 = .c (.int .u16 m) → e 3 = sC o → e 9 = sC t → e 11 = iC i →
      Run (progT Tryd.prog T) ⟨[.tmp 8], fun u E => viewA E u = some (bC true)⟩ [.loop l5_PadBack_L1, .blk 2, .code l5_PadBack_K2] e H := by
  intro r
  induction r with
  | zero =>
    intro i t e H hi ht h2 h3 h9 h11
    have hc : ¬ ((i : Int) < (k : Int)) := by omega
    refine run_again ?_
    conv => enter [3, 1]; unfold l5_PadBack_L1
    simp only [go_sem, reduceCtorEq, Nat.reduceEqDiff, Nat.reduceAdd, Nat.reduceSub, Nat.reduceMul, Nat.reduceLeDiff, Int.reduceEq, Int.reduceLT, Int.reduceLE, Int.reduceAdd, Int.reduceMul, Int.reduceSub, Int.reduceNeg, Int.reduceToNat, reduceIte, Nat.reduceLT, h2, h3, h9, h11, hm, hc]
    exact back_fin t o (by omega) ho _ _ (by simp only [go_sem, reduceCtorEq, Nat.reduceEqDiff, Nat.reduceAdd, Nat.reduceSub, Nat.reduceMul, Nat.reduceLeDiff, Int.reduceEq, Int.reduceLT, Int.reduceLE, Int.reduceAdd, Int.reduceMul, Int.reduceSub, Int.reduceNeg, Int.reduceToNat, reduceIte, Nat.reduceLT, h9]) (by simp only [go_sem, reduceCtorEq, Nat.reduceEqDiff, Nat.reduceAdd, Nat.reduceSub, Nat.reduceMul, Nat.reduceLeDiff, Int.reduceEq, Int.reduceLT, Int.reduceLE, Int.reduceAdd, Int.reduceMul, Int.reduceSub, Int.reduceNeg, Int.reduceToNat, reduceIte, Nat.reduceLT, h3])
  | succ r ih =>
    intro i t e H hi ht h2 h3 h9 h11
    have hc : (i : Int) < (k : Int) := by omega
    have hcat : ∀ H : Heap, vBin .add (sC t) (.c (.str ⟨#[48, 49, 50, 51, 52, 53, 54, 55, 56, 57]⟩)) H = some (sC (t ++ ⟨#[48, 49, 50, 51, 52, 53, 54, 55, 56, 57]⟩), H) := fun H => vBin_cat (by show t.size + 10 ≤ _; omega)
    have hw : IntKind.wrap .i64 ((i : Int) + 1) = ((i + 1 : Nat) : Int) := by rw [wrap64 (by omega)]; omega
    refine run_again ?_
    conv => enter [3, 1]; unfold l5_PadBack_L1
    simp only [go_sem, reduceCtorEq, Nat.reduceEqDiff, Nat.reduceAdd, Nat.reduceSub, Nat.reduceMul, Nat.reduceLeDiff, Int.reduceEq, Int.reduceLT, Int.reduceLE, Int.reduceAdd, Int.reduceMul, Int.reduceSub, Int.reduceNeg, Int.reduceToNat, reduceIte, Nat.reduceLT, h2, h3, h9, h11, hm, hc, hcat, hw]
    have hs : (t ++ ⟨#[48, 49, 50, 51, 52, 53, 54, 55, 56, 57]⟩ : ByteArray).size = t.size + 10 := by rw [ByteArray.size_append]; rfl
    exact ih (i + 1) (t ++ ⟨#[48, 49, 50, 51, 52, 53, 54, 55, 56, 57]⟩) _ _ (by omega) (by omega) (by simp only [go_sem, reduceCtorEq, Nat.reduceEqDiff, Nat.reduceAdd, Nat.reduceSub, Nat.reduceMul, Nat.reduceLeDiff, Int.reduceEq, Int.reduceLT, Int.reduceLE, Int.reduceAdd, Int.reduceMul, Int.reduceSub, Int.reduceNeg, Int.reduceToNat, reduceIte, Nat.reduceLT, h2]) (by simp only [go_sem, reduceCtorEq, Nat.reduceEqDiff, Nat.reduceAdd, Nat.reduceSub, Nat.reduceMul, Nat.reduceLeDiff, Int.reduceEq, Int.reduceLT, Int.reduceLE, Int.reduceAdd, Int.reduceMul, Int.reduceSub, Int.reduceNeg, Int.reduceToNat, reduceIte, Nat.reduceLT, h3]) (by simp only [go_sem, reduceCtorEq, Nat.reduceEqDiff, Nat.reduceAdd, Nat.reduceSub, Nat.reduceMul, Nat.reduceLeDiff, Int.reduceEq, Int.reduceLT, Int.reduceLE, Int.reduceAdd, Int.reduceMul, Int.reduceSub, Int.reduceNeg, Int.reduceToNat, reduceIte, Nat.reduceLT]) (by simp only [go_sem, reduceCtorEq, Nat.reduceEqDiff, Nat.reduceAdd, Nat.reduceSub, Nat.reduceMul, Nat.reduceLeDiff, Int.reduceEq, Int.reduceLT, Int.reduceLE, Int.reduceAdd, Int.reduceMul, Int.reduceSub, Int.reduceNeg, Int.reduceToNat, reduceIte, Nat.reduceLT])

theorem back_L0 {T : Nat → Option AFun} (o : ByteArray) (a m : Int) (j k : Nat) (ha : Int.tmod (IntKind.wrap .i64 a) 6 = j) (hm : Int.tmod (IntKind.wrap .i64 m) 40 = k) (hj : j < 6) (hk : k < 40) (ho : o.size ≤ 800) :
    ∀ (r i : Nat) (t : ByteArray) (e : Env) (H : Heap), i + r = j → t.size + r ≤ 310 → e 1 = .c (.int .u8 a) → e 2 = .c (.int .u16 m) → e 3 = sC o → e 9 = sC t → e 10 = iC i →
      Run (progT Tryd.prog T) ⟨[.tmp 8], fun u E => viewA E u = some (bC true)⟩ [.loop l5_PadBack_L0, .blk 0, .code l5_PadBack_K3] e H := by
  intro r
  induction r with
  | zero =>
    intro i t e H hi ht h1 h2 h3 h9 h10
    have hc : ¬ ((i : Int) < (j : Int)) := by omega
    have hcat : ∀ H : Heap, vBin .add (sC t) (.c (.str ⟨#[128]⟩)) H = some (sC (t ++ ⟨#[128]⟩), H) := fun H => vBin_cat (by show t.size + 1 ≤ _; omega)
    refine run_again ?_
    conv => enter [3, 1]; unfold l5_PadBack_L0
    simp only [go_sem, reduceCtorEq, Nat.reduceEqDiff, Nat.reduceAdd, Nat.reduceSub, Nat.reduceMul, Nat.reduceLeDiff, Int.reduceEq, Int.reduceLT, Int.reduceLE, Int.reduceAdd, Int.reduceMul, Int.reduceSub, Int.reduceNeg, Int.reduceToNat, reduceIte, Nat.reduceLT, h1, h2, h3, h9, h10, ha, hc]
    unfold l5_PadBack_K3
    by_cases hb : 127 < a
    · simp only [go_sem, reduceCtorEq, Nat.reduceEqDiff, Nat.reduceAdd, Nat.reduceSub, Nat.reduceMul, Nat.reduceLeDiff, Int.reduceEq, Int.reduceLT, Int.reduceLE, Int.reduceAdd, Int.reduceMul, Int.reduceSub, Int.reduceNeg, Int.reduceToNat, reduceIte, Nat.reduceLT, h1, h2, h3, h9, h10, hb, hcat]
      have hs : (t ++ ⟨#[128]⟩ : ByteArray).size = t.size + 1 := by rw [ByteArray.size_append]; rfl
      exact back_L1 o m k hm hk ho k 0 (t ++ ⟨#[128]⟩) _ _ (by omega) (by omega) (by simp only [go_sem, reduceCtorEq, Nat.reduceEqDiff, Nat.reduceAdd, Nat.reduceSub, Nat.reduceMul, Nat.reduceLeDiff, Int.reduceEq, Int.reduceLT, Int.reduceLE, Int.reduceAdd, Int.reduceMul, Int.reduceSub, Int.reduceNeg, Int.reduceToNat, reduceIte, Nat.reduceLT, h2]) (by simp only [go_sem, reduceCtorEq, Nat.reduceEqDiff, Nat.reduceAdd, Nat.reduceSub, Nat.reduceMul, Nat.reduceLeDiff, Int.reduceEq, Int.reduceLT, Int.reduceLE, Int.reduceAdd, Int.reduceMul, Int.reduceSub, Int.reduceNeg, Int.reduceToNat, reduceIte, Nat.reduceLT, h3]) (by simp only [go_sem, reduceCtorEq, Nat.reduceEqDiff, Nat.reduceAdd, Nat.reduceSub, Nat.reduceMul, Nat.reduceLeDiff, Int.reduceEq, Int.reduceLT, Int.reduceLE, Int.reduceAdd, Int.reduceMul, Int.reduceSub, Int.reduceNeg, Int.reduceToNat, reduceIte, Nat.reduceLT]) (by simp only [go_sem, reduceCtorEq, Nat.reduceEqDiff, Nat.reduceAdd, Nat.reduceSub, Nat.reduceMul, Nat.reduceLeDiff, Int.reduceEq, Int.reduceLT, Int.reduceLE, Int.reduceAdd, Int.reduceMul, Int.reduceSub, Int.reduceNeg, Int.reduceToNat, reduceIte, Nat.reduceLT])
    · simp only [go_sem, reduceCtorEq, Nat.reduceEqDiff, Nat.reduceAdd, Nat.reduceSub, Nat.reduceMul, Nat.reduceLeDiff, Int.reduceEq, Int.reduceLT, Int.reduceLE, Int.reduceAdd, Int.reduceMul, Int.reduceSub, Int.reduceNeg, Int.reduceToNat, reduceIte, Nat.reduceLT, h1, h2, h3, h9, h10, hb]
      exact back_L1 o m k hm hk ho k 0 t _ _ (by omega) (by omega) (by simp only [go_sem, reduceCtorEq, Nat.reduceEqDiff, Nat.reduceAdd, Nat.reduceSub, Nat.reduceMul, Nat.reduceLeDiff, Int.reduceEq, Int.reduceLT, Int.reduceLE, Int.reduceAdd, Int.reduceMul, Int.reduceSub, Int.reduceNeg, Int.reduceToNat, reduceIte, Nat.reduceLT, h2]) (by simp only [go_sem, reduceCtorEq, Nat.reduceEqDiff, Nat.reduceAdd, Nat.reduceSub, Nat.reduceMul, Nat.reduceLeDiff, Int.reduceEq, Int.reduceLT, Int.reduceLE, Int.reduceAdd, Int.reduceMul, Int.reduceSub, Int.reduceNeg, Int.reduceToNat, reduceIte, Nat.reduceLT, h3]) (by simp only [go_sem, reduceCtorEq, Nat.reduceEqDiff, Nat.reduceAdd, Nat.reduceSub, Nat.reduceMul, Nat.reduceLeDiff, Int.reduceEq, Int.reduceLT, Int.reduceLE, Int.reduceAdd, Int.reduceMul, Int.reduceSub, Int.reduceNeg, Int.reduceToNat, reduceIte, Nat.reduceLT, h9]) (by simp only [go_sem, reduceCtorEq, Nat.reduceEqDiff, Nat.reduceAdd, Nat.reduceSub, Nat.reduceMul, Nat.reduceLeDiff, Int.reduceEq, Int.reduceLT, Int.reduceLE, Int.reduceAdd, Int.reduceMul, Int.reduceSub, Int.reduceNeg, Int.reduceToNat, reduceIte, Nat.reduceLT])
  | succ r ih =>
    intro i t e H hi ht h1 h2 h3 h9 h10
    have hc : (i : Int) < (j : Int) := by omega
    have hcat : ∀ H : Heap, vBin .add (sC t) (.c (.str ⟨#[0]⟩)) H = some (sC (t ++ ⟨#[0]⟩), H) := fun H => vBin_cat (by show t.size + 1 ≤ _; omega)
    have hw : IntKind.wrap .i64 ((i : Int) + 1) = ((i + 1 : Nat) : Int) := by rw [wrap64 (by omega)]; omega
    refine run_again ?_
    conv => enter [3, 1]; unfold l5_PadBack_L0
    simp only [go_sem, reduceCtorEq, Nat.reduceEqDiff, Nat.reduceAdd, Nat.reduceSub, Nat.reduceMul, Nat.reduceLeDiff, Int.reduceEq, Int.reduceLT, Int.reduceLE, Int.reduceAdd, Int.reduceMul, Int.reduceSub, Int.reduceNeg, Int.reduceToNat, reduceIte, Nat.reduceLT, h1, h2, h3, h9, h10, ha, hc, hcat, hw]
    have hs : (t ++ ⟨#[0]⟩ : ByteArray).size = t.size + 1 := by rw [ByteArray.size_append]; rfl
    exact ih (i + 1) (t ++ ⟨#[0]⟩) _ _ (by omega) (by omega) (by simp only [go_sem, reduceCtorEq, Nat.reduceEqDiff, Nat.reduceAdd, Nat.reduceSub, Nat.reduceMul, Nat.reduceLeDiff, Int.reduceEq, Int.reduceLT, Int.reduceLE, Int.reduceAdd, Int.reduceMul, Int.reduceSub, Int.reduceNeg, Int.reduceToNat, reduceIte, Nat.reduceLT, h1]) (by simp only [go_sem, reduceCtorEq, Nat.reduceEqDiff, Nat.reduceAdd, Nat.reduceSub, Nat.reduceMul, Nat.reduceLeDiff, Int.reduceEq, Int.reduceLT, Int.reduceLE, Int.reduceAdd, Int.reduceMul, Int.reduceSub, Int.reduceNeg, Int.reduceToNat, reduceIte, Nat.reduceLT, h2]) (by simp only [go_sem, reduceCtorEq, Nat.reduceEqDiff, Nat.reduceAdd, Nat.reduceSub, Nat.reduceMul, Nat.reduceLeDiff, Int.reduceEq, Int.reduceLT, Int.reduceLE, Int.reduceAdd, Int.reduceMul, Int.reduceSub, Int.reduceNeg, Int.reduceToNat, reduceIte, Nat.reduceLT, h3]) (by simp only [go_sem, reduceCtorEq, Nat.reduceEqDiff, Nat.reduceAdd, Nat.reduceSub, Nat.reduceMul, Nat.reduceLeDiff, Int.reduceEq, Int.reduceLT, Int.reduceLE, Int.reduceAdd, Int.reduceMul, Int.reduceSub, Int.reduceNeg, Int.reduceToNat, reduceIte, Nat.reduceLT]) (by simp only [go_sem, reduceCtorEq, Nat.reduceEqDiff, Nat.reduceAdd, Nat.reduceSub, Nat.reduceMul, Nat.reduceLeDiff, Int.reduceEq, Int.reduceLT, Int.reduceLE, Int.reduceAdd, Int.reduceMul, Int.reduceSub, Int.reduceNeg, Int.reduceToNat, reduceIte, Nat.reduceLT])

theorem l5_PadBack_law (s : ByteArray) (ys : s.size ≤ maxLen) (a : Int) (wa : IntKind.min .u8 ≤ a ∧ a ≤ IntKind.max .u8) (m : Int) (wm : IntKind.min .u16 ≤ m ∧ m ≤ IntKind.max .u16) (o : ByteArray) (yo : o.size ≤ maxLen) :
    Pr 5 [sC s, .c (.int .u8 a), .c (.int .u16 m), sC o] (bC true) := by
  have hmin : IntKind.min .u8 = 0 := rfl
  have hmax : IntKind.max .u8 = 255 := rfl
  have hmin2 : IntKind.min .u16 = 0 := rfl
  have hmax2 : IntKind.max .u16 = 65535 := rfl
  rw [hmin, hmax] at wa
  rw [hmin2, hmax2] at wm
  have ha : Int.tmod (IntKind.wrap .i64 a) 6 = ((a % 6).toNat : Int) := by
    rw [wrap64 (by omega), Int.tmod_eq_emod_of_nonneg wa.1]; omega
  have hm : Int.tmod (IntKind.wrap .i64 m) 40 = ((m % 40).toNat : Int) := by
    rw [wrap64 (by omega), Int.tmod_eq_emod_of_nonneg wm.1]; omega
  refine pure_of mixed is_l5_PadBack rfl fun hl T => ?_
  unfold c_l5_PadBack
  simp only [go_sem, reduceCtorEq, Nat.reduceEqDiff, Nat.reduceAdd, Nat.reduceSub, Nat.reduceMul, Nat.reduceLeDiff, Int.reduceEq, Int.reduceLT, Int.reduceLE, Int.reduceAdd, Int.reduceMul, Int.reduceSub, Int.reduceNeg, Int.reduceToNat, reduceIte, Nat.reduceLT]
  by_cases h1 : (s.size : Int) > 300
  · simp only [go_sem, reduceCtorEq, Nat.reduceEqDiff, Nat.reduceAdd, Nat.reduceSub, Nat.reduceMul, Nat.reduceLeDiff, Int.reduceEq, Int.reduceLT, Int.reduceLE, Int.reduceAdd, Int.reduceMul, Int.reduceSub, Int.reduceNeg, Int.reduceToNat, reduceIte, Nat.reduceLT, h1]
    refine callW_pure l5_awake_ok ?_
    simp [go_sem, reduceCtorEq, Nat.reduceEqDiff, Nat.reduceAdd, Nat.reduceSub, Nat.reduceMul, Nat.reduceLeDiff, Int.reduceEq, Int.reduceLT, Int.reduceLE, Int.reduceAdd, Int.reduceMul, Int.reduceSub, Int.reduceNeg, Int.reduceToNat, reduceIte, Nat.reduceLT, viewA, viewFn, viewC, viewFs, viewCs, viewAs, closedC, closedCs]
  · simp only [go_sem, reduceCtorEq, Nat.reduceEqDiff, Nat.reduceAdd, Nat.reduceSub, Nat.reduceMul, Nat.reduceLeDiff, Int.reduceEq, Int.reduceLT, Int.reduceLE, Int.reduceAdd, Int.reduceMul, Int.reduceSub, Int.reduceNeg, Int.reduceToNat, reduceIte, Nat.reduceLT, h1]
    by_cases h2 : (o.size : Int) > 300
    · simp only [go_sem, reduceCtorEq, Nat.reduceEqDiff, Nat.reduceAdd, Nat.reduceSub, Nat.reduceMul, Nat.reduceLeDiff, Int.reduceEq, Int.reduceLT, Int.reduceLE, Int.reduceAdd, Int.reduceMul, Int.reduceSub, Int.reduceNeg, Int.reduceToNat, reduceIte, Nat.reduceLT, h2]
      refine callW_pure l5_awake_ok ?_
      simp [go_sem, reduceCtorEq, Nat.reduceEqDiff, Nat.reduceAdd, Nat.reduceSub, Nat.reduceMul, Nat.reduceLeDiff, Int.reduceEq, Int.reduceLT, Int.reduceLE, Int.reduceAdd, Int.reduceMul, Int.reduceSub, Int.reduceNeg, Int.reduceToNat, reduceIte, Nat.reduceLT, viewA, viewFn, viewC, viewFs, viewCs, viewAs, closedC, closedCs]
    · simp only [go_sem, reduceCtorEq, Nat.reduceEqDiff, Nat.reduceAdd, Nat.reduceSub, Nat.reduceMul, Nat.reduceLeDiff, Int.reduceEq, Int.reduceLT, Int.reduceLE, Int.reduceAdd, Int.reduceMul, Int.reduceSub, Int.reduceNeg, Int.reduceToNat, reduceIte, Nat.reduceLT, h2]
      exact back_L0 o a m _ _ ha hm (by omega) (by omega) (by omega) (a % 6).toNat 0 s _ _ (by omega) (by omega) (by simp only [go_sem, reduceCtorEq, Nat.reduceEqDiff, Nat.reduceAdd, Nat.reduceSub, Nat.reduceMul, Nat.reduceLeDiff, Int.reduceEq, Int.reduceLT, Int.reduceLE, Int.reduceAdd, Int.reduceMul, Int.reduceSub, Int.reduceNeg, Int.reduceToNat, reduceIte, Nat.reduceLT]) (by simp only [go_sem, reduceCtorEq, Nat.reduceEqDiff, Nat.reduceAdd, Nat.reduceSub, Nat.reduceMul, Nat.reduceLeDiff, Int.reduceEq, Int.reduceLT, Int.reduceLE, Int.reduceAdd, Int.reduceMul, Int.reduceSub, Int.reduceNeg, Int.reduceToNat, reduceIte, Nat.reduceLT]) (by simp only [go_sem, reduceCtorEq, Nat.reduceEqDiff, Nat.reduceAdd, Nat.reduceSub, Nat.reduceMul, Nat.reduceLeDiff, Int.reduceEq, Int.reduceLT, Int.reduceLE, Int.reduceAdd, Int.reduceMul, Int.reduceSub, Int.reduceNeg, Int.reduceToNat, reduceIte, Nat.reduceLT]) (by simp only [go_sem, reduceCtorEq, Nat.reduceEqDiff, Nat.reduceAdd, Nat.reduceSub, Nat.reduceMul, Nat.reduceLeDiff, Int.reduceEq, Int.reduceLT, Int.reduceLE, Int.reduceAdd, Int.reduceMul, Int.reduceSub, Int.reduceNeg, Int.reduceToNat, reduceIte, Nat.reduceLT]) (by simp only [go_sem, reduceCtorEq, Nat.reduceEqDiff, Nat.reduceAdd, Nat.reduceSub, Nat.reduceMul, Nat.reduceLeDiff, Int.reduceEq, Int.reduceLT, Int.reduceLE, Int.reduceAdd, Int.reduceMul, Int.reduceSub, Int.reduceNeg, Int.reduceToNat, reduceIte, Nat.reduceLT])

end Go.Proofs.YtjjmeoeaimfiiaaDoor.Eng
