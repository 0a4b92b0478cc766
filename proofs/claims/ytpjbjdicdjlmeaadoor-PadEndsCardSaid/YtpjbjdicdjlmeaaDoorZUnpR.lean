/- Contracts: strings.TrimRight, CutSuffix by the kit's; pad.Unpad. No statement of the seat is proved here. -/
import Derived.Test.YtpjbjdicdjlmeaaDoorZPadR
import Derived.Test.YtpjbjdicdjlmeaaDoorZLayTrim
import Derived.Test.YtpjbjdicdjlmeaaDoorZLayCut
namespace Go.Proofs.YtpjbjdicdjlmeaaDoor.Eng
open Go Go.Shelf Go.RowKit
set_option linter.unusedVariables false
set_option linter.unusedSimpArgs false

theorem trimNumber : layTrim_ren.f 162 = 10 := by kernel_rfl
theorem cutNumber : layCut_ren.f 104 = 9 := by kernel_rfl

def trimS (s : ByteArray) : ByteArray := ⟨(Lib.trimRightB s.data.toList 0).toArray⟩
def cutS (s p : ByteArray) : ByteArray := ⟨(Lib.trimSuffix s.data.toList p.data.toList).toArray⟩
def endsS (s p : ByteArray) : Bool := Lib.hasSuffix s.data.toList p.data.toList

theorem strings_TrimRight_ok (s : ByteArray) (hs : s.size ≤ 9223372036854775807) : Pr 10 [sC s, sC ⟨#[0]⟩] (sC (trimS s)) := by
  intro H
  refine ⟨by rw [← trimNumber]; exact ⟨_, layTrim.f162, rfl, rfl⟩, fun B m w vs r ha => ?_⟩
  obtain ⟨vs⟩ := vs
  cases ha with
  | cons a1 a2 =>
    cases a2 with
    | cons a2 a3 =>
      cases a3
      cases a1 with
      | c a1 =>
        cases a1
        cases a2 with
        | c a2 =>
          cases a2
          have h := Any.strings_TrimRight_one layTrim s 0 (by decide) w hs
          rw [trimNumber] at h
          refine h.mono ?_
          rintro e w' ⟨rfl, rfl⟩
          exact ⟨_, m, rfl, St.refl r, .c (.str _)⟩

theorem strings_CutSuffix_ok (s p : ByteArray) (hs : s.size ≤ 9223372036854775807) : Pr 9 [sC s, sC p] (.tup [sC (cutS s p), bC (endsS s p)]) := by
  intro H
  refine ⟨by rw [← cutNumber]; exact ⟨_, layCut.f104, rfl, rfl⟩, fun B m w vs r ha => ?_⟩
  obtain ⟨vs⟩ := vs
  cases ha with
  | cons a1 a2 =>
    cases a2 with
    | cons a2 a3 =>
      cases a3
      cases a1 with
      | c a1 =>
        cases a1
        cases a2 with
        | c a2 =>
          cases a2
          have h := Any.strings_CutSuffix layCut s p w hs
          rw [cutNumber] at h
          refine h.mono ?_
          rintro e w' ⟨rfl, rfl⟩
          refine ⟨_, m, rfl, St.refl r, .tup rfl fun i x v hx hv => ?_⟩
          match i with
          | 0 => simp at hx hv; subst hx; subst hv; exact .c (.str _)
          | 1 => simp at hx hv; subst hx; subst hv; exact .c (.bool _)
          | i + 2 => simp at hx

/-- What a padded text says. -/
def unpadS (s : ByteArray) : ByteArray × Bool :=
  if endsS (trimS s) ⟨#[128]⟩ = true ∧ bucketI (cutS (trimS s) ⟨#[128]⟩).size = s.size then (cutS (trimS s) ⟨#[128]⟩, true) else (⟨#[]⟩, false)

theorem trimS_size (s : ByteArray) : (trimS s).size ≤ s.size := by
  show (Lib.trimRightB s.data.toList 0).toArray.size ≤ _
  rw [List.size_toArray, Lib.size_eq]
  unfold Lib.trimRightB
  have := (List.dropWhile_sublist (l := s.data.toList.reverse) (· == (0 : UInt8))).length_le
  simpa using this

theorem pad_Unpad_ok (s : ByteArray) (hs : s.size ≤ 9223372036854775807) : Pr 6 [sC s] (.tup [sC (unpadS s).1, bC (unpadS s).2]) := by
  have h1 := strings_TrimRight_ok s hs
  have h2 := strings_CutSuffix_ok (trimS s) ⟨#[128]⟩ (Nat.le_trans (trimS_size s) hs)
  unfold unpadS
  generalize cutS (trimS s) ⟨#[128]⟩ = x at *
  generalize endsS (trimS s) ⟨#[128]⟩ = b at *
  generalize trimS s = t at *
  refine pure_of mixed is_pad_Unpad rfl fun hl T => ?_
  unfold c_pad_Unpad
  simp only [go_sem, reduceCtorEq, Nat.reduceEqDiff, Nat.reduceAdd, Nat.reduceSub, Nat.reduceMul, Nat.reduceLeDiff, Int.reduceEq, Int.reduceLT, Int.reduceLE, Int.reduceAdd, Int.reduceMul, Int.reduceSub, Int.reduceNeg, Int.reduceToNat, reduceIte, Nat.reduceLT]
  refine callW_pure h1 ?_
  simp only [go_sem, reduceCtorEq, Nat.reduceEqDiff, Nat.reduceAdd, Nat.reduceSub, Nat.reduceMul, Nat.reduceLeDiff, Int.reduceEq, Int.reduceLT, Int.reduceLE, Int.reduceAdd, Int.reduceMul, Int.reduceSub, Int.reduceNeg, Int.reduceToNat, reduceIte, Nat.reduceLT]
  refine callW_pure h2 ?_
  cases b with
  | false => simp [go_sem, reduceCtorEq, Nat.reduceEqDiff, Nat.reduceAdd, Nat.reduceSub, Nat.reduceMul, Nat.reduceLeDiff, Int.reduceEq, Int.reduceLT, Int.reduceLE, Int.reduceAdd, Int.reduceMul, Int.reduceSub, Int.reduceNeg, Int.reduceToNat, reduceIte, Nat.reduceLT, viewA, viewFn, viewC, viewFs, viewCs, viewAs, closedC, closedCs]
  | true =>
    simp only [go_sem, reduceCtorEq, Nat.reduceEqDiff, Nat.reduceAdd, Nat.reduceSub, Nat.reduceMul, Nat.reduceLeDiff, Int.reduceEq, Int.reduceLT, Int.reduceLE, Int.reduceAdd, Int.reduceMul, Int.reduceSub, Int.reduceNeg, Int.reduceToNat, reduceIte, Nat.reduceLT]
    refine callW_pure (pad_Bucket_ok _) ?_
    by_cases h : bucketI x.size = s.size
    · simp [go_sem, reduceCtorEq, Nat.reduceEqDiff, Nat.reduceAdd, Nat.reduceSub, Nat.reduceMul, Nat.reduceLeDiff, Int.reduceEq, Int.reduceLT, Int.reduceLE, Int.reduceAdd, Int.reduceMul, Int.reduceSub, Int.reduceNeg, Int.reduceToNat, reduceIte, Nat.reduceLT, h, viewA, viewFn, viewC, viewFs, viewCs, viewAs, closedC, closedCs]
    · simp [go_sem, reduceCtorEq, Nat.reduceEqDiff, Nat.reduceAdd, Nat.reduceSub, Nat.reduceMul, Nat.reduceLeDiff, Int.reduceEq, Int.reduceLT, Int.reduceLE, Int.reduceAdd, Int.reduceMul, Int.reduceSub, Int.reduceNeg, Int.reduceToNat, reduceIte, Nat.reduceLT, h, viewA, viewFn, viewC, viewFs, viewCs, viewAs, closedC, closedCs]

/-! ### What is padded is told again -/
theorem unpad_pad (s : ByteArray) (h : bucketI s.size ≠ 0) : unpadS (padS s) = (s, true) := by
  have hsz := padS_size h
  have htrim : trimS (padS s) = s ++ ⟨#[128]⟩ := by
    unfold trimS padS repS
    generalize ((bucketI s.size).toNat - s.size - 1) = c
    have hz : ∀ c, Lib.repeatL [(0 : UInt8)] c = List.replicate c 0 := fun c => by
      induction c with
      | zero => rfl
      | succ c ih => simp [Lib.repeatL, ih, List.replicate_succ]
    have : (s ++ ⟨#[128]⟩ ++ (⟨(Lib.repeatL (⟨#[0]⟩ : ByteArray).data.toList c).toArray⟩ : ByteArray)).data.toList = s.data.toList ++ [128] ++ List.replicate c 0 := by
      rw [ByteArray.data_append, ByteArray.data_append]
      simp [hz]
    rw [this]
    unfold Lib.trimRightB
    have h2 : (s.data.toList ++ [128] ++ List.replicate c (0 : UInt8)).reverse = List.replicate c 0 ++ (128 :: s.data.toList.reverse) := by simp
    rw [h2]
    have h3 : ∀ c, (List.replicate c (0 : UInt8) ++ (128 :: s.data.toList.reverse)).dropWhile (· == 0) = 128 :: s.data.toList.reverse := fun c => by
      induction c with
      | zero => simp [List.dropWhile_cons]
      | succ c ih => simp [List.replicate_succ, ih]
    rw [h3]
    apply ByteArray.ext
    rw [ByteArray.data_append]
    apply Array.ext'
    simp
  have hcut : cutS (s ++ ⟨#[128]⟩) ⟨#[128]⟩ = s := by
    unfold cutS Lib.trimSuffix Lib.hasSuffix
    apply ByteArray.ext
    apply Array.ext'
    rw [ByteArray.data_append]
    simp
  have hend : endsS (s ++ ⟨#[128]⟩) ⟨#[128]⟩ = true := by
    unfold endsS Lib.hasSuffix
    rw [ByteArray.data_append]
    simp
  unfold unpadS
  rw [htrim, hcut, hend, if_pos ⟨rfl, hsz.symm⟩]

/-- Of a length that no bucket has nothing is said. -/
theorem unpad_no (s : ByteArray) (h : ∀ n, bucketI n ≠ s.size) : unpadS s = (⟨#[]⟩, false) := by
  unfold unpadS
  rw [if_neg (fun h' => h _ h'.2)]

end Go.Proofs.YtpjbjdicdjlmeaaDoor.Eng
