/- The law PadEdges: its call comes to true. -/
import Derived.Test.YtjjmeoeaimfiiaaZPadR
namespace Go.Proofs.Ytjjmeoeaimfiiaa.Eng
open Go
set_option linter.unusedVariables false
set_option linter.unusedSimpArgs false

theorem mkF_lit5 {H : Heap} {sz : Nat} {a b c d f : List Cell} (ha : closedCs a = true) (hb : closedCs b = true) (hc : closedCs c = true) (hd : closedCs d = true) (hf : closedCs f = true) : mkF H (vLit sz 5 (some [a, b, c, d, f]) H) = some (.c (.lst sz [a, b, c, d, f])) := mkF_lit rfl (by simp [closedR, ha, hb, hc, hd, hf]) (by omega)

theorem takeB_rep : ∀ m : Nat, takeBytes (List.replicate m [Cell.int .u8 0]) = some (List.replicate m 0)
  | 0 => rfl
  | m + 1 => by simp [List.replicate_succ, takeBytes, takeB_rep m]

/-- Noughts. -/
def zeroS (m : Nat) : ByteArray := ⟨(List.replicate m (0 : UInt8)).toArray⟩
theorem zeroS_size (m : Nat) : (zeroS m).size = m := by simp [zeroS, ByteArray.size]

theorem zero_b2s {H : Heap} {m : Nat} (hm : 0 < m) : vB2s (.c (.slc H.length 0 m 1 false)) (H ++ [{ sz := 1, rows := List.replicate m [Cell.int .u8 0] }]) = some (sC (zeroS m), H ++ [{ sz := 1, rows := List.replicate m [Cell.int .u8 0] }]) := by
  have hr : Heap.rowsOf (H ++ [{ sz := 1, rows := List.replicate m [Cell.int .u8 0] }]) (.slc H.length 0 m 1 false) = some (List.replicate m [Cell.int .u8 0]) := by
    have h0 : ¬ m = 0 := by omega
    simp [Heap.rowsOf, h0]
  simp only [vB2s, fitsSz, beq_self_eq_true, if_true, hr, takeB_rep]
  rfl

theorem l5_PadEdges_ok (a k n n' : Int) (m : Nat) (hk : Int.tmod (IntKind.wrap .i64 a) 5 = k) (h0 : 0 ≤ k) (h4 : k ≤ 4)
    (hi : ∀ H : Heap, vIx 1 (.c (.lst 1 [[.int .i64 64], [.int .i64 256], [.int .i64 1024], [.int .i64 4096], [.int .i64 16384]])) (iC k) H = some (.c (.fp [.int .i64 n] 0), H)) (hm : n = m + 1) (hn : 64 ≤ n) (hn2 : n ≤ 16384) (hb : bucketI m = n)
    (hl : k ≠ 4 → bucketI (m + 1 : Nat) = n' ∧ n' ≠ 0 ∧ (∀ H : Heap, vIx 1 (.c (.lst 1 [[.int .i64 64], [.int .i64 256], [.int .i64 1024], [.int .i64 4096], [.int .i64 16384]])) (iC (k + 1)) H = some (.c (.fp [.int .i64 n'] 0), H)))
    (hg : k = 4 → bucketI (m + 1 : Nat) = 0 ∧ n = 16384) : Pr 10 [.c (.int .u8 a)] (bC true) := by
  have hw : IntKind.wrap .i64 (n - 1) = (m : Int) := by rw [wrap64 (by omega)]; omega
  have hwk : IntKind.wrap .i64 (k + 1) = k + 1 := wrap64 (by omega)
  have hb0 : bucketI (zeroS m).size = n := by rw [zeroS_size]; exact hb
  have hx : (zeroS m ++ ⟨#[120]⟩ : ByteArray).size = m + 1 := by rw [ByteArray.size_append, zeroS_size]; rfl
  have hcat : ∀ H : Heap, vBin .add (sC (zeroS m)) (.c (.str ⟨#[120]⟩)) H = some (sC (zeroS m ++ ⟨#[120]⟩), H) := fun H => vBin_cat (by rw [zeroS_size]; show m + 1 ≤ _; omega)
  have hp1 := pad_Pad_ok (zeroS m) (by omega)
  have hps : ((padS (zeroS m)).size : Int) = n := by rw [padS_size (by omega)]; exact hb0
  have hmk : ∀ H : Heap, vMake 1 1 [.int .u8 0] (iC m) (iC m) H = some (.c (.slc H.length 0 m 1 false), H ++ [{ sz := 1, rows := List.replicate m [Cell.int .u8 0] }]) := fun H => by
    have h1 : (m : Int) * (1 : Nat) ≤ 140737488355328 ∧ (m : Int) ≤ 9223372036854775807 := by omega
    have h2 : (m == 0) = false := by simp; omega
    simp only [vMake]
    rw [if_pos ⟨by omega, trivial, h1⟩]
    simp [h2]
  generalize padS (zeroS m) = p at *
  have hz := zero_b2s (H := []) (show 0 < m by omega)
  simp only [List.length_nil, List.nil_append] at hz
  refine pure_of mixed is_l5_PadEdges rfl fun hl' T => ?_
  unfold c_l5_PadEdges
  simp only [go_sem, reduceCtorEq, Nat.reduceEqDiff, Nat.reduceAdd, Nat.reduceSub, Nat.reduceMul, Nat.reduceLeDiff, Int.reduceEq, Int.reduceLT, Int.reduceLE, Int.reduceAdd, Int.reduceMul, Int.reduceSub, Int.reduceNeg, Int.reduceToNat, reduceIte, Nat.reduceLT, mkF_lit5, hk, hi, hw, hmk, hz]
  refine callW_pure hp1 ?_
  simp only [go_sem, reduceCtorEq, Nat.reduceEqDiff, Nat.reduceAdd, Nat.reduceSub, Nat.reduceMul, Nat.reduceLeDiff, Int.reduceEq, Int.reduceLT, Int.reduceLE, Int.reduceAdd, Int.reduceMul, Int.reduceSub, Int.reduceNeg, Int.reduceToNat, reduceIte, Nat.reduceLT, hcat]
  by_cases h : k = 4
  · obtain ⟨g1, g2⟩ := hg h
    refine callW_pure (pad_Pad_no _ (by rw [hx]; exact g1)) ?_
    have hpz : (p.size : Int) = 16384 := by omega
    simp only [go_sem, reduceCtorEq, Nat.reduceEqDiff, Nat.reduceAdd, Nat.reduceSub, Nat.reduceMul, Nat.reduceLeDiff, Int.reduceEq, Int.reduceLT, Int.reduceLE, Int.reduceAdd, Int.reduceMul, Int.reduceSub, Int.reduceNeg, Int.reduceToNat, reduceIte, Nat.reduceLT, h, hpz]
    refine callW_pure (pad_Bucket_ok _) ?_
    have h1 : bucketI 16384 = 0 := rfl
    have h2 : bucketI (-1) = 0 := rfl
    simp only [go_sem, reduceCtorEq, Nat.reduceEqDiff, Nat.reduceAdd, Nat.reduceSub, Nat.reduceMul, Nat.reduceLeDiff, Int.reduceEq, Int.reduceLT, Int.reduceLE, Int.reduceAdd, Int.reduceMul, Int.reduceSub, Int.reduceNeg, Int.reduceToNat, reduceIte, Nat.reduceLT, h1]
    refine callW_pure (pad_Bucket_ok _) ?_
    simp only [go_sem, reduceCtorEq, Nat.reduceEqDiff, Nat.reduceAdd, Nat.reduceSub, Nat.reduceMul, Nat.reduceLeDiff, Int.reduceEq, Int.reduceLT, Int.reduceLE, Int.reduceAdd, Int.reduceMul, Int.reduceSub, Int.reduceNeg, Int.reduceToNat, reduceIte, Nat.reduceLT, h2]
    refine callW_pure l5_awake_ok ?_
    simp [go_sem, reduceCtorEq, Nat.reduceEqDiff, Nat.reduceAdd, Nat.reduceSub, Nat.reduceMul, Nat.reduceLeDiff, Int.reduceEq, Int.reduceLT, Int.reduceLE, Int.reduceAdd, Int.reduceMul, Int.reduceSub, Int.reduceNeg, Int.reduceToNat, reduceIte, Nat.reduceLT, viewA, viewFn, viewC, viewFs, viewCs, viewAs, closedC, closedCs]
  · obtain ⟨g1, g2, g3⟩ := hl h
    have hp2 := pad_Pad_ok (zeroS m ++ ⟨#[120]⟩) (by rw [hx]; omega)
    have hqs : ((padS (zeroS m ++ ⟨#[120]⟩)).size : Int) = n' := by rw [padS_size (by rw [hx]; omega), hx]; exact g1
    generalize padS (zeroS m ++ ⟨#[120]⟩) = q at *
    refine callW_pure hp2 ?_
    simp only [go_sem, reduceCtorEq, Nat.reduceEqDiff, Nat.reduceAdd, Nat.reduceSub, Nat.reduceMul, Nat.reduceLeDiff, Int.reduceEq, Int.reduceLT, Int.reduceLE, Int.reduceAdd, Int.reduceMul, Int.reduceSub, Int.reduceNeg, Int.reduceToNat, reduceIte, Nat.reduceLT, h, hps, hqs, hi, g3, hwk]
    refine callW_pure l5_awake_ok ?_
    simp [go_sem, reduceCtorEq, Nat.reduceEqDiff, Nat.reduceAdd, Nat.reduceSub, Nat.reduceMul, Nat.reduceLeDiff, Int.reduceEq, Int.reduceLT, Int.reduceLE, Int.reduceAdd, Int.reduceMul, Int.reduceSub, Int.reduceNeg, Int.reduceToNat, reduceIte, Nat.reduceLT, viewA, viewFn, viewC, viewFs, viewCs, viewAs, closedC, closedCs]

theorem l5_PadEdges_law (a : Int) (h : IntKind.min .u8 ≤ a ∧ a ≤ IntKind.max .u8) : Pr 10 [.c (.int .u8 a)] (bC true) := by
  have hmin : IntKind.min .u8 = 0 := rfl
  have hmax : IntKind.max .u8 = 255 := rfl
  rw [hmin, hmax] at h
  have hw : IntKind.wrap .i64 a = a := wrap64 (by omega)
  have ht : Int.tmod a 5 = a % 5 := Int.tmod_eq_emod_of_nonneg h.1
  have hk : ∀ k, a % 5 = k → Int.tmod (IntKind.wrap .i64 a) 5 = k := fun k e => by rw [hw, ht, e]
  have h5 : a % 5 = 0 ∨ a % 5 = 1 ∨ a % 5 = 2 ∨ a % 5 = 3 ∨ a % 5 = 4 := by omega
  rcases h5 with e | e | e | e | e
  · exact l5_PadEdges_ok a 0 64 256 63 (hk _ e) (by omega) (by omega) (fun _ => rfl) rfl (by omega) (by omega) rfl (fun _ => ⟨rfl, by omega, fun _ => rfl⟩) (fun h => by omega)
  · exact l5_PadEdges_ok a 1 256 1024 255 (hk _ e) (by omega) (by omega) (fun _ => rfl) rfl (by omega) (by omega) rfl (fun _ => ⟨rfl, by omega, fun _ => rfl⟩) (fun h => by omega)
  · exact l5_PadEdges_ok a 2 1024 4096 1023 (hk _ e) (by omega) (by omega) (fun _ => rfl) rfl (by omega) (by omega) rfl (fun _ => ⟨rfl, by omega, fun _ => rfl⟩) (fun h => by omega)
  · exact l5_PadEdges_ok a 3 4096 16384 4095 (hk _ e) (by omega) (by omega) (fun _ => rfl) rfl (by omega) (by omega) rfl (fun _ => ⟨rfl, by omega, fun _ => rfl⟩) (fun h => by omega)
  · exact l5_PadEdges_ok a 4 16384 0 16383 (hk _ e) (by omega) (by omega) (fun _ => rfl) rfl (by omega) (by omega) rfl (fun h => absurd rfl h) (fun _ => ⟨rfl, rfl⟩)

end Go.Proofs.Ytjjmeoeaimfiiaa.Eng
