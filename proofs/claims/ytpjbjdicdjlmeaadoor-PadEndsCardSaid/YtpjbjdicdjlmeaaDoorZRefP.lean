/- Contracts of the document's package 1: Bucket, Pad. No statement of the seat is proved here. -/
import Derived.Test.YtpjbjdicdjlmeaaDoorZUnpR
import Derived.Test.YtpjbjdicdjlmeaaDoorZLitQ
namespace Go.Proofs.YtpjbjdicdjlmeaaDoor.Eng
open Go
set_option linter.unusedVariables false
set_option linter.unusedSimpArgs false

theorem mkF_lit5 {H : Heap} {sz : Nat} {a b c d f : List Cell} (ha : closedCs a = true) (hb : closedCs b = true) (hc : closedCs c = true) (hd : closedCs d = true) (hf : closedCs f = true) : mkF H (vLit sz 5 (some [a, b, c, d, f]) H) = some (.c (.lst sz [a, b, c, d, f])) := mkF_lit rfl (by simp [closedR, ha, hb, hc, hd, hf]) (by omega)

abbrev bucketC : Cell := .lst 1 [[.int .i64 64], [.int .i64 256], [.int .i64 1024], [.int .i64 4096], [.int .i64 16384]]
section
variable {H : Heap}
theorem ixb0 : vIx 1 (.c bucketC) (iC 0) H = some (.c (.fp [.int .i64 64] 0), H) := rfl
theorem ixb1 : vIx 1 (.c bucketC) (iC 1) H = some (.c (.fp [.int .i64 256] 0), H) := rfl
theorem ixb2 : vIx 1 (.c bucketC) (iC 2) H = some (.c (.fp [.int .i64 1024] 0), H) := rfl
theorem ixb3 : vIx 1 (.c bucketC) (iC 3) H = some (.c (.fp [.int .i64 4096] 0), H) := rfl
theorem ixb4 : vIx 1 (.c bucketC) (iC 4) H = some (.c (.fp [.int .i64 16384] 0), H) := rfl
end

theorem r1_Bucket_ok (n : Int) : Pr 8 [iC n] (iC (bucketI n)) := by
  refine pure_of mixed is_r1_Bucket rfl fun hl T => ?_
  unfold c_r1_Bucket
  simp only [go_sem, reduceCtorEq, Nat.reduceEqDiff, Nat.reduceAdd, Nat.reduceSub, Nat.reduceMul, Nat.reduceLeDiff, Int.reduceEq, Int.reduceLT, Int.reduceLE, Int.reduceAdd, Int.reduceMul, Int.reduceSub, Int.reduceNeg, Int.reduceToNat, reduceIte, Nat.reduceLT, mkF_lit5]
  have c5 : ((5 : Nat) : Int) = 5 := rfl
  have w1 : IntKind.wrap .i64 ((0 : Int) + 1) = 1 := rfl
  have w2 : IntKind.wrap .i64 ((1 : Int) + 1) = 2 := rfl
  have w3 : IntKind.wrap .i64 ((2 : Int) + 1) = 3 := rfl
  have w4 : IntKind.wrap .i64 ((3 : Int) + 1) = 4 := rfl
  have w5 : IntKind.wrap .i64 ((4 : Int) + 1) = 5 := rfl
  have L : ∀ (i : Int) (e : Env) (H : Heap) (j : Int) (v : Int), 0 ≤ n → (0 ≤ i ∧ i < 5) → (∀ H, vIx 1 (.c bucketC) (iC i) H = some (.c (.fp [.int .i64 v] 0), H)) → IntKind.wrap .i64 (i + 1) = j → e 0 = iC n → e 3 = .c bucketC → e 4 = iC i →
      (v > n → bucketI n = v) → (¬ v > n → ∀ e' : Env, ∀ H', e' 0 = iC n → e' 3 = .c bucketC → e' 4 = iC j → Run (progT Tryd.prog T) ⟨[.tmp 2], fun u E => viewA E u = some (iC (bucketI n))⟩ [.loop r1_Bucket_L0, .blk 0, .code r1_Bucket_K1] e' H') →
      Run (progT Tryd.prog T) ⟨[.tmp 2], fun u E => viewA E u = some (iC (bucketI n))⟩ [.loop r1_Bucket_L0, .blk 0, .code r1_Bucket_K1] e H := by
    intro i e H j v hn hi hix hw h0 h3 h4 hy hno
    have hi5 : i < 5 := hi.2
    refine run_again ?_
    conv => enter [3, 1]; unfold r1_Bucket_L0
    by_cases hv : v > n
    · have hb := hy hv
      simp only [go_sem, reduceCtorEq, Nat.reduceEqDiff, Nat.reduceAdd, Nat.reduceSub, Nat.reduceMul, Nat.reduceLeDiff, Int.reduceEq, Int.reduceLT, Int.reduceLE, Int.reduceAdd, Int.reduceMul, Int.reduceSub, Int.reduceNeg, Int.reduceToNat, reduceIte, Nat.reduceLT, c5, h0, h3, h4, hn, hi5, hix, hv]
      simp [viewA, viewFn, viewC, viewFs, viewCs, viewAs, closedC, closedCs, hb]
    · simp only [go_sem, reduceCtorEq, Nat.reduceEqDiff, Nat.reduceAdd, Nat.reduceSub, Nat.reduceMul, Nat.reduceLeDiff, Int.reduceEq, Int.reduceLT, Int.reduceLE, Int.reduceAdd, Int.reduceMul, Int.reduceSub, Int.reduceNeg, Int.reduceToNat, reduceIte, Nat.reduceLT, c5, h0, h3, h4, hn, hi5, hix, hv, hw]
      exact hno hv _ _ (by simp only [go_sem, reduceCtorEq, Nat.reduceEqDiff, Nat.reduceAdd, Nat.reduceSub, Nat.reduceMul, Nat.reduceLeDiff, Int.reduceEq, Int.reduceLT, Int.reduceLE, Int.reduceAdd, Int.reduceMul, Int.reduceSub, Int.reduceNeg, Int.reduceToNat, reduceIte, Nat.reduceLT, h0]) (by simp only [go_sem, reduceCtorEq, Nat.reduceEqDiff, Nat.reduceAdd, Nat.reduceSub, Nat.reduceMul, Nat.reduceLeDiff, Int.reduceEq, Int.reduceLT, Int.reduceLE, Int.reduceAdd, Int.reduceMul, Int.reduceSub, Int.reduceNeg, Int.reduceToNat, reduceIte, Nat.reduceLT, h3]) (by simp only [go_sem, reduceCtorEq, Nat.reduceEqDiff, Nat.reduceAdd, Nat.reduceSub, Nat.reduceMul, Nat.reduceLeDiff, Int.reduceEq, Int.reduceLT, Int.reduceLE, Int.reduceAdd, Int.reduceMul, Int.reduceSub, Int.reduceNeg, Int.reduceToNat, reduceIte, Nat.reduceLT])
  have last : ∀ (e : Env) (H : Heap), e 0 = iC n → e 3 = .c bucketC → (∃ i, e 4 = iC i ∧ (¬ i < 5 ∨ ¬ 0 ≤ n)) → bucketI n = 0 → Run (progT Tryd.prog T) ⟨[.tmp 2], fun u E => viewA E u = some (iC (bucketI n))⟩ [.loop r1_Bucket_L0, .blk 0, .code r1_Bucket_K1] e H := by
    rintro e H h0 h3 ⟨i, h4, hor⟩ hb
    refine run_again ?_
    conv => enter [3, 1]; unfold r1_Bucket_L0
    by_cases h5 : i < 5
    · have hn : ¬ 0 ≤ n := by rcases hor with h | h; exact absurd h5 h; exact h
      simp only [go_sem, reduceCtorEq, Nat.reduceEqDiff, Nat.reduceAdd, Nat.reduceSub, Nat.reduceMul, Nat.reduceLeDiff, Int.reduceEq, Int.reduceLT, Int.reduceLE, Int.reduceAdd, Int.reduceMul, Int.reduceSub, Int.reduceNeg, Int.reduceToNat, reduceIte, Nat.reduceLT, c5, h0, h3, h4, hn, h5]
      unfold r1_Bucket_K1
      simp only [go_sem, reduceCtorEq, Nat.reduceEqDiff, Nat.reduceAdd, Nat.reduceSub, Nat.reduceMul, Nat.reduceLeDiff, Int.reduceEq, Int.reduceLT, Int.reduceLE, Int.reduceAdd, Int.reduceMul, Int.reduceSub, Int.reduceNeg, Int.reduceToNat, reduceIte, Nat.reduceLT]
      simp [viewA, viewFn, viewC, viewFs, viewCs, viewAs, closedC, closedCs, hb]
    · simp only [go_sem, reduceCtorEq, Nat.reduceEqDiff, Nat.reduceAdd, Nat.reduceSub, Nat.reduceMul, Nat.reduceLeDiff, Int.reduceEq, Int.reduceLT, Int.reduceLE, Int.reduceAdd, Int.reduceMul, Int.reduceSub, Int.reduceNeg, Int.reduceToNat, reduceIte, Nat.reduceLT, c5, h0, h3, h4, h5]
      unfold r1_Bucket_K1
      simp only [go_sem, reduceCtorEq, Nat.reduceEqDiff, Nat.reduceAdd, Nat.reduceSub, Nat.reduceMul, Nat.reduceLeDiff, Int.reduceEq, Int.reduceLT, Int.reduceLE, Int.reduceAdd, Int.reduceMul, Int.reduceSub, Int.reduceNeg, Int.reduceToNat, reduceIte, Nat.reduceLT]
      simp [viewA, viewFn, viewC, viewFs, viewCs, viewAs, closedC, closedCs, hb]
  by_cases hn : 0 ≤ n
  · refine L 0 _ _ 1 64 hn (by omega) (fun _ => ixb0) w1 (by simp only [go_sem, reduceCtorEq, Nat.reduceEqDiff, Nat.reduceAdd, Nat.reduceSub, Nat.reduceMul, Nat.reduceLeDiff, Int.reduceEq, Int.reduceLT, Int.reduceLE, Int.reduceAdd, Int.reduceMul, Int.reduceSub, Int.reduceNeg, Int.reduceToNat, reduceIte, Nat.reduceLT]) (by simp only [go_sem, reduceCtorEq, Nat.reduceEqDiff, Nat.reduceAdd, Nat.reduceSub, Nat.reduceMul, Nat.reduceLeDiff, Int.reduceEq, Int.reduceLT, Int.reduceLE, Int.reduceAdd, Int.reduceMul, Int.reduceSub, Int.reduceNeg, Int.reduceToNat, reduceIte, Nat.reduceLT]) (by simp only [go_sem, reduceCtorEq, Nat.reduceEqDiff, Nat.reduceAdd, Nat.reduceSub, Nat.reduceMul, Nat.reduceLeDiff, Int.reduceEq, Int.reduceLT, Int.reduceLE, Int.reduceAdd, Int.reduceMul, Int.reduceSub, Int.reduceNeg, Int.reduceToNat, reduceIte, Nat.reduceLT]) (fun h => by unfold bucketI; rw [if_neg (by omega), if_neg (by omega), if_neg (by omega), if_neg (by omega), if_neg (by omega)]) fun h1 e1 H1 a0 a3 a4 => ?_
    refine L 1 _ _ 2 256 hn (by omega) (fun _ => ixb1) w2 a0 a3 a4 (fun h => by unfold bucketI; rw [if_neg (by omega), if_neg (by omega), if_neg (by omega), if_neg (by omega), if_pos (by omega)]) fun h2 e1 H1 a0 a3 a4 => ?_
    refine L 2 _ _ 3 1024 hn (by omega) (fun _ => ixb2) w3 a0 a3 a4 (fun h => by unfold bucketI; rw [if_neg (by omega), if_neg (by omega), if_neg (by omega), if_pos (by omega)]) fun h3 e1 H1 a0 a3 a4 => ?_
    refine L 3 _ _ 4 4096 hn (by omega) (fun _ => ixb3) w4 a0 a3 a4 (fun h => by unfold bucketI; rw [if_neg (by omega), if_neg (by omega), if_pos (by omega)]) fun h4 e1 H1 a0 a3 a4 => ?_
    refine L 4 _ _ 5 16384 hn (by omega) (fun _ => ixb4) w5 a0 a3 a4 (fun h => by unfold bucketI; rw [if_neg (by omega), if_pos (by omega)]) fun h5 e1 H1 a0 a3 a4 => ?_
    exact last _ _ a0 a3 ⟨5, a4, .inl (by omega)⟩ (by unfold bucketI; rw [if_pos (by omega)])
  · exact last _ _ (by simp only [go_sem, reduceCtorEq, Nat.reduceEqDiff, Nat.reduceAdd, Nat.reduceSub, Nat.reduceMul, Nat.reduceLeDiff, Int.reduceEq, Int.reduceLT, Int.reduceLE, Int.reduceAdd, Int.reduceMul, Int.reduceSub, Int.reduceNeg, Int.reduceToNat, reduceIte, Nat.reduceLT]) (by simp only [go_sem, reduceCtorEq, Nat.reduceEqDiff, Nat.reduceAdd, Nat.reduceSub, Nat.reduceMul, Nat.reduceLeDiff, Int.reduceEq, Int.reduceLT, Int.reduceLE, Int.reduceAdd, Int.reduceMul, Int.reduceSub, Int.reduceNeg, Int.reduceToNat, reduceIte, Nat.reduceLT]) ⟨0, by simp only [go_sem, reduceCtorEq, Nat.reduceEqDiff, Nat.reduceAdd, Nat.reduceSub, Nat.reduceMul, Nat.reduceLeDiff, Int.reduceEq, Int.reduceLT, Int.reduceLE, Int.reduceAdd, Int.reduceMul, Int.reduceSub, Int.reduceNeg, Int.reduceToNat, reduceIte, Nat.reduceLT], .inr hn⟩ (by unfold bucketI; rw [if_pos (by omega)])

end Go.Proofs.YtpjbjdicdjlmeaaDoor.Eng
