/- Contracts of the laws' own lists of dots. No statement of the seat is proved here. -/
import Derived.Test.YtjjmeoeaimfiiaaZPartC
import Derived.Test.YtjjmeoeaimfiiaaZDots0
import Derived.Test.YtjjmeoeaimfiiaaZMerge
import Derived.Test.YtjjmeoeaimfiiaaZLitO
namespace Go.Proofs.Ytjjmeoeaimfiiaa.Eng
open Go
set_option linter.unusedVariables false
set_option linter.unusedSimpArgs false

def bDot (n : Nat) : Dot := ⟨((n % 4 : Nat) : Int), 1 + ((n / 4 % 20 : Nat) : Int)⟩
def listD (l : List Nat) : List Dot := l.map bDot
theorem bDot_right (n : Nat) : (ofDot (bDot n)).right = true := by
  rw [Rn.right_iff]
  exact ⟨by simp only [ofDot, bDot]; omega, by simp only [ofDot, bDot]; omega, by simp only [ofDot, bDot]; omega, by simp only [ofDot, bDot]; omega, by simp only [ofDot, bDot]; omega⟩

theorem l7_List_ok (l : List Nat) (hs : Sm l) (hb : ∀ n ∈ l, n < 256) : Pr 27 [.c (bytesC l)] (.c (dotsC (listD l))) := by
  refine pure_ofW mixed is_l7_List (by simp [closedAs, closedA, closedC, bytesC, closed_bytes]) fun hl T => ?_
  have hlen : l.length ≤ maxLen := by unfold maxLen; unfold Sm at hs; omega
  unfold c_l7_List
  dsimp only [bytesC]
  generalize hv : listD l = v
  simp only [go_sem, reduceCtorEq, Nat.reduceEqDiff, Nat.reduceAdd, Nat.reduceSub, Nat.reduceMul, Nat.reduceLeDiff, Int.reduceEq, Int.reduceLT, Int.reduceLE, Int.reduceAdd, Int.reduceMul, Int.reduceSub, Int.reduceNeg, Int.reduceToNat, reduceIte, Nat.reduceLT]
  have loop : ∀ (rest pre : List Nat) (e : Env) (H : Heap), l = pre ++ rest → e 0 = .c (.lst 1 (l.map byteC)) → e 4 = iC pre.length → Acc 2 ((listD pre).map Dot.cells) (e 3) H →
      Run (progT Try.prog T) ⟨[.tmp 2], fun u E => viewW E u (.c (dotsC v))⟩ [.loop l7_List_L0, .blk 0, .code l7_List_K1] e H := by
    intro rest
    induction rest with
    | nil =>
      intro pre e H hp h0 h4 hacc
      have hc := not_lt_at (f := byteC) hp
      refine run_again ?_
      conv => enter [3, 1]; unfold l7_List_L0
      simp only [go_sem, reduceCtorEq, Nat.reduceEqDiff, Nat.reduceAdd, Nat.reduceSub, Nat.reduceMul, Nat.reduceLeDiff, Int.reduceEq, Int.reduceLT, Int.reduceLE, Int.reduceAdd, Int.reduceMul, Int.reduceSub, Int.reduceNeg, Int.reduceToNat, reduceIte, Nat.reduceLT, h0, h4, hc]
      unfold l7_List_K1
      simp only [go_sem, reduceCtorEq, Nat.reduceEqDiff, Nat.reduceAdd, Nat.reduceSub, Nat.reduceMul, Nat.reduceLeDiff, Int.reduceEq, Int.reduceLT, Int.reduceLE, Int.reduceAdd, Int.reduceMul, Int.reduceSub, Int.reduceNeg, Int.reduceToNat, reduceIte, Nat.reduceLT]
      have hv2 : listD pre = v := by rw [← hv, hp]; simp
      rw [hv2] at hacc
      exact hacc.told (closed_dots v)
    | cons n rest ih =>
      intro pre e H hp h0 h4 hacc
      have hc := lt_at (f := byteC) hp
      have hr := map_at' (f := byteC) hp
      have hn := next_at hp hlen
      have hn256 := hb n (by rw [hp]; simp)
      have w1 : IntKind.wrap .i64 (n : Int) = (n : Int) := wrap64 (by omega)
      have w2 : (n : Int).tmod 4 = ((n % 4 : Nat) : Int) := by rw [Int.tmod_eq_emod_of_nonneg (by omega)]; omega
      have w3 : IntKind.wrap .i64 ((n : Int).tdiv 4) = ((n / 4 : Nat) : Int) := by
        have : (n : Int).tdiv 4 = ((n / 4 : Nat) : Int) := by rw [Int.tdiv_eq_ediv_of_nonneg (by omega)]; omega
        rw [this, wrap64 (by omega)]
      have w4 : ((n / 4 : Nat) : Int).tmod 20 = ((n / 4 % 20 : Nat) : Int) := by rw [Int.tmod_eq_emod_of_nonneg (by omega)]; omega
      have w5 : IntKind.wrap .i64 (1 + ((n / 4 % 20 : Nat) : Int)) = 1 + ((n / 4 % 20 : Nat) : Int) := wrap64 (by omega)
      have hpl : pre.length < l.length := by rw [hp]; simp
      refine run_again ?_
      conv => enter [3, 1]; unfold l7_List_L0
      simp only [go_sem, reduceCtorEq, Nat.reduceEqDiff, Nat.reduceAdd, Nat.reduceSub, Nat.reduceMul, Nat.reduceLeDiff, Int.reduceEq, Int.reduceLT, Int.reduceLE, Int.reduceAdd, Int.reduceMul, Int.reduceSub, Int.reduceNeg, Int.reduceToNat, reduceIte, Nat.reduceLT, h0, h4, hc, hr, w1, vBin_rem, vBin_quo, w2, w3, w4, w5]
      refine hacc.app_step (by unfold Sm at hs; simp [listD]; omega) fun v' H' ha' => ?_
      simp only [go_sem, reduceCtorEq, Nat.reduceEqDiff, Nat.reduceAdd, Nat.reduceSub, Nat.reduceMul, Nat.reduceLeDiff, Int.reduceEq, Int.reduceLT, Int.reduceLE, Int.reduceAdd, Int.reduceMul, Int.reduceSub, Int.reduceNeg, Int.reduceToNat, reduceIte, Nat.reduceLT, h4, hn]
      refine ih (pre ++ [n]) _ _ (by rw [hp]; simp) ?_ ?_ ?_
      · simp only [go_sem, reduceCtorEq, Nat.reduceEqDiff, Nat.reduceAdd, Nat.reduceSub, Nat.reduceMul, Nat.reduceLeDiff, Int.reduceEq, Int.reduceLT, Int.reduceLE, Int.reduceAdd, Int.reduceMul, Int.reduceSub, Int.reduceNeg, Int.reduceToNat, reduceIte, Nat.reduceLT, h0]
      · simp only [go_sem, reduceCtorEq, Nat.reduceEqDiff, Nat.reduceAdd, Nat.reduceSub, Nat.reduceMul, Nat.reduceLeDiff, Int.reduceEq, Int.reduceLT, Int.reduceLE, Int.reduceAdd, Int.reduceMul, Int.reduceSub, Int.reduceNeg, Int.reduceToNat, reduceIte, Nat.reduceLT]
      · simp only [go_sem, reduceCtorEq, Nat.reduceEqDiff, Nat.reduceAdd, Nat.reduceSub, Nat.reduceMul, Nat.reduceLeDiff, Int.reduceEq, Int.reduceLT, Int.reduceLE, Int.reduceAdd, Int.reduceMul, Int.reduceSub, Int.reduceNeg, Int.reduceToNat, reduceIte, Nat.reduceLT]; simpa [listD, bDot, Dot.cells] using ha'
  refine loop l [] _ _ rfl ?_ ?_ ?_
  · simp only [go_sem, reduceCtorEq, Nat.reduceEqDiff, Nat.reduceAdd, Nat.reduceSub, Nat.reduceMul, Nat.reduceLeDiff, Int.reduceEq, Int.reduceLT, Int.reduceLE, Int.reduceAdd, Int.reduceMul, Int.reduceSub, Int.reduceNeg, Int.reduceToNat, reduceIte, Nat.reduceLT]
  · simp only [go_sem, reduceCtorEq, Nat.reduceEqDiff, Nat.reduceAdd, Nat.reduceSub, Nat.reduceMul, Nat.reduceLeDiff, Int.reduceEq, Int.reduceLT, Int.reduceLE, Int.reduceAdd, Int.reduceMul, Int.reduceSub, Int.reduceNeg, Int.reduceToNat, reduceIte, Nat.reduceLT]
  · simp only [go_sem, reduceCtorEq, Nat.reduceEqDiff, Nat.reduceAdd, Nat.reduceSub, Nat.reduceMul, Nat.reduceLeDiff, Int.reduceEq, Int.reduceLT, Int.reduceLE, Int.reduceAdd, Int.reduceMul, Int.reduceSub, Int.reduceNeg, Int.reduceToNat, reduceIte, Nat.reduceLT]; exact .nil

end Go.Proofs.Ytjjmeoeaimfiiaa.Eng
