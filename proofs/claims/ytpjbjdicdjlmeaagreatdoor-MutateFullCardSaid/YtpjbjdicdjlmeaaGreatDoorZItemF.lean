/- Contract of the text of a number (two letters), and a block that is given up in the rows of others too. No statement of the seat is proved here. -/
import Derived.Test.YtpjbjdicdjlmeaaGreatDoorZFullT
import Derived.Test.YtpjbjdicdjlmeaaGreatDoorZLitB1
namespace Go.Proofs.YtpjbjdicdjlmeaaGreatDoor.Eng
open Go
set_option linter.unusedVariables false
set_option linter.unusedSimpArgs false

theorem l11_item_ok (i : Nat) (hi : i < 400) : Pr 4 [iC i] (sC (itemB i)) := by
  have w1 : IntKind.wrap .i64 (Int.tdiv (i : Int) 20) = ((i / 20 : Nat) : Int) := by
    rw [Int.tdiv_eq_ediv_of_nonneg (by omega), wrap64 (by omega)]; omega
  have w2 : IntKind.wrap .i64 (97 + ((i / 20 : Nat) : Int)) = ((97 + i / 20 : Nat) : Int) := by rw [wrap64 (by omega)]; omega
  have m1 : Int.tmod (i : Int) 20 = ((i % 20 : Nat) : Int) := by rw [Int.tmod_eq_emod_of_nonneg (by omega)]; omega
  have w3 : IntKind.wrap .i64 (97 + ((i % 20 : Nat) : Int)) = ((97 + i % 20 : Nat) : Int) := by rw [wrap64 (by omega)]; omega
  have u : ∀ n : Nat, n < 256 → IntKind.wrap .u8 (n : Int) = n := fun n h => by
    have : IntKind.wrap .u8 (n : Int) = (n : Int) % 256 := by simp [IntKind.wrap, IntKind.bits, IntKind.signed]
    rw [this]; omega
  have u1 := u (97 + i / 20) (by omega)
  have u2 := u (97 + i % 20) (by omega)
  have hb : ∀ H : Heap, vB2s (.c (.lst 1 [[.int .u8 ((97 + i / 20 : Nat) : Int)], [.int .u8 ((97 + i % 20 : Nat) : Int)]])) H = some (sC (itemB i), H) := fun H => by
    simp only [vB2s, fitsSz, beq_self_eq_true, if_true, Heap.rowsOf, takeBytes, Int.toNat_natCast]
    rfl
  have h20 : ¬ ((20 : Int) = 0) := by omega
  generalize ((97 + i / 20 : Nat) : Int) = x at *
  generalize ((97 + i % 20 : Nat) : Int) = y at *
  generalize ((i / 20 : Nat) : Int) = x0 at *
  generalize ((i % 20 : Nat) : Int) = y0 at *
  refine pure_of mixed is_l11_item rfl fun hl T => ?_
  unfold c_l11_item
  simp only [go_sem, reduceCtorEq, Nat.reduceEqDiff, Nat.reduceAdd, Nat.reduceSub, Nat.reduceMul, Nat.reduceLeDiff, Int.reduceEq, Int.reduceLT, Int.reduceLE, Int.reduceAdd, Int.reduceMul, Int.reduceSub, Int.reduceNeg, Int.reduceToNat, reduceIte, Nat.reduceLT, h20, w1, w2, w3, m1, u1, u2, hb]
  simp [viewA, viewFn, viewC, viewFs, viewCs, viewAs, closedC, closedCs]

theorem run_fzH {G : Prog} {p : Post} {kk : List Itm} {t : Nat} {c : ACode} {e : Env} {H : Heap} {b : Nat} {q : Blk} (h1 : (e t).blk = some b) (h2 : H[b]? = some q) (h3 : q.own = true) (h4 : q.live = true)
    (h : Run G p (.code c :: kk) (frzEnv b q e) (H.frzH b q)) : Run G p (.code (.fz t c) :: kk) e H := by
  obtain ⟨x, e1, H1, h5, h6⟩ := h
  exact ⟨x, e1, H1, .fzH h1 h2 h3 h4 h5, h6⟩

end Go.Proofs.YtpjbjdicdjlmeaaGreatDoor.Eng
