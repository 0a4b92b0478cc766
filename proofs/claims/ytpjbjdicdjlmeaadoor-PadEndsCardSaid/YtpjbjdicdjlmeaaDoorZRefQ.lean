/- The document's Pad: the same as the program's. No statement of the seat is proved here. -/
import Derived.Test.YtpjbjdicdjlmeaaDoorZRefP
namespace Go.Proofs.YtpjbjdicdjlmeaaDoor.Eng
open Go
set_option linter.unusedVariables false
set_option linter.unusedSimpArgs false

/-- The rows of a text's bytes. -/
def byteR (l : List UInt8) : List (List Cell) := l.map fun b => [Cell.int .u8 (b.toNat : Int)]
theorem byteR_len (l : List UInt8) : (byteR l).length = l.length := by simp [byteR]
theorem byteR_app (a b : List UInt8) : byteR (a ++ b) = byteR a ++ byteR b := by simp [byteR]
theorem takeB_byteR : ∀ l : List UInt8, takeBytes (byteR l) = some l
  | [] => rfl
  | b :: l => by
    have := takeB_byteR l
    unfold byteR at this ⊢
    simp [takeBytes, this]
theorem rows_str (s : ByteArray) : ((bytesOf s).map fun c => [c]) = byteR s.data.toList := by simp [bytesOf, byteR]
theorem byteR_zero (n : Nat) : byteR (List.replicate n 0) = List.replicate n [Cell.int .u8 0] := by simp [byteR]
theorem size_list (s : ByteArray) : s.data.toList.length = s.size := by simp only [Array.length_toList]; rfl

theorem repeatL_zero : ∀ c, Lib.repeatL [(0 : UInt8)] c = List.replicate c 0
  | 0 => rfl
  | c + 1 => by simp [Lib.repeatL, repeatL_zero c, List.replicate_succ]

theorem padS_list (s : ByteArray) : (padS s).data.toList = s.data.toList ++ 128 :: List.replicate ((bucketI s.size).toNat - s.size - 1) 0 := by
  unfold padS repS
  rw [ByteArray.data_append, ByteArray.data_append]
  simp [repeatL_zero]

theorem of_list {s : ByteArray} {l : List UInt8} (h : s.data.toList = l) : s = ⟨l.toArray⟩ := by
  subst h
  rfl

/-- Bytes that are read out of a block. -/
theorem b2s_at {b n : Nat} {l : List UInt8} {H : Heap} {k : Blk} (hk : H[b]? = some k) (hl : k.live = true) (hr : k.rows = byteR l) (hn : n = l.length) : vB2s (.c (.slc b 0 n 1 false)) H = some (sC ⟨l.toArray⟩, H) := by
  have hrr : Heap.rowsOf H (.slc b 0 n 1 false) = some (byteR l) := by
    simp only [Heap.rowsOf, hk, hl, hr]
    by_cases h0 : n = 0
    · subst h0
      have : l = [] := List.eq_nil_of_length_eq_zero hn.symm
      subst this; rfl
    · rw [if_neg h0, if_pos ⟨trivial, by rw [byteR_len]; omega⟩]
      simp only [List.drop_zero]
      rw [List.take_of_length_le (by rw [byteR_len]; omega)]
  simp only [vB2s, fitsSz, beq_self_eq_true, if_true, hrr, takeB_byteR]

theorem r1_Pad_no (s : ByteArray) (h : bucketI s.size = 0) : Pr 5 [sC s] (.agg [.str ⟨#[]⟩, .bool false]) := by
  refine pure_of mixed is_r1_Pad rfl fun hl T => ?_
  unfold c_r1_Pad
  simp only [go_sem, reduceCtorEq, Nat.reduceEqDiff, Nat.reduceAdd, Nat.reduceSub, Nat.reduceMul, Nat.reduceLeDiff, Int.reduceEq, Int.reduceLT, Int.reduceLE, Int.reduceAdd, Int.reduceMul, Int.reduceSub, Int.reduceNeg, Int.reduceToNat, reduceIte, Nat.reduceLT]
  refine callW_pure (r1_Bucket_ok _) ?_
  simp [go_sem, reduceCtorEq, Nat.reduceEqDiff, Nat.reduceAdd, Nat.reduceSub, Nat.reduceMul, Nat.reduceLeDiff, Int.reduceEq, Int.reduceLT, Int.reduceLE, Int.reduceAdd, Int.reduceMul, Int.reduceSub, Int.reduceNeg, Int.reduceToNat, reduceIte, Nat.reduceLT, h, viewA, viewFn, viewC, viewFs, viewCs, viewAs, closedC, closedCs]

theorem r1_Pad_ok (s : ByteArray) (h : bucketI s.size ≠ 0) : Pr 5 [sC s] (.agg [.str (padS s), .bool true]) := by
  obtain ⟨h1, h2, h3⟩ := (bucketI_cases s.size).resolve_left h
  have hpl := of_list (padS_list s)
  obtain ⟨m, hm⟩ : ∃ m : Nat, bucketI s.size = ((s.size + (m + 1) : Nat) : Int) := ⟨(bucketI s.size).toNat - s.size - 1, by omega⟩
  have hc : (bucketI s.size).toNat - s.size - 1 = m := by omega
  rw [hc] at hpl
  have hne : ¬ (((s.size + (m + 1) : Nat) : Int) = 0) := by omega
  have hmk : ∀ H : Heap, vMake 1 1 [.int .u8 0] (iC ((s.size + (m + 1) : Nat) : Int)) (iC ((s.size + (m + 1) : Nat) : Int)) H = some (.c (.slc H.length 0 (s.size + (m + 1)) 1 false), H ++ [{ sz := 1, rows := byteR (List.replicate (s.size + (m + 1)) 0) }]) := fun H => by
    have g1 : ((s.size + (m + 1) : Nat) : Int) * (1 : Nat) ≤ 140737488355328 ∧ ((s.size + (m + 1) : Nat) : Int) ≤ 9223372036854775807 := by omega
    have g2 : ((s.size + (m + 1) : Nat) == 0) = false := by simp
    simp only [vMake]
    rw [if_pos ⟨by omega, trivial, g1⟩]
    simp only [Int.toNat_natCast, g2, byteR_zero]
  have e1 : (byteR (List.replicate (s.size + (m + 1)) 0)).length = s.size + (m + 1) := by rw [byteR_len]; simp
  have e2 : (byteR s.data.toList).length = s.size := by rw [byteR_len, size_list]
  have hcp : ∀ K0 : Blk, vCpy 1 (.c (.slc 1 0 (s.size + (m + 1)) 1 false)) (sC s) [K0, { sz := 1, rows := byteR (List.replicate (s.size + (m + 1)) 0) }] =
      some (iC s.size, [K0, { sz := 1, rows := byteR (s.data.toList ++ List.replicate (m + 1) 0) }]) := fun K0 => by
    have e3 : List.drop s.size (byteR (List.replicate (s.size + (m + 1)) 0)) = byteR (List.replicate (m + 1) 0) := by
      rw [byteR_zero, List.drop_replicate, byteR_zero]
      congr 1
      omega
    simp only [vCpy, evCpy, Heap.rowsOf, rows_str, List.getElem?_cons_succ, List.getElem?_cons_zero]
    rw [if_pos (by refine ⟨?_, ?_, ?_, ?_, ?_, ?_, ?_⟩ <;> first | trivial | rfl | omega)]
    simp only [e2, List.take_zero, List.nil_append, Nat.zero_add, e3, byteR_app]
    rfl
  have hix : ∀ H : Heap, vIx 1 (.c (.slc 1 0 (s.size + (m + 1)) 1 false)) (iC s.size) H = some (.c (.ptr 1 s.size 0), H) := fun H => by
    simp only [vIx]
    rw [if_pos (by refine ⟨?_, ?_, ?_⟩ <;> first | trivial | rfl | omega)]
    simp
  have e3 : byteR (s.data.toList ++ List.replicate (m + 1) 0) = byteR s.data.toList ++ [Cell.int .u8 0] :: byteR (List.replicate m 0) := by
    rw [byteR_app, List.replicate_succ]; rfl
  have e4 : byteR (s.data.toList ++ 128 :: List.replicate m 0) = byteR s.data.toList ++ [Cell.int .u8 128] :: byteR (List.replicate m 0) := by
    rw [byteR_app]; rfl
  have hz : (byteR (s.data.toList ++ List.replicate (m + 1) 0))[s.size]? = some [Cell.int .u8 0] := by
    rw [e3, List.getElem?_append_right (by omega), e2]
    simp
  have hset : (byteR (s.data.toList ++ List.replicate (m + 1) 0)).set s.size [Cell.int .u8 128] = byteR (s.data.toList ++ 128 :: List.replicate m 0) := by
    rw [e3, e4, List.set_append_right _ _ (by omega), e2]
    simp
  have hb2 : ∀ K0 : Blk, vB2s (.c (.slc 1 0 (s.size + (m + 1)) 1 false)) [K0, { sz := 1, rows := byteR (s.data.toList ++ 128 :: List.replicate m 0) }] = some (sC (padS s), [K0, { sz := 1, rows := byteR (s.data.toList ++ 128 :: List.replicate m 0) }]) := fun K0 => by
    have := b2s_at (b := 1) (n := s.size + (m + 1)) (l := s.data.toList ++ 128 :: List.replicate m 0) (H := [K0, { sz := 1, rows := byteR (s.data.toList ++ 128 :: List.replicate m 0) }]) rfl rfl rfl (by rw [List.length_append, size_list]; simp)
    rw [this, ← hpl]
  clear e1 e2 e3 e4 hpl
  generalize padS s = p at *
  generalize byteR (s.data.toList ++ 128 :: List.replicate m 0) = Z2 at *
  generalize byteR (s.data.toList ++ List.replicate (m + 1) 0) = Z1 at *
  generalize byteR (List.replicate (s.size + (m + 1)) 0) = Z0 at *
  generalize s.size + (m + 1) = N at *
  have hrow : ∀ K0 : Blk, Heap.row [K0, { sz := 1, rows := Z1 }] 1 s.size = some [Cell.int .u8 0] := fun K0 => by simp [Heap.row, hz]
  have hmine : ∀ K0 : Blk, Heap.mine [K0, { sz := 1, rows := Z1 }] 1 = true := fun K0 => by simp [Heap.mine]
  have hput : ∀ K0 : Blk, Heap.put [K0, { sz := 1, rows := Z1 }] 1 s.size [Cell.int .u8 128] = [K0, { sz := 1, rows := Z2 }] := fun K0 => by simp [Heap.put, hset]
  refine pure_of mixed is_r1_Pad rfl fun hl T => ?_
  unfold c_r1_Pad
  simp only [go_sem, reduceCtorEq, Nat.reduceEqDiff, Nat.reduceAdd, Nat.reduceSub, Nat.reduceMul, Nat.reduceLeDiff, Int.reduceEq, Int.reduceLT, Int.reduceLE, Int.reduceAdd, Int.reduceMul, Int.reduceSub, Int.reduceNeg, Int.reduceToNat, reduceIte, Nat.reduceLT]
  refine callW_pure (r1_Bucket_ok _) ?_
  simp only [go_sem, reduceCtorEq, Nat.reduceEqDiff, Nat.reduceAdd, Nat.reduceSub, Nat.reduceMul, Nat.reduceLeDiff, Int.reduceEq, Int.reduceLT, Int.reduceLE, Int.reduceAdd, Int.reduceMul, Int.reduceSub, Int.reduceNeg, Int.reduceToNat, reduceIte, Nat.reduceLT, hm, hne, hmk, hcp, hix, hrow, hmine, hput, hb2]
  simp [viewA, viewFn, viewC, viewFs, viewCs, viewAs, closedC, closedCs]

end Go.Proofs.YtpjbjdicdjlmeaaDoor.Eng
