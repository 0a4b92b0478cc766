/- The law PadEnds: its call comes to true. -/
import Derived.Test.YtpjbjdicdjlmeaaDoorZRefQ
namespace Go.Proofs.YtpjbjdicdjlmeaaDoor.Eng
open Go
set_option linter.unusedVariables false
set_option linter.unusedSimpArgs false

theorem mk_size (l : List UInt8) : (⟨l.toArray⟩ : ByteArray).size = l.length := by
  show l.toArray.size = _
  simp

theorem trim_end (X : List UInt8) (c : UInt8) (r : Nat) (hc : c ≠ 0) : trimS ⟨(X ++ c :: List.replicate r 0).toArray⟩ = ⟨(X ++ [c]).toArray⟩ := by
  unfold trimS Lib.trimRightB
  have h2 : (X ++ c :: List.replicate r (0 : UInt8)).reverse = List.replicate r 0 ++ (c :: X.reverse) := by simp
  have h3 : ∀ r, (List.replicate r (0 : UInt8) ++ (c :: X.reverse)).dropWhile (· == 0) = c :: X.reverse := fun r => by
    induction r with
    | zero => simp [List.dropWhile_cons, hc]
    | succ r ih => simp [List.replicate_succ, ih]
  simp only [h2, h3]
  simp

theorem ends_one (X : List UInt8) (c : UInt8) : endsS ⟨(X ++ [c]).toArray⟩ ⟨#[128]⟩ = decide (c = 128) := by
  unfold endsS Lib.hasSuffix
  by_cases h : c = 128
  · subst h; simp
  · simp [List.isSuffixOf, List.isPrefixOf, h]
    exact fun h' => h h'.symm

theorem unpad_nought (n : Nat) : unpadS ⟨(List.replicate n (0 : UInt8)).toArray⟩ = (⟨#[]⟩, false) := by
  have h : trimS ⟨(List.replicate n (0 : UInt8)).toArray⟩ = ⟨#[]⟩ := by
    unfold trimS Lib.trimRightB
    simp
  unfold unpadS
  rw [h, if_neg]
  intro h'
  exact absurd h'.1 (by decide)

theorem unpad_one (X : List UInt8) : unpadS ⟨(X ++ [1]).toArray⟩ = (⟨#[]⟩, false) := by
  have h := trim_end X 1 0 (by decide)
  have e : X ++ (1 : UInt8) :: List.replicate 0 0 = X ++ [1] := rfl
  rw [e] at h
  have h2 := ends_one X 1
  unfold unpadS
  rw [h, h2, if_neg]
  intro h'
  exact absurd h'.1 (by decide)

theorem unpad_more (X : List UInt8) (r : Nat) (h : bucketI X.length ≠ ((X.length + 1 + r : Nat) : Int)) : unpadS ⟨(X ++ 128 :: List.replicate r 0).toArray⟩ = (⟨#[]⟩, false) := by
  have hs := mk_size (X ++ 128 :: List.replicate r 0)
  simp only [List.length_append, List.length_cons, List.length_replicate] at hs
  have hcut : cutS ⟨(X ++ [128]).toArray⟩ ⟨#[128]⟩ = ⟨X.toArray⟩ := by
    unfold cutS Lib.trimSuffix Lib.hasSuffix
    simp
  unfold unpadS
  rw [trim_end X 128 r (by decide), hcut, hs, mk_size, if_neg]
  intro h'
  apply h
  rw [h'.2]
  congr 1
  omega

theorem bucketI_vals (n : Int) : bucketI n = 0 ∨ bucketI n = 64 ∨ bucketI n = 256 ∨ bucketI n = 1024 ∨ bucketI n = 4096 ∨ bucketI n = 16384 := by
  unfold bucketI
  repeat' split
  all_goals omega

/-- The first bytes that are read out of a block. -/
theorem b2s_take {b n : Nat} {l : List UInt8} {H : Heap} {k : Blk} (hk : H[b]? = some k) (hl : k.live = true) (hr : k.rows = byteR l) (hn : n ≤ l.length) (h0 : n ≠ 0) : vB2s (.c (.slc b 0 n 1 false)) H = some (sC ⟨(l.take n).toArray⟩, H) := by
  have hrr : Heap.rowsOf H (.slc b 0 n 1 false) = some (byteR (l.take n)) := by
    simp only [Heap.rowsOf, hk, hl, hr]
    rw [if_neg h0, if_pos ⟨trivial, by rw [byteR_len]; omega⟩]
    simp only [List.drop_zero]
    unfold byteR
    rw [List.map_take]
  simp only [vB2s, fitsSz, beq_self_eq_true, if_true, hrr, takeB_byteR]

theorem appM_bytes {n l : Nat} {P : List UInt8} (hP : P.length = n) (h0 : 0 < l) (hs : n + l ≤ 100000) : ∀ k : Blk, k.own = true → k.live = true → k.rows = byteR P →
    vAppM 1 1 [.int .u8 0] (.c (.slc 0 0 n 1 false)) (iC (l : Int)) [k] = some (.c (.slc 1 0 (n + l) 1 false), [{ k with live := false }, { sz := 1, rows := byteR (P ++ List.replicate l 0) }]) := by
  intro k ho hl hr
  have hc : (0 < (l : Int) ∧ (l : Int) ≤ 9223372036854775807 ∧ (l : Int) * ((1 : Nat) : Int) ≤ 140737488355328) ∧ 0 = 0 ∧ false = false ∧ 1 = 1 := by
    refine ⟨⟨?_, ?_, ?_⟩, rfl, rfl, rfl⟩ <;> omega
  have hlen : (byteR P).length = n := by rw [byteR_len, hP]
  have htk : (byteR P).take n = byteR P := List.take_of_length_le (by omega)
  simp only [vAppM]
  rw [if_pos ⟨hc.1, trivial, trivial, trivial⟩]
  unfold evAppR
  rw [if_pos (by simp only [List.length_replicate, Int.toNat_natCast]; omega)]
  simp only [List.getElem?_cons_zero]
  rw [if_pos ⟨ho, hl, by rw [hr, hlen]; omega⟩]
  simp only [Int.toNat_natCast, List.length_replicate, hr, htk, byteR_app, byteR_zero]
  rfl

theorem l5_PadEnds_law (s : ByteArray) (ys : s.size ≤ maxLen) (n : Int) (wn : IntKind.min .u8 ≤ n ∧ n ≤ IntKind.max .u8) : Pr 3 [sC s, .c (.int .u8 n)] (bC true) := by
  by_cases h50 : (s.size : Int) > 50
  · refine pure_of mixed is_l5_PadEnds rfl fun hl T => ?_
    unfold c_l5_PadEnds
    simp only [go_sem, reduceCtorEq, Nat.reduceEqDiff, Nat.reduceAdd, Nat.reduceSub, Nat.reduceMul, Nat.reduceLeDiff, Int.reduceEq, Int.reduceLT, Int.reduceLE, Int.reduceAdd, Int.reduceMul, Int.reduceSub, Int.reduceNeg, Int.reduceToNat, reduceIte, Nat.reduceLT, h50]
    refine callW_pure l5_awake_ok ?_
    simp [go_sem, reduceCtorEq, Nat.reduceEqDiff, Nat.reduceAdd, Nat.reduceSub, Nat.reduceMul, Nat.reduceLeDiff, Int.reduceEq, Int.reduceLT, Int.reduceLE, Int.reduceAdd, Int.reduceMul, Int.reduceSub, Int.reduceNeg, Int.reduceToNat, reduceIte, Nat.reduceLT, viewA, viewFn, viewC, viewFs, viewCs, viewAs, closedC, closedCs]
  · have hb : bucketI s.size = 64 := by
      unfold bucketI
      rw [if_neg (by omega), if_neg (by omega), if_neg (by omega), if_neg (by omega), if_neg (by omega)]
    have c1 := r1_Pad_ok s (by omega)
    have u := unpad_pad s (by omega)
    have hpl := padS_list s
    have hps := padS_size (s := s) (by omega)
    have hm : (bucketI s.size).toNat - s.size - 1 = 63 - s.size := by omega
    rw [hm] at hpl
    have e1 := unpad_more s.data.toList (63 - s.size + 192) (by rw [size_list, hb]; omega)
    have e1' : s.data.toList ++ 128 :: List.replicate (63 - s.size + 192) 0 = (padS s).data.toList ++ List.replicate 192 0 := by
      rw [hpl, List.append_assoc, List.cons_append, List.replicate_append_replicate]
    rw [e1'] at e1
    have hsl := size_list (padS s)
    have hrs := rows_str (padS s)
    have hpe : padS s = ⟨(padS s).data.toList.toArray⟩ := of_list rfl
    generalize padS s = p at *
    obtain ⟨P, hP⟩ : ∃ P, P = p.data.toList := ⟨_, rfl⟩
    rw [← hP] at e1 hsl hrs hpe
    have hps64 : p.size = 64 := by omega
    have hP64 : P.length = 64 := by omega
    have e2 := unpad_no ⟨(P.take 63).toArray⟩ (fun k => by
      have := bucketI_vals k
      rw [mk_size, List.length_take, hP64]
      omega)
    have e3 := unpad_one (P.take 63)
    have e0 := unpad_nought 64
    have e4 : unpadS ⟨#[]⟩ = (⟨#[]⟩, false) := rfl
    have sz0 : (⟨(List.replicate 64 (0 : UInt8)).toArray⟩ : ByteArray).size = 64 := by rw [mk_size, List.length_replicate]
    have sz1 : (⟨(P ++ List.replicate 192 (0 : UInt8)).toArray⟩ : ByteArray).size = 256 := by rw [mk_size, List.length_append, List.length_replicate, hP64]
    have sz2 : (⟨(P.take 63).toArray⟩ : ByteArray).size = 63 := by rw [mk_size, List.length_take, hP64]; rfl
    have sz3 : (⟨(P.take 63 ++ [1]).toArray⟩ : ByteArray).size = 64 := by rw [mk_size, List.length_append, List.length_take, hP64]; rfl
    have v0 := pad_Unpad_ok _ (show (⟨(List.replicate 64 (0 : UInt8)).toArray⟩ : ByteArray).size ≤ 9223372036854775807 by omega)
    have v1 := pad_Unpad_ok _ (show (⟨(P ++ List.replicate 192 (0 : UInt8)).toArray⟩ : ByteArray).size ≤ 9223372036854775807 by omega)
    have v2 := pad_Unpad_ok _ (show (⟨(P.take 63).toArray⟩ : ByteArray).size ≤ 9223372036854775807 by omega)
    have v3 := pad_Unpad_ok _ (show (⟨(P.take 63 ++ [1]).toArray⟩ : ByteArray).size ≤ 9223372036854775807 by omega)
    have v4 := pad_Unpad_ok ⟨#[]⟩ (by decide)
    have vp := pad_Unpad_ok p (by omega)
    rw [e0] at v0
    rw [e1] at v1
    rw [e2] at v2
    rw [e3] at v3
    rw [e4] at v4
    rw [u] at vp
    -- the heap's words
    obtain ⟨B, hB⟩ : ∃ B : Blk, B = { sz := 1, rows := byteR P } := ⟨_, rfl⟩
    have hs2 : ∀ H : Heap, vS2b (sC p) H = some (.c (.slc H.length 0 64 1 false), H ++ [B]) := fun H => by
      simp only [vS2b]
      rw [if_pos (by omega), hrs, hps64, hB]
    obtain ⟨Z, hZ⟩ : ∃ Z : Blk, Z = { sz := 1, rows := byteR (List.replicate 64 0) } := ⟨_, rfl⟩
    have hmk : ∀ H : Heap, vMake 1 1 [.int .u8 0] (iC 64) (iC 64) H = some (.c (.slc H.length 0 64 1 false), H ++ [Z]) := fun H => by
      rw [hZ, byteR_zero]; rfl
    have b0 : vB2s (.c (.slc 1 0 64 1 false)) [B, Z] = some (sC ⟨(List.replicate 64 (0 : UInt8)).toArray⟩, [B, Z]) := b2s_at rfl (by rw [hZ]) (by rw [hZ]) (by rw [List.length_replicate])
    obtain ⟨Z1, hZ1⟩ : ∃ Z : Blk, Z = { sz := 1, rows := byteR (P ++ List.replicate 192 0) } := ⟨_, rfl⟩
    obtain ⟨D, hD⟩ : ∃ D : Blk, D = { B with live := false } := ⟨_, rfl⟩
    have hap : vAppM 1 1 [.int .u8 0] (.c (.slc 0 0 64 1 false)) (iC 192) [B] = some (.c (.slc 1 0 256 1 false), [D, Z1]) := by
      have := appM_bytes (l := 192) hP64 (by omega) (by omega) B (by rw [hB]) (by rw [hB]) (by rw [hB])
      rw [hD, hZ1]
      exact this
    have b1 : vB2s (.c (.slc 1 0 256 1 false)) [D, Z1] = some (sC ⟨(P ++ List.replicate 192 (0 : UInt8)).toArray⟩, [D, Z1]) := b2s_at rfl (by rw [hZ1]) (by rw [hZ1]) (by rw [List.length_append, List.length_replicate, hP64])
    have hsc : ∀ (e : Env) (H : Heap), vSl 1 (.c (.slc 0 0 64 1 false)) e none (some (.k (.c (.int .i64 63)))) none H = some (.c (.slc 0 0 63 1 false), H) := fun e H => vSl_slc_hi (q := 63) rfl (by omega)
    have b2 : vB2s (.c (.slc 0 0 63 1 false)) [B] = some (sC ⟨(P.take 63).toArray⟩, [B]) := b2s_take rfl (by rw [hB]) (by rw [hB]) (by omega) (by omega)
    have hix : ∀ H : Heap, vIx 1 (.c (.slc 0 0 64 1 false)) (iC 63) H = some (.c (.ptr 0 63 0), H) := fun H => rfl
    have h63 : 63 < (byteR P).length := by rw [byteR_len]; omega
    obtain ⟨x, hx⟩ : ∃ x : Int, (byteR P)[63]? = some [.int .u8 x] := by
      refine ⟨(P[63]'(by omega)).toNat, ?_⟩
      unfold byteR
      rw [List.getElem?_map, List.getElem?_eq_getElem (by omega)]
      rfl
    have hset : (byteR P).set 63 [Cell.int .u8 1] = byteR (P.take 63 ++ [1]) := by
      have hPs : P = P.take 63 ++ [P[63]'(by omega)] := by
        rw [List.take_append_getElem (by omega)]
        exact (List.take_of_length_le (by omega)).symm
      have hl : (byteR (P.take 63)).length = 63 := by rw [byteR_len, List.length_take]; omega
      conv => lhs; rw [hPs]
      rw [byteR_app, byteR_app, List.set_append_right _ _ (by omega), hl]
      rfl
    obtain ⟨B3, hB3⟩ : ∃ B : Blk, B = { sz := 1, rows := byteR (P.take 63 ++ [1]) } := ⟨_, rfl⟩
    have hrow : Heap.row [B] 0 63 = some [Cell.int .u8 x] := by simp [Heap.row, hB, hx]
    have hmine : Heap.mine [B] 0 = true := by simp [Heap.mine, hB]
    have hput : Heap.put [B] 0 63 [Cell.int .u8 1] = [B3] := by simp [Heap.put, hB, hB3, hset]
    have b3 : vB2s (.c (.slc 0 0 64 1 false)) [B3] = some (sC ⟨(P.take 63 ++ [1]).toArray⟩, [B3]) := b2s_at rfl (by rw [hB3]) (by rw [hB3]) (by rw [List.length_append, List.length_take, hP64]; rfl)
    have b4 : ∀ H : Heap, vB2s (.c .nilS) H = some (sC ⟨#[]⟩, H) := fun H => rfl
    clear hB hZ hZ1 hD hB3 hset hx e0 e1 e2 e3 e1' hpl hrs hpe u
    generalize (⟨(List.replicate 64 (0 : UInt8)).toArray⟩ : ByteArray) = x0 at *
    generalize (⟨(P ++ List.replicate 192 (0 : UInt8)).toArray⟩ : ByteArray) = x1 at *
    generalize (⟨(P.take 63).toArray⟩ : ByteArray) = x2 at *
    generalize (⟨(P.take 63 ++ [1]).toArray⟩ : ByteArray) = x3 at *
    refine pure_of mixed is_l5_PadEnds rfl fun hl T => ?_
    unfold c_l5_PadEnds
    simp only [go_sem, reduceCtorEq, Nat.reduceEqDiff, Nat.reduceAdd, Nat.reduceSub, Nat.reduceMul, Nat.reduceLeDiff, Int.reduceEq, Int.reduceLT, Int.reduceLE, Int.reduceAdd, Int.reduceMul, Int.reduceSub, Int.reduceNeg, Int.reduceToNat, reduceIte, Nat.reduceLT, h50]
    refine callW_pure c1 ?_
    simp only [go_sem, reduceCtorEq, Nat.reduceEqDiff, Nat.reduceAdd, Nat.reduceSub, Nat.reduceMul, Nat.reduceLeDiff, Int.reduceEq, Int.reduceLT, Int.reduceLE, Int.reduceAdd, Int.reduceMul, Int.reduceSub, Int.reduceNeg, Int.reduceToNat, reduceIte, Nat.reduceLT, hs2]
    have h5 : ¬ ((5 : Int) = 0) := by omega
    by_cases k0 : Int.tmod n 5 = 0
    · simp only [go_sem, reduceCtorEq, Nat.reduceEqDiff, Nat.reduceAdd, Nat.reduceSub, Nat.reduceMul, Nat.reduceLeDiff, Int.reduceEq, Int.reduceLT, Int.reduceLE, Int.reduceAdd, Int.reduceMul, Int.reduceSub, Int.reduceNeg, Int.reduceToNat, reduceIte, Nat.reduceLT, h5, k0, hmk, b0]
      refine callW_pure v0 ?_
      simp only [go_sem, reduceCtorEq, Nat.reduceEqDiff, Nat.reduceAdd, Nat.reduceSub, Nat.reduceMul, Nat.reduceLeDiff, Int.reduceEq, Int.reduceLT, Int.reduceLE, Int.reduceAdd, Int.reduceMul, Int.reduceSub, Int.reduceNeg, Int.reduceToNat, reduceIte, Nat.reduceLT]
      refine callW_pure vp ?_
      simp only [go_sem, reduceCtorEq, Nat.reduceEqDiff, Nat.reduceAdd, Nat.reduceSub, Nat.reduceMul, Nat.reduceLeDiff, Int.reduceEq, Int.reduceLT, Int.reduceLE, Int.reduceAdd, Int.reduceMul, Int.reduceSub, Int.reduceNeg, Int.reduceToNat, reduceIte, Nat.reduceLT]
      refine callW_pure l5_awake_ok ?_
      simp [go_sem, reduceCtorEq, Nat.reduceEqDiff, Nat.reduceAdd, Nat.reduceSub, Nat.reduceMul, Nat.reduceLeDiff, Int.reduceEq, Int.reduceLT, Int.reduceLE, Int.reduceAdd, Int.reduceMul, Int.reduceSub, Int.reduceNeg, Int.reduceToNat, reduceIte, Nat.reduceLT, viewA, viewFn, viewC, viewFs, viewCs, viewAs, closedC, closedCs]
    · by_cases k1 : Int.tmod n 5 = 1
      · simp only [go_sem, reduceCtorEq, Nat.reduceEqDiff, Nat.reduceAdd, Nat.reduceSub, Nat.reduceMul, Nat.reduceLeDiff, Int.reduceEq, Int.reduceLT, Int.reduceLE, Int.reduceAdd, Int.reduceMul, Int.reduceSub, Int.reduceNeg, Int.reduceToNat, reduceIte, Nat.reduceLT, h5, k0, k1, hap, b1]
        refine callW_pure v1 ?_
        simp only [go_sem, reduceCtorEq, Nat.reduceEqDiff, Nat.reduceAdd, Nat.reduceSub, Nat.reduceMul, Nat.reduceLeDiff, Int.reduceEq, Int.reduceLT, Int.reduceLE, Int.reduceAdd, Int.reduceMul, Int.reduceSub, Int.reduceNeg, Int.reduceToNat, reduceIte, Nat.reduceLT]
        refine callW_pure vp ?_
        simp only [go_sem, reduceCtorEq, Nat.reduceEqDiff, Nat.reduceAdd, Nat.reduceSub, Nat.reduceMul, Nat.reduceLeDiff, Int.reduceEq, Int.reduceLT, Int.reduceLE, Int.reduceAdd, Int.reduceMul, Int.reduceSub, Int.reduceNeg, Int.reduceToNat, reduceIte, Nat.reduceLT]
        refine callW_pure l5_awake_ok ?_
        simp [go_sem, reduceCtorEq, Nat.reduceEqDiff, Nat.reduceAdd, Nat.reduceSub, Nat.reduceMul, Nat.reduceLeDiff, Int.reduceEq, Int.reduceLT, Int.reduceLE, Int.reduceAdd, Int.reduceMul, Int.reduceSub, Int.reduceNeg, Int.reduceToNat, reduceIte, Nat.reduceLT, viewA, viewFn, viewC, viewFs, viewCs, viewAs, closedC, closedCs]
      · by_cases k2 : Int.tmod n 5 = 2
        · simp only [go_sem, reduceCtorEq, Nat.reduceEqDiff, Nat.reduceAdd, Nat.reduceSub, Nat.reduceMul, Nat.reduceLeDiff, Int.reduceEq, Int.reduceLT, Int.reduceLE, Int.reduceAdd, Int.reduceMul, Int.reduceSub, Int.reduceNeg, Int.reduceToNat, reduceIte, Nat.reduceLT, h5, k0, k1, k2, hsc, b2]
          refine callW_pure v2 ?_
          simp only [go_sem, reduceCtorEq, Nat.reduceEqDiff, Nat.reduceAdd, Nat.reduceSub, Nat.reduceMul, Nat.reduceLeDiff, Int.reduceEq, Int.reduceLT, Int.reduceLE, Int.reduceAdd, Int.reduceMul, Int.reduceSub, Int.reduceNeg, Int.reduceToNat, reduceIte, Nat.reduceLT]
          refine callW_pure vp ?_
          simp only [go_sem, reduceCtorEq, Nat.reduceEqDiff, Nat.reduceAdd, Nat.reduceSub, Nat.reduceMul, Nat.reduceLeDiff, Int.reduceEq, Int.reduceLT, Int.reduceLE, Int.reduceAdd, Int.reduceMul, Int.reduceSub, Int.reduceNeg, Int.reduceToNat, reduceIte, Nat.reduceLT]
          refine callW_pure l5_awake_ok ?_
          simp [go_sem, reduceCtorEq, Nat.reduceEqDiff, Nat.reduceAdd, Nat.reduceSub, Nat.reduceMul, Nat.reduceLeDiff, Int.reduceEq, Int.reduceLT, Int.reduceLE, Int.reduceAdd, Int.reduceMul, Int.reduceSub, Int.reduceNeg, Int.reduceToNat, reduceIte, Nat.reduceLT, viewA, viewFn, viewC, viewFs, viewCs, viewAs, closedC, closedCs]
        · by_cases k3 : Int.tmod n 5 = 3
          · simp only [go_sem, reduceCtorEq, Nat.reduceEqDiff, Nat.reduceAdd, Nat.reduceSub, Nat.reduceMul, Nat.reduceLeDiff, Int.reduceEq, Int.reduceLT, Int.reduceLE, Int.reduceAdd, Int.reduceMul, Int.reduceSub, Int.reduceNeg, Int.reduceToNat, reduceIte, Nat.reduceLT, h5, k0, k1, k2, k3, hix, hrow, hmine, hput, b3]
            refine callW_pure v3 ?_
            simp only [go_sem, reduceCtorEq, Nat.reduceEqDiff, Nat.reduceAdd, Nat.reduceSub, Nat.reduceMul, Nat.reduceLeDiff, Int.reduceEq, Int.reduceLT, Int.reduceLE, Int.reduceAdd, Int.reduceMul, Int.reduceSub, Int.reduceNeg, Int.reduceToNat, reduceIte, Nat.reduceLT]
            refine callW_pure vp ?_
            simp only [go_sem, reduceCtorEq, Nat.reduceEqDiff, Nat.reduceAdd, Nat.reduceSub, Nat.reduceMul, Nat.reduceLeDiff, Int.reduceEq, Int.reduceLT, Int.reduceLE, Int.reduceAdd, Int.reduceMul, Int.reduceSub, Int.reduceNeg, Int.reduceToNat, reduceIte, Nat.reduceLT]
            refine callW_pure l5_awake_ok ?_
            simp [go_sem, reduceCtorEq, Nat.reduceEqDiff, Nat.reduceAdd, Nat.reduceSub, Nat.reduceMul, Nat.reduceLeDiff, Int.reduceEq, Int.reduceLT, Int.reduceLE, Int.reduceAdd, Int.reduceMul, Int.reduceSub, Int.reduceNeg, Int.reduceToNat, reduceIte, Nat.reduceLT, viewA, viewFn, viewC, viewFs, viewCs, viewAs, closedC, closedCs]
          · simp only [go_sem, reduceCtorEq, Nat.reduceEqDiff, Nat.reduceAdd, Nat.reduceSub, Nat.reduceMul, Nat.reduceLeDiff, Int.reduceEq, Int.reduceLT, Int.reduceLE, Int.reduceAdd, Int.reduceMul, Int.reduceSub, Int.reduceNeg, Int.reduceToNat, reduceIte, Nat.reduceLT, h5, k0, k1, k2, k3, b4]
            refine callW_pure v4 ?_
            simp only [go_sem, reduceCtorEq, Nat.reduceEqDiff, Nat.reduceAdd, Nat.reduceSub, Nat.reduceMul, Nat.reduceLeDiff, Int.reduceEq, Int.reduceLT, Int.reduceLE, Int.reduceAdd, Int.reduceMul, Int.reduceSub, Int.reduceNeg, Int.reduceToNat, reduceIte, Nat.reduceLT]
            refine callW_pure vp ?_
            simp only [go_sem, reduceCtorEq, Nat.reduceEqDiff, Nat.reduceAdd, Nat.reduceSub, Nat.reduceMul, Nat.reduceLeDiff, Int.reduceEq, Int.reduceLT, Int.reduceLE, Int.reduceAdd, Int.reduceMul, Int.reduceSub, Int.reduceNeg, Int.reduceToNat, reduceIte, Nat.reduceLT]
            refine callW_pure l5_awake_ok ?_
            simp [go_sem, reduceCtorEq, Nat.reduceEqDiff, Nat.reduceAdd, Nat.reduceSub, Nat.reduceMul, Nat.reduceLeDiff, Int.reduceEq, Int.reduceLT, Int.reduceLE, Int.reduceAdd, Int.reduceMul, Int.reduceSub, Int.reduceNeg, Int.reduceToNat, reduceIte, Nat.reduceLT, viewA, viewFn, viewC, viewFs, viewCs, viewAs, closedC, closedCs]

end Go.Proofs.YtpjbjdicdjlmeaaDoor.Eng
