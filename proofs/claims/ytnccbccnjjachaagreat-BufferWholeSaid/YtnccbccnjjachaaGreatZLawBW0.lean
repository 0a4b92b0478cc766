/- The law BufferWhole: its call comes to true. -/
import Derived.Test.YtnccbccnjjachaaGreatZBufE
namespace Go.Proofs.YtnccbccnjjachaaGreat.Eng
open Go
set_option linter.unusedVariables false
set_option linter.unusedSimpArgs false

set_option maxRecDepth 20000 in
set_option maxHeartbeats 4000000 in
theorem l12_BufferWhole_ok (ns : List Nat) (hl0 : ns.length ≤ maxLen) (hb : ∀ n ∈ ns, n < 256) (first cut : Int) (hf : 0 ≤ first ∧ first ≤ 65535) (hc : 0 ≤ cut ∧ cut ≤ 255) :
    Pr 3 [.c (bytesC ns), .c (.int .u16 first), .c (.int .u8 cut)] (bC true) := by
  refine pure_of mixed is_l12_BufferWhole (by simp [closedAs, closedA, closedC, bytesC, closed_bytes]) fun _ T => ?_
  unfold c_l12_BufferWhole
  have hd := l12_deltas_ok ns hl0 hb
  obtain ⟨hdl, hlen⟩ := deltasS_ok ns
  generalize (deltasS ns).1 = l at *
  generalize (deltasS ns).2 = s at *
  have hgood := hdl.good
  have hgs := hdl.goods
  have hsz : ∀ d ∈ l, d.seen.length ≤ 1000 ∧ d.facts.length ≤ 1000 := fun d h => by obtain ⟨a, b⟩ := hdl.each (by omega) (by omega) d h; omega
  have hall := hdl.all
  obtain ⟨cut, rfl⟩ : ∃ c : Nat, cut = c := ⟨cut.toNat, by omega⟩
  have wf : IntKind.wrap .i64 first = first := wrap64 (by omega)
  have wc : IntKind.wrap .i64 (cut : Int) = cut := wrap64 (by omega)
  have wl : IntKind.wrap .i64 ((l.length : Int) + 1) = (l.length : Int) + 1 := wrap64 (by omega)
  have hz1 : ¬ ((l.length : Int) + 1 = 0) := by omega
  have hk : (cut : Int).tmod ((l.length : Int) + 1) = ((cut % (l.length + 1) : Nat) : Int) := by
    rw [Int.tmod_eq_emod_of_nonneg (by omega)]; simp
  have hkl : cut % (l.length + 1) ≤ l.length := by have := Nat.mod_lt cut (show 0 < l.length + 1 by omega); omega
  generalize cut % (l.length + 1) = k at *
  have wk : IntKind.wrap .i64 (first + (k : Int)) = first + k := wrap64 (by omega)
  have wk1 : IntKind.wrap .i64 (first + (k : Int) - 1) = first + k - 1 := wrap64 (by omega)
  have wl1 : IntKind.wrap .i64 (first + (l.length : Int)) = first + l.length := wrap64 (by omega)
  have wl2 : IntKind.wrap .i64 (first + (l.length : Int) + 1) = first + l.length + 1 := wrap64 (by omega)
  have wlk : IntKind.wrap .i64 ((l.length : Int) - (k : Int)) = ((l.length - k : Nat) : Int) := by rw [wrap64 (by omega)]; omega
  have S1 : Pr 7 [.agg (Buf.cells ⟨first, l⟩), iC first, iC l.length] (.tup [.agg s.cells, bC true]) := by
    have := buffer_Since_ok ⟨first, l⟩ 0 l.length (by simp; omega) (by simp; omega) (by simp) (by omega) hgs hsz
    simp only [List.drop_zero, List.take_length, hall, Int.natCast_zero, Int.add_zero] at this
    exact this
  have S2 : Pr 7 [.agg (Buf.cells ⟨first, l⟩), iC first, iC k] (.tup [.agg (allL (l.take k)).cells, bC true]) := by
    have := buffer_Since_ok ⟨first, l⟩ 0 k (by simp; omega) (by simp; omega) (by simp) (by omega) hgs hsz
    simp only [List.drop_zero, Int.natCast_zero, Int.add_zero] at this
    exact this
  have S3 : Pr 7 [.agg (Buf.cells ⟨first, l⟩), iC (first + k), iC 100] (.tup [.agg (allL (l.drop k)).cells, bC true]) := by
    have := buffer_Since_ok ⟨first, l⟩ k 100 (by simp; omega) (by simp; omega) hkl (by omega) hgs hsz
    have e : ((Buf.l ⟨first, l⟩).drop k).take 100 = l.drop k := List.take_of_length_le (by simp; omega)
    rw [e] at this
    exact this
  have A1 : Pr 8 [.agg (Buf.cells ⟨first, l⟩), iC (first + k)] (.agg (Buf.cells ⟨first + k, l.drop k⟩)) := by
    have := buffer_Ack_ok ⟨first, l⟩ (first + k) (by simp; omega) (by unfold Sm; simp; omega) (fun d h => by obtain ⟨a, b⟩ := hsz d h; unfold Sm; omega)
    have e : max (Buf.first ⟨first, l⟩) (min (first + (k : Int)) ((Buf.first ⟨first, l⟩) + ((Buf.l ⟨first, l⟩).length : Int))) = first + k := by simp only; omega
    rw [e] at this
    have e2 : (first + (k : Int) - (Buf.first ⟨first, l⟩)).toNat = k := by simp only; omega
    rw [e2] at this
    exact this
  have S4 : Pr 7 [.agg (Buf.cells ⟨first + k, l.drop k⟩), iC (first + k), iC 100] (.tup [.agg (allL (l.drop k)).cells, bC true]) := by
    have := buffer_Since_ok ⟨first + k, l.drop k⟩ 0 100 (by simp; omega) (by simp; omega) (by simp) (by omega) (fun d h => hgs d (List.mem_of_mem_drop h)) (fun d h => hsz d (List.mem_of_mem_drop h))
    have e : ((Buf.l ⟨first + k, l.drop k⟩).drop 0).take 100 = l.drop k := by
      rw [List.drop_zero]; exact List.take_of_length_le (by simp; omega)
    rw [e] at this
    simpa using this
  have hdk : ((l.drop k).length : Int) = l.length - k := by simp; omega
  have S5 := buffer_Since_no ⟨first + k, l.drop k⟩ (first + k - 1) 1 (by simp only [Buf.none, Bool.or_eq_true, decide_eq_true_eq]; exact .inl (.inl (by omega)))
  have S6 := buffer_Since_no ⟨first + k, l.drop k⟩ (first + l.length + 1) 1 (by
    have e : (Buf.lim ⟨first + k, l.drop k⟩) = first + l.length := by
      unfold Buf.lim
      simp only [hdk]
      rw [wrap64 (by omega)]; omega
    simp only [Buf.none, Bool.or_eq_true, decide_eq_true_eq, e]; exact .inl (.inr (by omega)))
  have hj := allL_split hgs hdl.allied k
  rw [hall] at hj
  have p1 : Part l (allL (l.take k)) := Part.foldl hgs (.none l) fun d hd => List.mem_of_mem_take hd
  have p2 : Part l (allL (l.drop k)) := Part.foldl hgs (.none l) fun d hd => List.mem_of_mem_drop hd
  have q1 := hdl.part (by omega) (by omega) p1
  have q2 := hdl.part (by omega) (by omega) p2
  have J := r7_Join_ok (allL (l.take k)) (allL (l.drop k)) p1.good p2.good (by omega) (by omega)
  rw [hj] at J
  have E1 := r7_Same_ok s s
  have E2 := r7_Same_ok (allL (l.drop k)) (allL (l.drop k))
  generalize allL (l.take k) = x at *
  generalize allL (l.drop k) = y at *
  have hlk : ((l.drop k).map State.cells).length = l.length - k := by simp
  have hrd : closedR (l.map State.cells) = true := closedR_map State.closed l
  simp only [go_sem, reduceCtorEq, Nat.reduceEqDiff, Nat.reduceAdd, Nat.reduceSub, Nat.reduceMul, Nat.reduceLeDiff, Int.reduceEq, Int.reduceLT, Int.reduceLE, Int.reduceAdd, Int.reduceMul, Int.reduceSub, Int.reduceNeg, Int.reduceToNat, reduceIte, Nat.reduceLT]
  refine callW_pure hd ?_
  simp only [go_sem, reduceCtorEq, Nat.reduceEqDiff, Nat.reduceAdd, Nat.reduceSub, Nat.reduceMul, Nat.reduceLeDiff, Int.reduceEq, Int.reduceLT, Int.reduceLE, Int.reduceAdd, Int.reduceMul, Int.reduceSub, Int.reduceNeg, Int.reduceToNat, reduceIte, Nat.reduceLT, wf]
  have loop : ∀ (rest pre : List State) (c : Cell) (e : Env) (p : Post) (K : List Itm), l = pre ++ rest → (c = .lst 2 (pre.map State.cells) ∨ (c = .nilS ∧ pre = [])) → e 7 = .c (.lst 2 (l.map State.cells)) → e 9 = .c (.ptr 1 0 0) → e 10 = iC pre.length →
      (∀ e' : Env, e' 1 = e 1 → e' 2 = e 2 → e' 7 = e 7 → e' 8 = e 8 → e' 9 = e 9 → (∀ c', (c' = .lst 2 (l.map State.cells) ∨ (c' = .nilS ∧ l = [])) → Run (progT Tryz.prog T) p K e' [{ sz := 2, rows := [s.cells] }, { sz := 2, rows := [[.int .i64 first, c']] }])) →
      Run (progT Tryz.prog T) p (.loop l12_BufferWhole_L0 :: .blk 0 :: K) e [{ sz := 2, rows := [s.cells] }, { sz := 2, rows := [[.int .i64 first, c]] }] := by
    intro rest
    induction rest with
    | nil =>
      intro pre c e p K hp hcc h7 h9 h10 hK
      have hc := not_lt_at (f := State.cells) hp
      refine run_again ?_
      conv => enter [3, 1]; unfold l12_BufferWhole_L0
      simp only [go_sem, reduceCtorEq, Nat.reduceEqDiff, Nat.reduceAdd, Nat.reduceSub, Nat.reduceMul, Nat.reduceLeDiff, Int.reduceEq, Int.reduceLT, Int.reduceLE, Int.reduceAdd, Int.reduceMul, Int.reduceSub, Int.reduceNeg, Int.reduceToNat, reduceIte, Nat.reduceLT, h7, h9, h10, hc]
      rw [List.append_nil] at hp
      subst hp
      refine hK _ ?_ ?_ ?_ ?_ ?_ _ hcc
      all_goals simp only [go_sem, reduceCtorEq, Nat.reduceEqDiff, Nat.reduceAdd, Nat.reduceSub, Nat.reduceMul, Nat.reduceLeDiff, Int.reduceEq, Int.reduceLT, Int.reduceLE, Int.reduceAdd, Int.reduceMul, Int.reduceSub, Int.reduceNeg, Int.reduceToNat, reduceIte, Nat.reduceLT]
    | cons r rest ih =>
      intro pre c e p K hp hcc h7 h9 h10 hK
      have hc := lt_at (f := State.cells) hp
      have hr := map_at' (f := State.cells) hp
      have hn := next_at hp (by unfold maxLen; omega)
      have hpl : pre.length < l.length := by rw [hp]; simp
      have hA := buffer_Add_ok ⟨first, pre⟩ r (by unfold Sm; simp; omega) (fun t ht => by
        have : t ∈ l := by rw [hp]; simp at ht ⊢; rcases ht with h | h <;> simp [h]
        obtain ⟨a, b⟩ := hsz t this
        unfold Sm; omega)
      have hA' : Pr 6 [.agg [.int .i64 first, c], .agg r.cells] (.agg (Buf.cells ⟨first, pre ++ [r]⟩)) := by
        rcases hcc with rfl | ⟨rfl, rfl⟩
        · exact hA
        · exact hA.wk (.cons (.agg (.cons (.same _) (.cons (.nilS _) .nil))) (.cons (.same _) .nil))
      refine run_again ?_
      conv => enter [3, 1]; unfold l12_BufferWhole_L0
      simp only [go_sem, reduceCtorEq, Nat.reduceEqDiff, Nat.reduceAdd, Nat.reduceSub, Nat.reduceMul, Nat.reduceLeDiff, Int.reduceEq, Int.reduceLT, Int.reduceLE, Int.reduceAdd, Int.reduceMul, Int.reduceSub, Int.reduceNeg, Int.reduceToNat, reduceIte, Nat.reduceLT, h7, h9, h10, hc, hr]
      refine callW_pure hA' ?_
      simp only [go_sem, reduceCtorEq, Nat.reduceEqDiff, Nat.reduceAdd, Nat.reduceSub, Nat.reduceMul, Nat.reduceLeDiff, Int.reduceEq, Int.reduceLT, Int.reduceLE, Int.reduceAdd, Int.reduceMul, Int.reduceSub, Int.reduceNeg, Int.reduceToNat, reduceIte, Nat.reduceLT, Buf.cells, statesC, h9, h10, hn]
      refine ih (pre ++ [r]) _ _ p K (by simp [hp]) (.inl rfl) ?_ ?_ ?_ fun e' g1 g2 g7 g8 g9 => hK e' ?_ ?_ ?_ ?_ ?_
      · simp only [go_sem, reduceCtorEq, Nat.reduceEqDiff, Nat.reduceAdd, Nat.reduceSub, Nat.reduceMul, Nat.reduceLeDiff, Int.reduceEq, Int.reduceLT, Int.reduceLE, Int.reduceAdd, Int.reduceMul, Int.reduceSub, Int.reduceNeg, Int.reduceToNat, reduceIte, Nat.reduceLT, h7]
      · simp only [go_sem, reduceCtorEq, Nat.reduceEqDiff, Nat.reduceAdd, Nat.reduceSub, Nat.reduceMul, Nat.reduceLeDiff, Int.reduceEq, Int.reduceLT, Int.reduceLE, Int.reduceAdd, Int.reduceMul, Int.reduceSub, Int.reduceNeg, Int.reduceToNat, reduceIte, Nat.reduceLT, h9]
      · simp only [go_sem, reduceCtorEq, Nat.reduceEqDiff, Nat.reduceAdd, Nat.reduceSub, Nat.reduceMul, Nat.reduceLeDiff, Int.reduceEq, Int.reduceLT, Int.reduceLE, Int.reduceAdd, Int.reduceMul, Int.reduceSub, Int.reduceNeg, Int.reduceToNat, reduceIte, Nat.reduceLT, hn]
      · rw [g1]; simp only [go_sem, reduceCtorEq, Nat.reduceEqDiff, Nat.reduceAdd, Nat.reduceSub, Nat.reduceMul, Nat.reduceLeDiff, Int.reduceEq, Int.reduceLT, Int.reduceLE, Int.reduceAdd, Int.reduceMul, Int.reduceSub, Int.reduceNeg, Int.reduceToNat, reduceIte, Nat.reduceLT]
      · rw [g2]; simp only [go_sem, reduceCtorEq, Nat.reduceEqDiff, Nat.reduceAdd, Nat.reduceSub, Nat.reduceMul, Nat.reduceLeDiff, Int.reduceEq, Int.reduceLT, Int.reduceLE, Int.reduceAdd, Int.reduceMul, Int.reduceSub, Int.reduceNeg, Int.reduceToNat, reduceIte, Nat.reduceLT]
      · rw [g7]; simp only [go_sem, reduceCtorEq, Nat.reduceEqDiff, Nat.reduceAdd, Nat.reduceSub, Nat.reduceMul, Nat.reduceLeDiff, Int.reduceEq, Int.reduceLT, Int.reduceLE, Int.reduceAdd, Int.reduceMul, Int.reduceSub, Int.reduceNeg, Int.reduceToNat, reduceIte, Nat.reduceLT]
      · rw [g8]; simp only [go_sem, reduceCtorEq, Nat.reduceEqDiff, Nat.reduceAdd, Nat.reduceSub, Nat.reduceMul, Nat.reduceLeDiff, Int.reduceEq, Int.reduceLT, Int.reduceLE, Int.reduceAdd, Int.reduceMul, Int.reduceSub, Int.reduceNeg, Int.reduceToNat, reduceIte, Nat.reduceLT]
      · rw [g9]; simp only [go_sem, reduceCtorEq, Nat.reduceEqDiff, Nat.reduceAdd, Nat.reduceSub, Nat.reduceMul, Nat.reduceLeDiff, Int.reduceEq, Int.reduceLT, Int.reduceLE, Int.reduceAdd, Int.reduceMul, Int.reduceSub, Int.reduceNeg, Int.reduceToNat, reduceIte, Nat.reduceLT]
  refine loop l [] _ _ _ _ rfl (.inr ⟨rfl, rfl⟩) ?_ ?_ ?_ fun e' g1 g2 g7 g8 g9 c' hc' => ?_
  · simp only [go_sem, reduceCtorEq, Nat.reduceEqDiff, Nat.reduceAdd, Nat.reduceSub, Nat.reduceMul, Nat.reduceLeDiff, Int.reduceEq, Int.reduceLT, Int.reduceLE, Int.reduceAdd, Int.reduceMul, Int.reduceSub, Int.reduceNeg, Int.reduceToNat, reduceIte, Nat.reduceLT]
  · simp only [go_sem, reduceCtorEq, Nat.reduceEqDiff, Nat.reduceAdd, Nat.reduceSub, Nat.reduceMul, Nat.reduceLeDiff, Int.reduceEq, Int.reduceLT, Int.reduceLE, Int.reduceAdd, Int.reduceMul, Int.reduceSub, Int.reduceNeg, Int.reduceToNat, reduceIte, Nat.reduceLT]
  · simp only [go_sem, reduceCtorEq, Nat.reduceEqDiff, Nat.reduceAdd, Nat.reduceSub, Nat.reduceMul, Nat.reduceLeDiff, Int.reduceEq, Int.reduceLT, Int.reduceLE, Int.reduceAdd, Int.reduceMul, Int.reduceSub, Int.reduceNeg, Int.reduceToNat, reduceIte, Nat.reduceLT, List.length_nil, Int.natCast_zero]
  simp only [go_sem, reduceCtorEq, Nat.reduceEqDiff, Nat.reduceAdd, Nat.reduceSub, Nat.reduceMul, Nat.reduceLeDiff, Int.reduceEq, Int.reduceLT, Int.reduceLE, Int.reduceAdd, Int.reduceMul, Int.reduceSub, Int.reduceNeg, Int.reduceToNat, reduceIte, Nat.reduceLT] at g1 g2 g7 g8 g9
  have wkA : ∀ {f : Nat} {a : List AVal} {v : AVal}, Pr f (.agg (Buf.cells ⟨first, l⟩) :: a) v → Pr f (.agg [.int .i64 first, c'] :: a) v := fun {f a v} h => by
    have same : ∀ a : List AVal, All2 WkA a a := fun a => by induction a with | nil => exact .nil | cons x a ih => exact .cons (.same _) ih
    rcases hc' with rfl | ⟨rfl, h0⟩
    · exact h
    · subst h0
      exact h.wk (.cons (.agg (.cons (.same _) (.cons (.nilS _) .nil))) (same a))
  have hlen' : ∀ H : Heap, vLen (.c c') H = some (iC l.length, H) := fun H => by
    rcases hc' with rfl | ⟨rfl, h0⟩
    · simp [vLen, vPure]
    · subst h0; rfl
  have S1' := wkA S1
  have S2' := wkA S2
  have S3' := wkA S3
  have A1' := wkA A1
  clear loop S1 S2 S3 A1 wkA
  unfold l12_BufferWhole_K1
  simp only [go_sem, reduceCtorEq, Nat.reduceEqDiff, Nat.reduceAdd, Nat.reduceSub, Nat.reduceMul, Nat.reduceLeDiff, Int.reduceEq, Int.reduceLT, Int.reduceLE, Int.reduceAdd, Int.reduceMul, Int.reduceSub, Int.reduceNeg, Int.reduceToNat, reduceIte, Nat.reduceLT, g1, g2, g7, g8, g9, wf, wc, wl, hz1, vBin_rem, hk, List.length_map]
  refine callW_pure S1' ?_
  simp only [go_sem, reduceCtorEq, Nat.reduceEqDiff, Nat.reduceAdd, Nat.reduceSub, Nat.reduceMul, Nat.reduceLeDiff, Int.reduceEq, Int.reduceLT, Int.reduceLE, Int.reduceAdd, Int.reduceMul, Int.reduceSub, Int.reduceNeg, Int.reduceToNat, reduceIte, Nat.reduceLT, g1, g2, g7, g8, g9, wf, wk]
  refine callW_pure S2' ?_
  simp only [go_sem, reduceCtorEq, Nat.reduceEqDiff, Nat.reduceAdd, Nat.reduceSub, Nat.reduceMul, Nat.reduceLeDiff, Int.reduceEq, Int.reduceLT, Int.reduceLE, Int.reduceAdd, Int.reduceMul, Int.reduceSub, Int.reduceNeg, Int.reduceToNat, reduceIte, Nat.reduceLT, g1, g2, g7, g8, g9, wf, wk]
  refine callW_pure S3' ?_
  simp only [go_sem, reduceCtorEq, Nat.reduceEqDiff, Nat.reduceAdd, Nat.reduceSub, Nat.reduceMul, Nat.reduceLeDiff, Int.reduceEq, Int.reduceLT, Int.reduceLE, Int.reduceAdd, Int.reduceMul, Int.reduceSub, Int.reduceNeg, Int.reduceToNat, reduceIte, Nat.reduceLT, g1, g2, g7, g8, g9, wf, wk]
  refine callW_pure A1' ?_
  simp only [go_sem, reduceCtorEq, Nat.reduceEqDiff, Nat.reduceAdd, Nat.reduceSub, Nat.reduceMul, Nat.reduceLeDiff, Int.reduceEq, Int.reduceLT, Int.reduceLE, Int.reduceAdd, Int.reduceMul, Int.reduceSub, Int.reduceNeg, Int.reduceToNat, reduceIte, Nat.reduceLT, Buf.cells, statesC, g1, g2, g7, g8, g9, wf, wk]
  refine callW_pure S4 ?_
  simp only [go_sem, reduceCtorEq, Nat.reduceEqDiff, Nat.reduceAdd, Nat.reduceSub, Nat.reduceMul, Nat.reduceLeDiff, Int.reduceEq, Int.reduceLT, Int.reduceLE, Int.reduceAdd, Int.reduceMul, Int.reduceSub, Int.reduceNeg, Int.reduceToNat, reduceIte, Nat.reduceLT, Buf.cells, statesC, g1, g2, g7, g8, g9, wf, wk, wk1]
  refine callW_pure S5 ?_
  simp only [go_sem, reduceCtorEq, Nat.reduceEqDiff, Nat.reduceAdd, Nat.reduceSub, Nat.reduceMul, Nat.reduceLeDiff, Int.reduceEq, Int.reduceLT, Int.reduceLE, Int.reduceAdd, Int.reduceMul, Int.reduceSub, Int.reduceNeg, Int.reduceToNat, reduceIte, Nat.reduceLT, Buf.cells, statesC, g1, g2, g7, g8, g9, wf, wk, wl1, wl2, List.length_map]
  refine callW_pure S6 ?_
  simp only [go_sem, reduceCtorEq, Nat.reduceEqDiff, Nat.reduceAdd, Nat.reduceSub, Nat.reduceMul, Nat.reduceLeDiff, Int.reduceEq, Int.reduceLT, Int.reduceLE, Int.reduceAdd, Int.reduceMul, Int.reduceSub, Int.reduceNeg, Int.reduceToNat, reduceIte, Nat.reduceLT, Buf.cells, statesC, g1, g2, g7, g8, g9, wf, wk, hlen', List.length_map]
  refine callW_pure E1 ?_
  simp only [go_sem, reduceCtorEq, Nat.reduceEqDiff, Nat.reduceAdd, Nat.reduceSub, Nat.reduceMul, Nat.reduceLeDiff, Int.reduceEq, Int.reduceLT, Int.reduceLE, Int.reduceAdd, Int.reduceMul, Int.reduceSub, Int.reduceNeg, Int.reduceToNat, reduceIte, Nat.reduceLT, g1, g2, g7, g8, g9]
  refine callW_pure J ?_
  simp only [go_sem, reduceCtorEq, Nat.reduceEqDiff, Nat.reduceAdd, Nat.reduceSub, Nat.reduceMul, Nat.reduceLeDiff, Int.reduceEq, Int.reduceLT, Int.reduceLE, Int.reduceAdd, Int.reduceMul, Int.reduceSub, Int.reduceNeg, Int.reduceToNat, reduceIte, Nat.reduceLT, g1, g2, g7, g8, g9]
  refine callW_pure E1 ?_
  simp only [go_sem, reduceCtorEq, Nat.reduceEqDiff, Nat.reduceAdd, Nat.reduceSub, Nat.reduceMul, Nat.reduceLeDiff, Int.reduceEq, Int.reduceLT, Int.reduceLE, Int.reduceAdd, Int.reduceMul, Int.reduceSub, Int.reduceNeg, Int.reduceToNat, reduceIte, Nat.reduceLT, g1, g2, g7, g8, g9]
  refine callW_pure E2 ?_
  simp only [go_sem, reduceCtorEq, Nat.reduceEqDiff, Nat.reduceAdd, Nat.reduceSub, Nat.reduceMul, Nat.reduceLeDiff, Int.reduceEq, Int.reduceLT, Int.reduceLE, Int.reduceAdd, Int.reduceMul, Int.reduceSub, Int.reduceNeg, Int.reduceToNat, reduceIte, Nat.reduceLT, g1, g2, g7, g8, g9, wf, wk, wlk, hlk, List.length_map]
  refine callW_pure l12_awake_ok ?_
  simp only [go_sem, reduceCtorEq, Nat.reduceEqDiff, Nat.reduceAdd, Nat.reduceSub, Nat.reduceMul, Nat.reduceLeDiff, Int.reduceEq, Int.reduceLT, Int.reduceLE, Int.reduceAdd, Int.reduceMul, Int.reduceSub, Int.reduceNeg, Int.reduceToNat, reduceIte, Nat.reduceLT]
  simp [viewA, viewFn, viewC, viewFs, viewCs, viewAs, closedC, closedCs]

theorem l12_BufferWhole_law (ns : List Nat) (hl : ns.length ≤ maxLen) (hb : ∀ n ∈ ns, n < 256) (a : Int) (ha : IntKind.min .u16 ≤ a ∧ a ≤ IntKind.max .u16) (b : Int) (hbb : IntKind.min .u8 ≤ b ∧ b ≤ IntKind.max .u8) :
    Pr 3 [.c (bytesC ns), .c (.int .u16 a), .c (.int .u8 b)] (bC true) := l12_BufferWhole_ok ns hl hb a b ha hbb

end Go.Proofs.YtnccbccnjjachaaGreat.Eng
