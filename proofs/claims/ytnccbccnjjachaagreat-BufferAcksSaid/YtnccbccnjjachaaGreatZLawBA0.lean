/- The law BufferAcks: its call comes to true. -/
import Derived.Test.YtnccbccnjjachaaGreatZBufE
namespace Go.Proofs.YtnccbccnjjachaaGreat.Eng
open Go
set_option linter.unusedVariables false
set_option linter.unusedSimpArgs false

/-- A buffer behind acks: by how many deltas are gone. -/
def goneBy (first : Int) (l : List State) (q : Nat) : Buf := ⟨first + q, l.drop q⟩
def ackN (len n : Int) : Nat := (max 0 (min n len)).toNat
theorem ackN_le {len n : Int} (h : 0 ≤ len) : (ackN len n : Int) ≤ len := by unfold ackN; omega
theorem ack_gone {first : Int} {l : List State} {q : Nat} {n : Int} (hf : 0 ≤ first ∧ first ≤ 4503599627370496 - 100) (hq : q ≤ l.length) (hl : l.length ≤ 100) (hz : ∀ s ∈ l, Sm s.seen ∧ Sm s.facts) :
    Pr 8 [.agg (goneBy first l q).cells, iC (first + n)] (.agg (goneBy first l (max q (ackN l.length n))).cells) := by
  have := buffer_Ack_ok (goneBy first l q) (first + n) (by unfold goneBy; simp only; omega) (by unfold Sm goneBy; simp; omega) (fun s h => hz s (List.mem_of_mem_drop h))
  have e0 : ((goneBy first l q).l.length : Int) = l.length - q := by unfold goneBy; simp; omega
  have e1 : max (goneBy first l q).first (min (first + n) ((goneBy first l q).first + (goneBy first l q).l.length)) = first + (max q (ackN l.length n) : Nat) := by
    rw [e0]; unfold goneBy ackN; simp only; omega
  rw [e1] at this
  have e2 : (first + ((max q (ackN l.length n) : Nat) : Int) - (goneBy first l q).first).toNat = max q (ackN l.length n) - q := by unfold goneBy; simp only; omega
  rw [e2] at this
  have e3 : (goneBy first l q).l.drop (max q (ackN l.length n) - q) = l.drop (max q (ackN l.length n)) := by
    unfold goneBy
    simp only [List.drop_drop]
    congr 1
    omega
  rw [e3] at this
  exact this

theorem l12_BufferAcks_ok (ns : List Nat) (hl0 : ns.length ≤ maxLen) (hb : ∀ n ∈ ns, n < 256) (first : Int) (hf : 0 ≤ first ∧ first ≤ 65535) (acks : List Nat) (hal : acks.length ≤ maxLen) (hab : ∀ n ∈ acks, n < 256) :
    Pr 4 [.c (bytesC ns), .c (.int .u16 first), .c (bytesC acks)] (bC true) := by
  refine pure_of mixed is_l12_BufferAcks (by simp [closedAs, closedA, closedC, bytesC, closed_bytes]) fun _ T => ?_
  unfold c_l12_BufferAcks
  dsimp only [bytesC]
  by_cases h30 : acks.length ≤ 30
  · have hc30 : ¬ ((acks.length : Int) > 30) := by omega
    have hd := l12_deltas_ok ns hl0 hb
    obtain ⟨hdl, hlen⟩ := deltasS_ok ns
    generalize (deltasS ns).1 = l at *
    generalize (deltasS ns).2 = s at *
    have hz : ∀ d ∈ l, Sm d.seen ∧ Sm d.facts := fun d h => by obtain ⟨a, b⟩ := hdl.each (by omega) (by omega) d h; unfold Sm; omega
    have wf : IntKind.wrap .i64 first = first := wrap64 (by omega)
    have hd' : Pr 5 [.c (.lst 1 (ns.map byteC))] (.tup [.c (statesC l), .agg s.cells]) := hd
    simp only [go_sem, reduceCtorEq, Nat.reduceEqDiff, Nat.reduceAdd, Nat.reduceSub, Nat.reduceMul, Nat.reduceLeDiff, Int.reduceEq, Int.reduceLT, Int.reduceLE, Int.reduceAdd, Int.reduceMul, Int.reduceSub, Int.reduceNeg, Int.reduceToNat, reduceIte, Nat.reduceLT, List.length_map, hc30]
    refine callW_pure hd' ?_
    simp only [go_sem, reduceCtorEq, Nat.reduceEqDiff, Nat.reduceAdd, Nat.reduceSub, Nat.reduceMul, Nat.reduceLeDiff, Int.reduceEq, Int.reduceLT, Int.reduceLE, Int.reduceAdd, Int.reduceMul, Int.reduceSub, Int.reduceNeg, Int.reduceToNat, reduceIte, Nat.reduceLT, wf]
    have tail : ∀ (e : Env) (q m : Nat), e 1 = .c (.int .u16 first) → e 2 = .c (.lst 1 (acks.map byteC)) → e 7 = .c (.lst 2 (l.map State.cells)) → e 9 = .c (.ptr 1 0 0) → e 10 = .c (.ptr 2 0 0) → e 11 = iC m → m < 256 → q = (if acks = [] then 0 else ackN l.length ((m : Int) - 5)) → q ≤ l.length →
        Run (progT Tryz.prog T) ⟨[.tmp 6], fun u E => viewA E u = some (bC true)⟩ [.code l12_BufferAcks_K1] e [{ sz := 2, rows := [s.cells] }, { sz := 2, rows := [[.int .i64 first, .lst 2 (l.map State.cells)]] }, { sz := 2, rows := [(goneBy first l q).cells] }] := by
      intro e q m h1 h2 h7 h9 h10 h11 hm hq hql
      have w1 : IntKind.wrap .i64 (first + (m : Int)) = first + m := wrap64 (by omega)
      have w2 : IntKind.wrap .i64 (first + (m : Int) - 5) = first + ((m : Int) - 5) := by rw [wrap64 (by omega)]; omega
      have A1 : Pr 8 [.agg [.int .i64 first, .lst 2 (l.map State.cells)], iC (first + ((m : Int) - 5))] (.agg (goneBy first l (ackN l.length ((m : Int) - 5))).cells) := by
        have := ack_gone (first := first) (l := l) (q := 0) (n := (m : Int) - 5) (by omega) (by omega) (by omega) hz
        rw [Nat.max_eq_right (Nat.zero_le _)] at this
        have e0 : (goneBy first l 0).cells = [.int .i64 first, .lst 2 (l.map State.cells)] := by simp [goneBy, Buf.cells, statesC]
        rw [e0] at this
        exact this
      have A2 : Pr 8 [.agg (goneBy first l q).cells, iC 0] (.agg (goneBy first l q).cells) := by
        have := ack_gone (first := first) (l := l) (q := q) (n := 0 - first) (by omega) hql (by omega) hz
        have e0 : first + (0 - first) = 0 := by omega
        have e1 : max q (ackN l.length (0 - first)) = q := by unfold ackN; omega
        rw [e0, e1] at this
        exact this
      have B1 := r7_SameBuffer_ok (goneBy first l q) (goneBy first l (ackN l.length ((m : Int) - 5)))
      have B2 := r7_SameBuffer_ok (goneBy first l q) (goneBy first l q)
      have e2 : first + (q : Int) + ((l.drop q).length : Int) = first + l.length := by simp; omega
      have w3 : IntKind.wrap .i64 (first + (q : Int) + ((l.length - q : Nat) : Int)) = first + l.length := by rw [wrap64 (by omega)]; omega
      have w4 : IntKind.wrap .i64 (first + (l.length : Int)) = first + l.length := wrap64 (by omega)
      dsimp only [goneBy, Buf.cells, statesC] at *
      unfold l12_BufferAcks_K1
      simp only [go_sem, reduceCtorEq, Nat.reduceEqDiff, Nat.reduceAdd, Nat.reduceSub, Nat.reduceMul, Nat.reduceLeDiff, Int.reduceEq, Int.reduceLT, Int.reduceLE, Int.reduceAdd, Int.reduceMul, Int.reduceSub, Int.reduceNeg, Int.reduceToNat, reduceIte, Nat.reduceLT, h1, h2, h7, h9, h10, h11, wf, w1, w2]
      refine callW_pure A1 ?_
      by_cases ha : acks = []
      · have hc : (acks.length : Int) = 0 := by rw [ha]; rfl
        simp only [go_sem, reduceCtorEq, Nat.reduceEqDiff, Nat.reduceAdd, Nat.reduceSub, Nat.reduceMul, Nat.reduceLeDiff, Int.reduceEq, Int.reduceLT, Int.reduceLE, Int.reduceAdd, Int.reduceMul, Int.reduceSub, Int.reduceNeg, Int.reduceToNat, reduceIte, Nat.reduceLT, h1, h2, h7, h9, h10, h11, wf, w1, w2, List.length_map, hc]
        refine callW_pure A2 ?_
        simp only [go_sem, reduceCtorEq, Nat.reduceEqDiff, Nat.reduceAdd, Nat.reduceSub, Nat.reduceMul, Nat.reduceLeDiff, Int.reduceEq, Int.reduceLT, Int.reduceLE, Int.reduceAdd, Int.reduceMul, Int.reduceSub, Int.reduceNeg, Int.reduceToNat, reduceIte, Nat.reduceLT, h1, h2, h7, h9, h10, h11, wf, w1, w2, List.length_map]
        refine callW_pure B2 ?_
        simp only [go_sem, reduceCtorEq, Nat.reduceEqDiff, Nat.reduceAdd, Nat.reduceSub, Nat.reduceMul, Nat.reduceLeDiff, Int.reduceEq, Int.reduceLT, Int.reduceLE, Int.reduceAdd, Int.reduceMul, Int.reduceSub, Int.reduceNeg, Int.reduceToNat, reduceIte, Nat.reduceLT, h1, h2, h7, h9, h10, h11, wf, w1, w2, w3, w4, List.length_map, List.length_drop]
        refine callW_pure l12_awake_ok ?_
        simp only [go_sem, reduceCtorEq, Nat.reduceEqDiff, Nat.reduceAdd, Nat.reduceSub, Nat.reduceMul, Nat.reduceLeDiff, Int.reduceEq, Int.reduceLT, Int.reduceLE, Int.reduceAdd, Int.reduceMul, Int.reduceSub, Int.reduceNeg, Int.reduceToNat, reduceIte, Nat.reduceLT]
        simp [viewA, viewFn, viewC, viewFs, viewCs, viewAs, closedC, closedCs]
      · have hc : ¬ (acks.length : Int) = 0 := fun e => ha (List.eq_nil_of_length_eq_zero (by omega))
        rw [if_neg ha] at hq
        subst hq
        simp only [go_sem, reduceCtorEq, Nat.reduceEqDiff, Nat.reduceAdd, Nat.reduceSub, Nat.reduceMul, Nat.reduceLeDiff, Int.reduceEq, Int.reduceLT, Int.reduceLE, Int.reduceAdd, Int.reduceMul, Int.reduceSub, Int.reduceNeg, Int.reduceToNat, reduceIte, Nat.reduceLT, h1, h2, h7, h9, h10, h11, wf, w1, w2, List.length_map, hc]
        refine callW_pure B1 ?_
        simp only [go_sem, reduceCtorEq, Nat.reduceEqDiff, Nat.reduceAdd, Nat.reduceSub, Nat.reduceMul, Nat.reduceLeDiff, Int.reduceEq, Int.reduceLT, Int.reduceLE, Int.reduceAdd, Int.reduceMul, Int.reduceSub, Int.reduceNeg, Int.reduceToNat, reduceIte, Nat.reduceLT, h1, h2, h7, h9, h10, h11, wf, w1, w2, List.length_map]
        refine callW_pure A2 ?_
        simp only [go_sem, reduceCtorEq, Nat.reduceEqDiff, Nat.reduceAdd, Nat.reduceSub, Nat.reduceMul, Nat.reduceLeDiff, Int.reduceEq, Int.reduceLT, Int.reduceLE, Int.reduceAdd, Int.reduceMul, Int.reduceSub, Int.reduceNeg, Int.reduceToNat, reduceIte, Nat.reduceLT, h1, h2, h7, h9, h10, h11, wf, w1, w2, List.length_map]
        refine callW_pure B2 ?_
        simp only [go_sem, reduceCtorEq, Nat.reduceEqDiff, Nat.reduceAdd, Nat.reduceSub, Nat.reduceMul, Nat.reduceLeDiff, Int.reduceEq, Int.reduceLT, Int.reduceLE, Int.reduceAdd, Int.reduceMul, Int.reduceSub, Int.reduceNeg, Int.reduceToNat, reduceIte, Nat.reduceLT, h1, h2, h7, h9, h10, h11, wf, w1, w2, w3, w4, List.length_map, List.length_drop]
        refine callW_pure l12_awake_ok ?_
        simp only [go_sem, reduceCtorEq, Nat.reduceEqDiff, Nat.reduceAdd, Nat.reduceSub, Nat.reduceMul, Nat.reduceLeDiff, Int.reduceEq, Int.reduceLT, Int.reduceLE, Int.reduceAdd, Int.reduceMul, Int.reduceSub, Int.reduceNeg, Int.reduceToNat, reduceIte, Nat.reduceLT]
        simp [viewA, viewFn, viewC, viewFs, viewCs, viewAs, closedC, closedCs]
    have loop : ∀ (rest pre : List Nat) (e : Env) (q m : Nat), acks = pre ++ rest → e 1 = .c (.int .u16 first) → e 2 = .c (.lst 1 (acks.map byteC)) → e 7 = .c (.lst 2 (l.map State.cells)) → e 9 = .c (.ptr 1 0 0) → e 10 = .c (.ptr 2 0 0) → e 11 = iC m → e 12 = iC pre.length → m < 256 →
        q = (if pre = [] then 0 else ackN l.length ((m : Int) - 5)) → (pre = [] → m = 0) →
        Run (progT Tryz.prog T) ⟨[.tmp 6], fun u E => viewA E u = some (bC true)⟩ [.loop l12_BufferAcks_L0, .blk 0, .code l12_BufferAcks_K1] e [{ sz := 2, rows := [s.cells] }, { sz := 2, rows := [[.int .i64 first, .lst 2 (l.map State.cells)]] }, { sz := 2, rows := [(goneBy first l q).cells] }] := by
      intro rest
      induction rest with
      | nil =>
        intro pre e q m hp h1 h2 h7 h9 h10 h11 h12 hm hq hm0
        have hc := not_lt_at (f := byteC) hp
        have hql : q ≤ l.length := by rw [hq]; split; exact Nat.zero_le _; have := ackN_le (len := l.length) (n := (m : Int) - 5) (by omega); omega
        refine run_again ?_
        conv => enter [3, 1]; unfold l12_BufferAcks_L0
        simp only [go_sem, reduceCtorEq, Nat.reduceEqDiff, Nat.reduceAdd, Nat.reduceSub, Nat.reduceMul, Nat.reduceLeDiff, Int.reduceEq, Int.reduceLT, Int.reduceLE, Int.reduceAdd, Int.reduceMul, Int.reduceSub, Int.reduceNeg, Int.reduceToNat, reduceIte, Nat.reduceLT, h2, h12, hc]
        rw [List.append_nil] at hp
        subst hp
        refine tail _ q m ?_ ?_ ?_ ?_ ?_ ?_ hm hq hql
        all_goals simp only [go_sem, reduceCtorEq, Nat.reduceEqDiff, Nat.reduceAdd, Nat.reduceSub, Nat.reduceMul, Nat.reduceLeDiff, Int.reduceEq, Int.reduceLT, Int.reduceLE, Int.reduceAdd, Int.reduceMul, Int.reduceSub, Int.reduceNeg, Int.reduceToNat, reduceIte, Nat.reduceLT, h1, h2, h7, h9, h10, h11]
      | cons r rest ih =>
        intro pre e q m hp h1 h2 h7 h9 h10 h11 h12 hm hq hm0
        have hc := lt_at (f := byteC) hp
        have hr := map_at' (f := byteC) hp
        have hn := next_at hp hal
        have hrb : r < 256 := hab r (by rw [hp]; simp)
        have wr : IntKind.wrap .i64 (r : Int) = (r : Int) := wrap64 (by omega)
        have rr : (r : Int).tmod 40 = ((r % 40 : Nat) : Int) := by rw [Int.tmod_eq_emod_of_nonneg (by omega)]; omega
        have hk : r % 40 < 40 := Nat.mod_lt _ (by omega)
        generalize r % 40 = k at *
        have hmx : (if (k : Int) > (m : Int) then (k : Int) else (m : Int)) = ((max m k : Nat) : Int) := by split <;> omega
        have w1 : IntKind.wrap .i64 (first + (k : Int)) = first + k := wrap64 (by omega)
        have w2 : IntKind.wrap .i64 (first + (k : Int) - 5) = first + ((k : Int) - 5) := by rw [wrap64 (by omega)]; omega
        have hql : q ≤ l.length := by rw [hq]; split; exact Nat.zero_le _; have := ackN_le (len := l.length) (n := (m : Int) - 5) (by omega); omega
        have A := ack_gone (first := first) (l := l) (q := q) (n := (k : Int) - 5) (by omega) hql (by omega) hz
        have hq2 : max q (ackN l.length ((k : Int) - 5)) = (if pre ++ [r] = [] then 0 else ackN l.length (((max m k : Nat) : Int) - 5)) := by
          rw [if_neg (by simp), hq]
          by_cases h0 : pre = []
          · rw [if_pos h0, hm0 h0]; unfold ackN; omega
          · rw [if_neg h0]; unfold ackN; omega
        refine run_again ?_
        conv => enter [3, 1]; unfold l12_BufferAcks_L0
        dsimp only [goneBy, Buf.cells, statesC] at A ⊢
        simp only [go_sem, reduceCtorEq, Nat.reduceEqDiff, Nat.reduceAdd, Nat.reduceSub, Nat.reduceMul, Nat.reduceLeDiff, Int.reduceEq, Int.reduceLT, Int.reduceLE, Int.reduceAdd, Int.reduceMul, Int.reduceSub, Int.reduceNeg, Int.reduceToNat, reduceIte, Nat.reduceLT, h1, h2, h7, h9, h10, h11, h12, hc, hr, wr, vBin_rem, rr, hmx, wf, w1, w2]
        refine callW_pure A ?_
        simp only [go_sem, reduceCtorEq, Nat.reduceEqDiff, Nat.reduceAdd, Nat.reduceSub, Nat.reduceMul, Nat.reduceLeDiff, Int.reduceEq, Int.reduceLT, Int.reduceLE, Int.reduceAdd, Int.reduceMul, Int.reduceSub, Int.reduceNeg, Int.reduceToNat, reduceIte, Nat.reduceLT, h10, h12, hn]
        refine ih (pre ++ [r]) _ _ (max m k) (by simp [hp]) ?_ ?_ ?_ ?_ ?_ ?_ ?_ (by omega) hq2 (by simp)
        all_goals simp only [go_sem, reduceCtorEq, Nat.reduceEqDiff, Nat.reduceAdd, Nat.reduceSub, Nat.reduceMul, Nat.reduceLeDiff, Int.reduceEq, Int.reduceLT, Int.reduceLE, Int.reduceAdd, Int.reduceMul, Int.reduceSub, Int.reduceNeg, Int.reduceToNat, reduceIte, Nat.reduceLT, h1, h2, h7, h9, h10, hn]
    have h00 : (goneBy first l 0).cells = [.int .i64 first, .lst 2 (l.map State.cells)] := by simp [goneBy, Buf.cells, statesC]
    have go := fun (e : Env) (h1 : e 1 = .c (.int .u16 first)) (h2 : e 2 = .c (.lst 1 (acks.map byteC))) (h7 : e 7 = .c (.lst 2 (l.map State.cells))) (h9 : e 9 = .c (.ptr 1 0 0)) (h10 : e 10 = .c (.ptr 2 0 0)) (h11 : e 11 = iC (0 : Nat)) (h12 : e 12 = iC ([] : List Nat).length) =>
      loop acks [] e 0 0 rfl h1 h2 h7 h9 h10 h11 h12 (by omega) rfl (fun _ => rfl)
    rw [h00] at go
    refine go _ ?_ ?_ ?_ ?_ ?_ ?_ ?_
    all_goals simp only [go_sem, reduceCtorEq, Nat.reduceEqDiff, Nat.reduceAdd, Nat.reduceSub, Nat.reduceMul, Nat.reduceLeDiff, Int.reduceEq, Int.reduceLT, Int.reduceLE, Int.reduceAdd, Int.reduceMul, Int.reduceSub, Int.reduceNeg, Int.reduceToNat, reduceIte, Nat.reduceLT, statesC, List.length_nil, Int.natCast_zero]
  · have hc30 : ((acks.length : Int) > 30) := by omega
    simp only [go_sem, reduceCtorEq, Nat.reduceEqDiff, Nat.reduceAdd, Nat.reduceSub, Nat.reduceMul, Nat.reduceLeDiff, Int.reduceEq, Int.reduceLT, Int.reduceLE, Int.reduceAdd, Int.reduceMul, Int.reduceSub, Int.reduceNeg, Int.reduceToNat, reduceIte, Nat.reduceLT, List.length_map, hc30]
    refine callW_pure l12_awake_ok ?_
    simp only [go_sem, reduceCtorEq, Nat.reduceEqDiff, Nat.reduceAdd, Nat.reduceSub, Nat.reduceMul, Nat.reduceLeDiff, Int.reduceEq, Int.reduceLT, Int.reduceLE, Int.reduceAdd, Int.reduceMul, Int.reduceSub, Int.reduceNeg, Int.reduceToNat, reduceIte, Nat.reduceLT]
    simp [viewA, viewFn, viewC, viewFs, viewCs, viewAs, closedC, closedCs]

theorem l12_BufferAcks_law (ns : List Nat) (hl : ns.length ≤ maxLen) (hb : ∀ n ∈ ns, n < 256) (a : Int) (ha : IntKind.min .u16 ≤ a ∧ a ≤ IntKind.max .u16) (bs : List Nat) (hbl : bs.length ≤ maxLen) (hbb : ∀ n ∈ bs, n < 256) :
    Pr 4 [.c (bytesC ns), .c (.int .u16 a), .c (bytesC bs)] (bC true) := l12_BufferAcks_ok ns hl hb a ha bs hbl hbb

end Go.Proofs.YtnccbccnjjachaaGreat.Eng
