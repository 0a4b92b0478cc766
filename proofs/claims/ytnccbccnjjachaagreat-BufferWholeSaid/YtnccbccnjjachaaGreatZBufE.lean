/- Contracts of the buffer laws' own functions: deltas of deeds by numbers, the example. No statement of the seat is proved here. -/
import Derived.Test.YtnccbccnjjachaaGreatZBufD
import Derived.Test.YtnccbccnjjachaaGreatZBufT
import Derived.Test.YtnccbccnjjachaaGreatZMakeR
namespace Go.Proofs.YtnccbccnjjachaaGreat.Eng
open Go
set_option linter.unusedVariables false
set_option linter.unusedSimpArgs false

theorem viewW_tup2 {E : Heap} {a b x y : AVal} (h1 : viewW E a x) (h2 : viewW E b y) : viewW E (.tup [a, b]) (.tup [x, y]) := by
  obtain ⟨p, a1, b1⟩ := h1
  obtain ⟨q, a2, b2⟩ := h2
  exact ⟨.tup [p, q], by simp [viewA, viewAs, a1, a2], .tup2 b1 b2⟩

theorem l12_deltas_ok (ns : List Nat) (hl0 : ns.length ≤ maxLen) (hb : ∀ n ∈ ns, n < 256) : Pr 5 [.c (bytesC ns)] (.tup [.c (statesC (deltasS ns).1), .agg (deltasS ns).2.cells]) := by
  refine pure_ofW mixed is_l12_deltas (by simp [closedAs, closedA, closedC, bytesC, closed_bytes]) fun _ T => ?_
  unfold c_l12_deltas
  dsimp only [bytesC]
  have hv : deltasFrom 20 [] ⟨[], []⟩ ns = deltasS ns := rfl
  generalize deltasS ns = v at hv
  simp only [go_sem, reduceCtorEq, Nat.reduceEqDiff, Nat.reduceAdd, Nat.reduceSub, Nat.reduceMul, Nat.reduceLeDiff, Int.reduceEq, Int.reduceLT, Int.reduceLE, Int.reduceAdd, Int.reduceMul, Int.reduceSub, Int.reduceNeg, Int.reduceToNat, reduceIte, Nat.reduceLT]
  have fin : ∀ (l : List State) (s : State) (c d : Cell) (e : Env) (H : Heap), SC c d s → e 3 = .c (.ptr 0 0 0) → e 4 = .c (.ptr 1 0 0) → H[0]? = some { sz := 2, rows := [[.nilS, .nilS]], own := true, live := true } → H[1]? = some { sz := 2, rows := [[c, d]], own := true, live := true } →
      NB (e 5) 0 → Acc 2 (l.map State.cells) (e 5) H → (l, s) = v → Run (progT Tryz.prog T) ⟨[.tmp 2, .cell 3 true 2], fun u E => viewW E u (.tup [.c (statesC v.1), .agg v.2.cells])⟩ [.code l12_deltas_K1] e H := by
    intro l s c d e H hsc h3 h4 k0 k1 hn hacc hm
    subst hm
    unfold l12_deltas_K1
    have n0 := set_get (B' := { sz := 2, rows := [[c, d]], own := true, live := true }) k0
    simp only [go_sem, reduceCtorEq, Nat.reduceEqDiff, Nat.reduceAdd, Nat.reduceSub, Nat.reduceMul, Nat.reduceLeDiff, Int.reduceEq, Int.reduceLT, Int.reduceLE, Int.reduceAdd, Int.reduceMul, Int.reduceSub, Int.reduceNeg, Int.reduceToNat, reduceIte, Nat.reduceLT, h3, h4, box_row k1, box_row k0, box_mine k0, box_put k0, box_row n0]
    exact viewW_tup2 ((hacc.set_nb hn).told (closedR_map State.closed l)) hsc.told
  have loop : ∀ (k : Nat) (rest pre : List Nat) (l : List State) (s : State) (c d : Cell) (e : Env) (H : Heap), SC c d s → ns = pre ++ rest → k ≤ 20 → pre.length = 2 * (20 - k) → e 0 = .c (.lst 1 (ns.map byteC)) → e 3 = .c (.ptr 0 0 0) → e 4 = .c (.ptr 1 0 0) → e 6 = iC pre.length →
      H[0]? = some { sz := 2, rows := [[.nilS, .nilS]], own := true, live := true } → H[1]? = some { sz := 2, rows := [[c, d]], own := true, live := true } → NB (e 5) 0 → NB (e 5) 1 → Acc 2 (l.map State.cells) (e 5) H → l.length ≤ 20 - k → Dl ((20 - k : Nat) : Int) l s → deltasFrom k l s rest = v →
      Run (progT Tryz.prog T) ⟨[.tmp 2, .cell 3 true 2], fun u E => viewW E u (.tup [.c (statesC v.1), .agg v.2.cells])⟩ [.loop l12_deltas_L0, .blk 0, .code l12_deltas_K1] e H := by
    intro k
    induction k with
    | zero =>
      intro rest pre l s c d e H hsc hp hk hpl h0 h3 h4 h6 k0 k1 hn0 hn1 hacc hll hdl hm
      have hd : ¬ ((pre.length : Int) < 40) := by omega
      have w1 : IntKind.wrap .i64 ((pre.length : Int) + 1) = (pre.length : Int) + 1 := wrap64 (by omega)
      simp only [deltasFrom] at hm
      refine run_again ?_
      conv => enter [3, 1]; unfold l12_deltas_L0
      by_cases hc : ((pre.length : Int) + 1 < ((ns.map byteC).length : Int))
      all_goals
        simp only [go_sem, reduceCtorEq, Nat.reduceEqDiff, Nat.reduceAdd, Nat.reduceSub, Nat.reduceMul, Nat.reduceLeDiff, Int.reduceEq, Int.reduceLT, Int.reduceLE, Int.reduceAdd, Int.reduceMul, Int.reduceSub, Int.reduceNeg, Int.reduceToNat, reduceIte, Nat.reduceLT, h0, h3, h4, h6, hc, hd, w1]
        refine fin l s c d _ _ hsc ?_ ?_ k0 k1 ?_ ?_ hm
        all_goals simp only [go_sem, reduceCtorEq, Nat.reduceEqDiff, Nat.reduceAdd, Nat.reduceSub, Nat.reduceMul, Nat.reduceLeDiff, Int.reduceEq, Int.reduceLT, Int.reduceLE, Int.reduceAdd, Int.reduceMul, Int.reduceSub, Int.reduceNeg, Int.reduceToNat, reduceIte, Nat.reduceLT, h3, h4]
        all_goals assumption
    | succ k ih =>
      intro rest pre l s c d e H hsc hp hk hpl h0 h3 h4 h6 k0 k1 hn0 hn1 hacc hll hdl hm
      have w1 : IntKind.wrap .i64 ((pre.length : Int) + 1) = (pre.length : Int) + 1 := wrap64 (by omega)
      have hd : ((pre.length : Int) < 40) := by omega
      have hlen1 : 1 < H.length := (List.getElem?_eq_some_iff.1 k1).1
      have hlen0 : 0 < H.length := by omega
      refine run_again ?_
      conv => enter [3, 1]; unfold l12_deltas_L0
      match rest, hp, hm with
      | [], hp, hm =>
        have hc : ¬ ((pre.length : Int) + 1 < ((ns.map byteC).length : Int)) := by rw [hp]; simp; omega
        simp only [deltasFrom] at hm
        simp only [go_sem, reduceCtorEq, Nat.reduceEqDiff, Nat.reduceAdd, Nat.reduceSub, Nat.reduceMul, Nat.reduceLeDiff, Int.reduceEq, Int.reduceLT, Int.reduceLE, Int.reduceAdd, Int.reduceMul, Int.reduceSub, Int.reduceNeg, Int.reduceToNat, reduceIte, Nat.reduceLT, h0, h3, h4, h6, hc, hd, w1]
        refine fin l s c d _ _ hsc ?_ ?_ k0 k1 ?_ ?_ hm
        all_goals simp only [go_sem, reduceCtorEq, Nat.reduceEqDiff, Nat.reduceAdd, Nat.reduceSub, Nat.reduceMul, Nat.reduceLeDiff, Int.reduceEq, Int.reduceLT, Int.reduceLE, Int.reduceAdd, Int.reduceMul, Int.reduceSub, Int.reduceNeg, Int.reduceToNat, reduceIte, Nat.reduceLT, h3, h4]
        all_goals assumption
      | [a], hp, hm =>
        have hc : ¬ ((pre.length : Int) + 1 < ((ns.map byteC).length : Int)) := by rw [hp]; simp
        simp only [deltasFrom] at hm
        simp only [go_sem, reduceCtorEq, Nat.reduceEqDiff, Nat.reduceAdd, Nat.reduceSub, Nat.reduceMul, Nat.reduceLeDiff, Int.reduceEq, Int.reduceLT, Int.reduceLE, Int.reduceAdd, Int.reduceMul, Int.reduceSub, Int.reduceNeg, Int.reduceToNat, reduceIte, Nat.reduceLT, h0, h3, h4, h6, hc, hd, w1]
        refine fin l s c d _ _ hsc ?_ ?_ k0 k1 ?_ ?_ hm
        all_goals simp only [go_sem, reduceCtorEq, Nat.reduceEqDiff, Nat.reduceAdd, Nat.reduceSub, Nat.reduceMul, Nat.reduceLeDiff, Int.reduceEq, Int.reduceLT, Int.reduceLE, Int.reduceAdd, Int.reduceMul, Int.reduceSub, Int.reduceNeg, Int.reduceToNat, reduceIte, Nat.reduceLT, h3, h4]
        all_goals assumption
      | a :: b :: rest, hp, hm =>
        have hc : ((pre.length : Int) + 1 < ((ns.map byteC).length : Int)) := by rw [hp]; simp; omega
        have ha : a < 256 := hb a (by rw [hp]; simp)
        have hbb : b < 256 := hb b (by rw [hp]; simp)
        have g1 := map_at' (f := byteC) hp
        have g2 := map_at' (f := byteC) (show ns = (pre ++ [a]) ++ b :: rest by rw [hp]; simp)
        have e1 : (pre.length : Int) + 1 = ((pre ++ [a]).length : Int) := by simp
        have w2 : IntKind.wrap .i64 ((pre.length : Int) + 2) = ((pre ++ [a, b]).length : Int) := by rw [wrap64 (by omega)]; simp
        have hs5 := hdl.good
        obtain ⟨z1, z2⟩ := hdl.self (by omega) (by omega)
        obtain ⟨d1, d2, d3⟩ := doL_good hs5 (dev := 1) (o := opOf a b)
        simp only [go_sem, reduceCtorEq, Nat.reduceEqDiff, Nat.reduceAdd, Nat.reduceSub, Nat.reduceMul, Nat.reduceLeDiff, Int.reduceEq, Int.reduceLT, Int.reduceLE, Int.reduceAdd, Int.reduceMul, Int.reduceSub, Int.reduceNeg, Int.reduceToNat, reduceIte, Nat.reduceLT, h0, h3, h4, h6, hc, hd, w1, g1, box_row k1]
        rw [e1]
        simp only [go_sem, reduceCtorEq, Nat.reduceEqDiff, Nat.reduceAdd, Nat.reduceSub, Nat.reduceMul, Nat.reduceLeDiff, Int.reduceEq, Int.reduceLT, Int.reduceLE, Int.reduceAdd, Int.reduceMul, Int.reduceSub, Int.reduceNeg, Int.reduceToNat, reduceIte, Nat.reduceLT, h0, g2, box_row k1]
        refine callW_pure (l8_Op_ok a b ha hbb) ?_
        simp only [go_sem, reduceCtorEq, Nat.reduceEqDiff, Nat.reduceAdd, Nat.reduceSub, Nat.reduceMul, Nat.reduceLeDiff, Int.reduceEq, Int.reduceLT, Int.reduceLE, Int.reduceAdd, Int.reduceMul, Int.reduceSub, Int.reduceNeg, Int.reduceToNat, reduceIte, Nat.reduceLT, h3, h4]
        refine callW_pure ((r7_Do_ok s 1 (opOf a b) hs5 (by omega) (by omega)).wk (.cons hsc.wk (.cons (.same _) (.cons (.same _) .nil)))) ?_
        simp only [deltasFrom] at hm
        by_cases hz : (doL s 1 (opOf a b)).2 = 0
        · rw [if_pos hz] at hm
          have hstep := hdl.step (by omega) hz
          simp only [go_sem, reduceCtorEq, Nat.reduceEqDiff, Nat.reduceAdd, Nat.reduceSub, Nat.reduceMul, Nat.reduceLeDiff, Int.reduceEq, Int.reduceLT, Int.reduceLE, Int.reduceAdd, Int.reduceMul, Int.reduceSub, Int.reduceNeg, Int.reduceToNat, reduceIte, Nat.reduceLT, doneC, h3, h4, hz, hlen1, box_row k1]
          refine callW_pure ((r7_Join_ok s (doL s 1 (opOf a b)).1 hs5 d1 (by omega) (by omega)).wk (.cons hsc.wk (.cons (.same _) .nil))) ?_
          generalize hD : (doL s 1 (opOf a b)).1 = D at *
          have hcd : closedCs [Cell.lst 3 (D.seen.map Rn.cells), Cell.lst 6 (D.facts.map Fact.cells)] = true := D.closed
          have hrk : ∀ B : Blk, Heap.row (H.set 1 B ++ [{ sz := 3, rows := [[.lst 3 (D.seen.map Rn.cells), .lst 6 (D.facts.map Fact.cells), .int .i64 0]] }]) H.length 0 = some [.lst 3 (D.seen.map Rn.cells), .lst 6 (D.facts.map Fact.cells), .int .i64 0] := fun B => by simp [Heap.row]
          simp only [go_sem, reduceCtorEq, Nat.reduceEqDiff, Nat.reduceAdd, Nat.reduceSub, Nat.reduceMul, Nat.reduceLeDiff, Int.reduceEq, Int.reduceLT, Int.reduceLE, Int.reduceAdd, Int.reduceMul, Int.reduceSub, Int.reduceNeg, Int.reduceToNat, reduceIte, Nat.reduceLT, h3, h4, hlen1, box_row k1, box_mine k1, box_put k1, hrk, runsC, factsC, hcd]
          have j0 : (H.set 1 { sz := 2, rows := [(joinL s D).cells], own := true, live := true } ++ [{ sz := 3, rows := [[runsC D.seen, factsC D.facts, .int .i64 0]] }] : Heap)[0]? = some { sz := 2, rows := [[.nilS, .nilS]], own := true, live := true } := by
            rw [get_prev (by simpa using hlen0)]; exact set_get_ne k0 (by omega)
          have j1 : (H.set 1 { sz := 2, rows := [(joinL s D).cells], own := true, live := true } ++ [{ sz := 3, rows := [[runsC D.seen, factsC D.facts, .int .i64 0]] }] : Heap)[1]? = some { sz := 2, rows := [(joinL s D).cells], own := true, live := true } := by
            rw [get_prev (by simpa using hlen1)]; exact set_get k1
          have ja : Acc 2 (l.map State.cells) (e 5) (H.set 1 { sz := 2, rows := [(joinL s D).cells], own := true, live := true } ++ [{ sz := 3, rows := [[runsC D.seen, factsC D.facts, .int .i64 0]] }]) := (hacc.set_nb hn1).snoc
          simp only [runsC, factsC] at j0 j1 ja
          refine ja.app_keep (bytes := 48) (new := [[.lst 3 (D.seen.map Rn.cells), .lst 6 (D.facts.map Fact.cells)]]) (by simp; omega) fun v' H' hv' hkeep => ?_
          obtain ⟨q0, q0'⟩ := hkeep 0 _ hn0 j0
          obtain ⟨q1, q1'⟩ := hkeep 1 _ hn1 j1
          simp only [go_sem, reduceCtorEq, Nat.reduceEqDiff, Nat.reduceAdd, Nat.reduceSub, Nat.reduceMul, Nat.reduceLeDiff, Int.reduceEq, Int.reduceLT, Int.reduceLE, Int.reduceAdd, Int.reduceMul, Int.reduceSub, Int.reduceNeg, Int.reduceToNat, reduceIte, Nat.reduceLT, h6, w2]
          refine ih rest (pre ++ [a, b]) (l ++ [D]) (joinL s D) _ _ _ _ (.same _) (by rw [hp]; simp) (by omega) (by simp; omega) ?_ ?_ ?_ ?_ q0 q1 ?_ ?_ ?_ (by simp; omega) ?_ hm
          any_goals simp only [go_sem, reduceCtorEq, Nat.reduceEqDiff, Nat.reduceAdd, Nat.reduceSub, Nat.reduceMul, Nat.reduceLeDiff, Int.reduceEq, Int.reduceLT, Int.reduceLE, Int.reduceAdd, Int.reduceMul, Int.reduceSub, Int.reduceNeg, Int.reduceToNat, reduceIte, Nat.reduceLT, h0, h3, h4, w2]
          · exact q0'
          · exact q1'
          · simpa [State.cells, runsC, factsC] using hv'
          · exact hstep.mono (by omega)
        · rw [if_neg hz] at hm
          simp only [go_sem, reduceCtorEq, Nat.reduceEqDiff, Nat.reduceAdd, Nat.reduceSub, Nat.reduceMul, Nat.reduceLeDiff, Int.reduceEq, Int.reduceLT, Int.reduceLE, Int.reduceAdd, Int.reduceMul, Int.reduceSub, Int.reduceNeg, Int.reduceToNat, reduceIte, Nat.reduceLT, doneC, h3, h4, hz, h6, w2]
          refine ih rest (pre ++ [a, b]) l s c d _ _ hsc (by rw [hp]; simp) (by omega) (by simp; omega) ?_ ?_ ?_ ?_ ?_ ?_ ?_ ?_ ?_ (by omega) (hdl.mono (by omega)) hm
          any_goals simp only [go_sem, reduceCtorEq, Nat.reduceEqDiff, Nat.reduceAdd, Nat.reduceSub, Nat.reduceMul, Nat.reduceLeDiff, Int.reduceEq, Int.reduceLT, Int.reduceLE, Int.reduceAdd, Int.reduceMul, Int.reduceSub, Int.reduceNeg, Int.reduceToNat, reduceIte, Nat.reduceLT, h0, h3, h4, w2]
          · rw [get_prev hlen0]; exact k0
          · rw [get_prev hlen1]; exact k1
          · exact hn0
          · exact hn1
          · exact hacc.snoc
  refine loop 20 ns [] [] ⟨[], []⟩ _ _ _ _ .nil rfl (Nat.le_refl _) rfl ?_ ?_ ?_ ?_ rfl rfl ?_ ?_ ?_ (Nat.le_refl _) .nil hv
  any_goals simp only [go_sem, reduceCtorEq, Nat.reduceEqDiff, Nat.reduceAdd, Nat.reduceSub, Nat.reduceMul, Nat.reduceLeDiff, Int.reduceEq, Int.reduceLT, Int.reduceLE, Int.reduceAdd, Int.reduceMul, Int.reduceSub, Int.reduceNeg, Int.reduceToNat, reduceIte, Nat.reduceLT, List.length_nil, Int.natCast_zero]
  · intro n s q z e; cases e
  · intro n s q z e; cases e
  · exact .nil

theorem l12_awake_ok : Pr 11 [] (bC true) := by
  refine pure_of mixed is_l12_awake rfl fun hl T => ?_
  unfold c_l12_awake
  have s1 := buffer_Since_ok ⟨5, []⟩ 0 3 (by simp) (by simp) (by simp) (by omega) (by simp) (by simp)
  have ha : allL ((([] : List State).drop 0).take 3) = ⟨[], []⟩ := rfl
  obtain ⟨hf, h1, h2⟩ := makeS_fine [0, 1]
  have s2 := buffer_Add_ok ⟨5, []⟩ (makeS [0, 1]) (by unfold Sm; simp) (by
    intro t ht
    simp at ht
    subst ht
    unfold Sm; omega)
  simp only [ha] at s1
  simp only [go_sem, reduceCtorEq, Nat.reduceEqDiff, Nat.reduceAdd, Nat.reduceSub, Nat.reduceMul, Nat.reduceLeDiff, Int.reduceEq, Int.reduceLT, Int.reduceLE, Int.reduceAdd, Int.reduceMul, Int.reduceSub, Int.reduceNeg, Int.reduceToNat, reduceIte, Nat.reduceLT]
  refine callW_pure (s1.wk (.cons (.agg (.cons (.same _) (.cons (.nilS _) .nil))) (.cons (.same _) (.cons (.same _) .nil)))) ?_
  simp only [go_sem, reduceCtorEq, Nat.reduceEqDiff, Nat.reduceAdd, Nat.reduceSub, Nat.reduceMul, Nat.reduceLeDiff, Int.reduceEq, Int.reduceLT, Int.reduceLE, Int.reduceAdd, Int.reduceMul, Int.reduceSub, Int.reduceNeg, Int.reduceToNat, reduceIte, Nat.reduceLT]
  refine callW_pure (l8_Make_ok [0, 1] (by simp [maxLen]) (by simp)) ?_
  simp only [go_sem, reduceCtorEq, Nat.reduceEqDiff, Nat.reduceAdd, Nat.reduceSub, Nat.reduceMul, Nat.reduceLeDiff, Int.reduceEq, Int.reduceLT, Int.reduceLE, Int.reduceAdd, Int.reduceMul, Int.reduceSub, Int.reduceNeg, Int.reduceToNat, reduceIte, Nat.reduceLT]
  refine callW_pure (s2.wk (.cons (.agg (.cons (.same _) (.cons (.nilS _) .nil))) (.cons (.same _) .nil))) ?_
  generalize makeS [0, 1] = s at *
  have c1 : ((1 : Nat) : Int) = 1 := rfl
  simp only [go_sem, reduceCtorEq, Nat.reduceEqDiff, Nat.reduceAdd, Nat.reduceSub, Nat.reduceMul, Nat.reduceLeDiff, Int.reduceEq, Int.reduceLT, Int.reduceLE, Int.reduceAdd, Int.reduceMul, Int.reduceSub, Int.reduceNeg, Int.reduceToNat, reduceIte, Nat.reduceLT, Buf.cells, State.cells, statesC, runsC, c1]
  simp [viewA, viewFn, viewC, viewFs, viewCs, viewAs, closedC, closedCs]

end Go.Proofs.YtnccbccnjjachaaGreat.Eng
