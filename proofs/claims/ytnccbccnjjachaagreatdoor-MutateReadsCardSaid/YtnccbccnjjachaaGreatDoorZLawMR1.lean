/- The law MutateReads: its call comes to true. -/
import Derived.Test.YtnccbccnjjachaaGreatDoorZLawMR0
import Derived.Test.YtnccbccnjjachaaGreatDoorZLitBr
namespace Go.Proofs.YtnccbccnjjachaaGreatDoor.Eng
open Go
set_option linter.unusedVariables false
set_option linter.unusedSimpArgs false

section
variable {s D t : State} {kind n : Int} {key item : ByteArray}
abbrev heap4 (s D t : State) (kind n : Int) (key item : ByteArray) : Heap :=
  [{ sz := 2, rows := [[.lst 3 (s.seen.map Rn.cells), .lst 6 (s.facts.map Fact.cells)]] }, { sz := 4, rows := [[.int .i64 kind, .str key, .str item, .int .i64 n]] }, { sz := 2, rows := [[.lst 3 (D.seen.map Rn.cells), .lst 6 (D.facts.map Fact.cells)]] },
    { sz := 2, rows := [[.lst 3 (t.seen.map Rn.cells), .lst 6 (t.facts.map Fact.cells)]] }]
/-- Other keys are as they were. -/
theorem mutateReads_L0 (T : Nat → Option AFun) (hs : s.facts.length ≤ 1000) (ht : t.facts.length ≤ 1000) (ho : ∀ k : ByteArray, k ≠ key → t.facts.filter (Fact.of k 0) = s.facts.filter (Fact.of k 0)) :
    ∀ (d k : Nat) (e : Env), k + d = 3 → e 9 = .c (.ptr 0 0 0) → e 10 = .c (.ptr 1 0 0) → e 13 = .c (.ptr 3 0 0) → e 17 = iC k →
    Run (progT Tryz.prog T) ⟨[.tmp 8], fun u E => viewA E u = some (bC true)⟩ [.loop l11_MutateReads_L0, .blk 1, .code l11_MutateReads_K1] e (heap4 s D t kind n key item) := by
  intro d
  induction d with
  | zero =>
    intro k e hk h9 h10 h13 h17
    have hc : ¬ ((k : Int) < 3) := by omega
    refine run_again ?_
    conv => enter [3, 1]; unfold l11_MutateReads_L0
    simp only [go_sem, reduceCtorEq, Nat.reduceEqDiff, Nat.reduceAdd, Nat.reduceSub, Nat.reduceMul, Nat.reduceLeDiff, Int.reduceEq, Int.reduceLT, Int.reduceLE, Int.reduceAdd, Int.reduceMul, Int.reduceSub, Int.reduceNeg, Int.reduceToNat, reduceIte, Nat.reduceLT, h17, hc]
    unfold l11_MutateReads_K1
    simp only [go_sem, reduceCtorEq, Nat.reduceEqDiff, Nat.reduceAdd, Nat.reduceSub, Nat.reduceMul, Nat.reduceLeDiff, Int.reduceEq, Int.reduceLT, Int.reduceLE, Int.reduceAdd, Int.reduceMul, Int.reduceSub, Int.reduceNeg, Int.reduceToNat, reduceIte, Nat.reduceLT]
    refine callW_pure l11_awake_ok ?_
    simp only [go_sem, reduceCtorEq, Nat.reduceEqDiff, Nat.reduceAdd, Nat.reduceSub, Nat.reduceMul, Nat.reduceLeDiff, Int.reduceEq, Int.reduceLT, Int.reduceLE, Int.reduceAdd, Int.reduceMul, Int.reduceSub, Int.reduceNeg, Int.reduceToNat, reduceIte, Nat.reduceLT]
    rfl
  | succ d ih =>
    intro k e hk h9 h10 h13 h17
    have hc : ((k : Int) < 3) := by omega
    have w1 : IntKind.wrap .i64 (107 + (k : Int)) = ((107 + k : Nat) : Int) := by rw [wrap64 (by omega)]; omega
    have w2 : IntKind.wrap .u8 ((107 + k : Nat) : Int) = ((107 + k : Nat) : Int) := wrap8 (by omega)
    have w3 : IntKind.wrap .i64 ((k : Int) + 1) = ((k + 1 : Nat) : Int) := by rw [wrap64 (by omega)]; omega
    refine run_again ?_
    conv => enter [3, 1]; unfold l11_MutateReads_L0
    by_cases hkk : one8 (107 + k) = key
    · simp only [go_sem, reduceCtorEq, Nat.reduceEqDiff, Nat.reduceAdd, Nat.reduceSub, Nat.reduceMul, Nat.reduceLeDiff, Int.reduceEq, Int.reduceLT, Int.reduceLE, Int.reduceAdd, Int.reduceMul, Int.reduceSub, Int.reduceNeg, Int.reduceToNat, reduceIte, Nat.reduceLT, h9, h10, h13, h17, hc, w1, w2, vB2s_one, hkk, w3]
      refine ih (k + 1) _ (by omega) ?_ ?_ ?_ ?_
      all_goals simp only [go_sem, reduceCtorEq, Nat.reduceEqDiff, Nat.reduceAdd, Nat.reduceSub, Nat.reduceMul, Nat.reduceLeDiff, Int.reduceEq, Int.reduceLT, Int.reduceLE, Int.reduceAdd, Int.reduceMul, Int.reduceSub, Int.reduceNeg, Int.reduceToNat, reduceIte, Nat.reduceLT, h9, h10, h13, w3]
    · have f1 := r7_Find_ok s (one8 (107 + k)) 0 (by omega)
      have f2 := r7_Find_ok t (one8 (107 + k)) 0 (by omega)
      rw [ho _ hkk] at f2
      have f3 := r7_SameFacts_ok (s.facts.filter (Fact.of (one8 (107 + k)) 0)) (s.facts.filter (Fact.of (one8 (107 + k)) 0))
      generalize s.facts.filter (Fact.of (one8 (107 + k)) 0) = L at *
      simp only [go_sem, reduceCtorEq, Nat.reduceEqDiff, Nat.reduceAdd, Nat.reduceSub, Nat.reduceMul, Nat.reduceLeDiff, Int.reduceEq, Int.reduceLT, Int.reduceLE, Int.reduceAdd, Int.reduceMul, Int.reduceSub, Int.reduceNeg, Int.reduceToNat, reduceIte, Nat.reduceLT, h9, h10, h13, h17, hc, w1, w2, vB2s_one, hkk]
      refine callW_pure f1 ?_
      simp only [go_sem, reduceCtorEq, Nat.reduceEqDiff, Nat.reduceAdd, Nat.reduceSub, Nat.reduceMul, Nat.reduceLeDiff, Int.reduceEq, Int.reduceLT, Int.reduceLE, Int.reduceAdd, Int.reduceMul, Int.reduceSub, Int.reduceNeg, Int.reduceToNat, reduceIte, Nat.reduceLT, h13]
      refine callW_pure f2 ?_
      simp only [go_sem, reduceCtorEq, Nat.reduceEqDiff, Nat.reduceAdd, Nat.reduceSub, Nat.reduceMul, Nat.reduceLeDiff, Int.reduceEq, Int.reduceLT, Int.reduceLE, Int.reduceAdd, Int.reduceMul, Int.reduceSub, Int.reduceNeg, Int.reduceToNat, reduceIte, Nat.reduceLT]
      refine callW_pure f3 ?_
      simp only [go_sem, reduceCtorEq, Nat.reduceEqDiff, Nat.reduceAdd, Nat.reduceSub, Nat.reduceMul, Nat.reduceLeDiff, Int.reduceEq, Int.reduceLT, Int.reduceLE, Int.reduceAdd, Int.reduceMul, Int.reduceSub, Int.reduceNeg, Int.reduceToNat, reduceIte, Nat.reduceLT, h17, w3]
      refine ih (k + 1) _ (by omega) ?_ ?_ ?_ ?_
      all_goals simp only [go_sem, reduceCtorEq, Nat.reduceEqDiff, Nat.reduceAdd, Nat.reduceSub, Nat.reduceMul, Nat.reduceLeDiff, Int.reduceEq, Int.reduceLT, Int.reduceLE, Int.reduceAdd, Int.reduceMul, Int.reduceSub, Int.reduceNeg, Int.reduceToNat, reduceIte, Nat.reduceLT, h9, h10, h13, w3]
end

set_option maxRecDepth 20000 in
set_option maxHeartbeats 4000000 in
theorem l11_MutateReads_ok (ns : List Nat) (hb : ∀ n ∈ ns, n < 256) (a b dev : Nat) (ha : a < 256) (hbb : b < 256) (hdv : dev < 256) :
    Pr 5 [.c (bytesC ns), .c (.int .u8 (a : Int)), .c (.int .u8 (b : Int)), .c (.int .u8 (dev : Int))] (bC true) := by
  refine pure_of mixed is_l11_MutateReads (by simp [closedAs, closedA, closedC, bytesC, closed_bytes]) fun _ T => ?_
  have haw := l11_awake_ok
  have hap := l9_Apart_ok ns hb
  have hall := all_ok ns
  have hsm := all_small ns
  have hnum := all_num ns hb
  unfold c_l11_MutateReads
  generalize apartS ns = l at *
  generalize allL l = s at *
  have hg := hsm.good
  obtain ⟨z1, z2⟩ := hsm.sizes
  have o1 := l8_Op_ok a b ha hbb
  have rd : (dev : Int).tmod 4 = ((dev % 4 : Nat) : Int) := by rw [Int.tmod_eq_emod_of_nonneg (by omega)]; omega
  have wd : IntKind.wrap .i64 (dev : Int) = dev := wrap64 (by omega)
  have hdd : 0 ≤ ((dev % 4 : Nat) : Int) ∧ ((dev % 4 : Nat) : Int) < 8 := by omega
  generalize ((dev % 4 : Nat) : Int) = dv at *
  have hkind : 1 ≤ (opOf a b).kind ∧ (opOf a b).kind ≤ 5 := by unfold opOf; simp only; omega
  have hkey : (opOf a b).key.size ≤ 40 := by show (1 : Nat) ≤ 40; omega
  have hitem : (opOf a b).item.size ≤ 200 := by show (1 : Nat) ≤ 200; omega
  have hon : -1000 ≤ (opOf a b).n ∧ (opOf a b).n ≤ 1000 := by unfold opOf; simp only; omega
  generalize opOf a b = o at *
  have m1 := mutate_Do_ok s dv o hg (by omega) (by omega)
  have why := doL_why hsm hnum hdd hkind hkey hitem hon
  simp only [go_sem, reduceCtorEq, Nat.reduceEqDiff, Nat.reduceAdd, Nat.reduceSub, Nat.reduceMul, Nat.reduceLeDiff, Int.reduceEq, Int.reduceLT, Int.reduceLE, Int.reduceAdd, Int.reduceMul, Int.reduceSub, Int.reduceNeg, Int.reduceToNat, reduceIte, Nat.reduceLT]
  refine callW_pure hap ?_
  simp only [go_sem, reduceCtorEq, Nat.reduceEqDiff, Nat.reduceAdd, Nat.reduceSub, Nat.reduceMul, Nat.reduceLeDiff, Int.reduceEq, Int.reduceLT, Int.reduceLE, Int.reduceAdd, Int.reduceMul, Int.reduceSub, Int.reduceNeg, Int.reduceToNat, reduceIte, Nat.reduceLT]
  refine callW_pure hall ?_
  simp only [go_sem, reduceCtorEq, Nat.reduceEqDiff, Nat.reduceAdd, Nat.reduceSub, Nat.reduceMul, Nat.reduceLeDiff, Int.reduceEq, Int.reduceLT, Int.reduceLE, Int.reduceAdd, Int.reduceMul, Int.reduceSub, Int.reduceNeg, Int.reduceToNat, reduceIte, Nat.reduceLT]
  refine callW_pure o1 ?_
  rcases why with ⟨e1, e2, e3⟩ | ⟨hbad, hlarge, e1⟩
  · -- nothing to go
    rw [e1] at m1
    obtain ⟨kind, key, item, n⟩ := o
    have n2 := l1_Num_ok 2
    simp only [go_sem, reduceCtorEq, Nat.reduceEqDiff, Nat.reduceAdd, Nat.reduceSub, Nat.reduceMul, Nat.reduceLeDiff, Int.reduceEq, Int.reduceLT, Int.reduceLE, Int.reduceAdd, Int.reduceMul, Int.reduceSub, Int.reduceNeg, Int.reduceToNat, reduceIte, Nat.reduceLT, vBin_rem, wd, rd]
    refine callW_pure m1 ?_
    simp only [go_sem, reduceCtorEq, Nat.reduceEqDiff, Nat.reduceAdd, Nat.reduceSub, Nat.reduceMul, Nat.reduceLeDiff, Int.reduceEq, Int.reduceLT, Int.reduceLE, Int.reduceAdd, Int.reduceMul, Int.reduceSub, Int.reduceNeg, Int.reduceToNat, reduceIte, Nat.reduceLT]
    refine callW_pure n2 ?_
    have hk35 : kind = 3 ∨ kind = 5 := by
      unfold makes at e3
      simp at e3
      omega
    rcases hk35 with rfl | rfl
    · have hi := r7_Items_ok s key 2 (by omega)
      have hin := l11_in_ok (itemsL s key 2) item (by
        have := items_len (l := s.facts.filter (Fact.of key 2)) (a := [])
        have h5 := List.length_filter_le (Fact.of key 2) s.facts
        unfold itemsL itemsOf
        simp only [List.length_nil] at this
        omega)
      have hno : inT (itemsL s key 2) item = false := by
        cases h : inT (itemsL s key 2) item with
        | false => rfl
        | true =>
          exfalso
          obtain ⟨f, h1, h2, h3⟩ := mem_itemsL.1 (inT_iff.1 h)
          have : f ∈ goneL s dv ⟨3, key, item, n⟩ := List.mem_filter.2 ⟨h1, by simp [Fact.of] at h2; simp [goesF, h2, h3]⟩
          rw [e2] at this
          simp at this
      rw [hno] at hin
      generalize itemsL s key 2 = L at *
      simp only [go_sem, reduceCtorEq, Nat.reduceEqDiff, Nat.reduceAdd, Nat.reduceSub, Nat.reduceMul, Nat.reduceLeDiff, Int.reduceEq, Int.reduceLT, Int.reduceLE, Int.reduceAdd, Int.reduceMul, Int.reduceSub, Int.reduceNeg, Int.reduceToNat, reduceIte, Nat.reduceLT]
      refine callW_pure hi ?_
      simp only [go_sem, reduceCtorEq, Nat.reduceEqDiff, Nat.reduceAdd, Nat.reduceSub, Nat.reduceMul, Nat.reduceLeDiff, Int.reduceEq, Int.reduceLT, Int.reduceLE, Int.reduceAdd, Int.reduceMul, Int.reduceSub, Int.reduceNeg, Int.reduceToNat, reduceIte, Nat.reduceLT, textsC]
      refine callW_pure hin ?_
      simp only [go_sem, reduceCtorEq, Nat.reduceEqDiff, Nat.reduceAdd, Nat.reduceSub, Nat.reduceMul, Nat.reduceLeDiff, Int.reduceEq, Int.reduceLT, Int.reduceLE, Int.reduceAdd, Int.reduceMul, Int.reduceSub, Int.reduceNeg, Int.reduceToNat, reduceIte, Nat.reduceLT]
      refine callW_pure haw ?_
      simp only [go_sem, reduceCtorEq, Nat.reduceEqDiff, Nat.reduceAdd, Nat.reduceSub, Nat.reduceMul, Nat.reduceLeDiff, Int.reduceEq, Int.reduceLT, Int.reduceLE, Int.reduceAdd, Int.reduceMul, Int.reduceSub, Int.reduceNeg, Int.reduceToNat, reduceIte, Nat.reduceLT]
      rfl
    · have hf := r7_Find_ok s key 0 (by omega)
      have hno : s.facts.filter (Fact.of key 0) = [] := by
        have : s.facts.filter (Fact.of key 0) = goneL s dv ⟨5, key, item, n⟩ := List.filter_congr fun f _ => by simp [Fact.of, goesF]
        rw [this, e2]
      rw [hno] at hf
      simp only [go_sem, reduceCtorEq, Nat.reduceEqDiff, Nat.reduceAdd, Nat.reduceSub, Nat.reduceMul, Nat.reduceLeDiff, Int.reduceEq, Int.reduceLT, Int.reduceLE, Int.reduceAdd, Int.reduceMul, Int.reduceSub, Int.reduceNeg, Int.reduceToNat, reduceIte, Nat.reduceLT]
      refine callW_pure hf ?_
      simp only [go_sem, reduceCtorEq, Nat.reduceEqDiff, Nat.reduceAdd, Nat.reduceSub, Nat.reduceMul, Nat.reduceLeDiff, Int.reduceEq, Int.reduceLT, Int.reduceLE, Int.reduceAdd, Int.reduceMul, Int.reduceSub, Int.reduceNeg, Int.reduceToNat, reduceIte, Nat.reduceLT]
      refine callW_pure haw ?_
      simp only [go_sem, reduceCtorEq, Nat.reduceEqDiff, Nat.reduceAdd, Nat.reduceSub, Nat.reduceMul, Nat.reduceLeDiff, Int.reduceEq, Int.reduceLT, Int.reduceLE, Int.reduceAdd, Int.reduceMul, Int.reduceSub, Int.reduceNeg, Int.reduceToNat, reduceIte, Nat.reduceLT]
      rfl
  · -- done
    rw [e1] at m1
    have n0 := l1_Num_ok 0
    have hD := delta_good hg hbad hlarge
    obtain ⟨d1, d2⟩ := delta_len (s := s) (dev := dv) (o := o)
    have hj := r7_Join_ok s (deltaL s dv o) hg hD (by omega) (by omega)
    have hjl := joinL_len (a := s) (b := deltaL s dv o)
    have hset := fun h => set_says hg hbad hlarge (dv := dv) (o := o) h
    have hadd := fun h => add_says hg hbad hlarge (dv := dv) (o := o) h
    have hrem := fun h => rem_says hg hbad hlarge (dv := dv) (o := o) h
    have hdel := fun h => del_says hg hbad hlarge (dv := dv) (o := o) h
    have hinc := fun h => inc_says hsm hnum hbad hlarge (dv := dv) (o := o) h hon
    have hoth := fun k (h : k ≠ o.key) => other_says hg hbad hlarge (dv := dv) (o := o) h
    obtain ⟨kind, key, item, n⟩ := o
    simp only at hset hadd hrem hdel hinc hoth hkind
    generalize deltaL s dv ⟨kind, key, item, n⟩ = D at *
    generalize joinL s D = t at *
    have i1 := r7_Items_ok t key 1 (by omega)
    have i2 := r7_Items_ok t key 2 (by omega)
    have ct := r7_Count_ok t key (by omega)
    have cs := r7_Count_ok s key (by omega)
    have hin := l11_in_ok (itemsL t key 2) item (by
      have := items_len (l := t.facts.filter (Fact.of key 2)) (a := [])
      have h5 := List.length_filter_le (Fact.of key 2) t.facts
      unfold itemsL itemsOf
      simp only [List.length_nil] at this
      omega)
    have loop := mutateReads_L0 (D := D) (kind := kind) (n := n) (item := item) T (by omega) (by omega) hoth 3 0
    simp only [go_sem, reduceCtorEq, Nat.reduceEqDiff, Nat.reduceAdd, Nat.reduceSub, Nat.reduceMul, Nat.reduceLeDiff, Int.reduceEq, Int.reduceLT, Int.reduceLE, Int.reduceAdd, Int.reduceMul, Int.reduceSub, Int.reduceNeg, Int.reduceToNat, reduceIte, Nat.reduceLT, vBin_rem, wd, rd]
    refine callW_pure m1 ?_
    simp only [go_sem, reduceCtorEq, Nat.reduceEqDiff, Nat.reduceAdd, Nat.reduceSub, Nat.reduceMul, Nat.reduceLeDiff, Int.reduceEq, Int.reduceLT, Int.reduceLE, Int.reduceAdd, Int.reduceMul, Int.reduceSub, Int.reduceNeg, Int.reduceToNat, reduceIte, Nat.reduceLT]
    refine callW_pure n0 ?_
    simp only [go_sem, reduceCtorEq, Nat.reduceEqDiff, Nat.reduceAdd, Nat.reduceSub, Nat.reduceMul, Nat.reduceLeDiff, Int.reduceEq, Int.reduceLT, Int.reduceLE, Int.reduceAdd, Int.reduceMul, Int.reduceSub, Int.reduceNeg, Int.reduceToNat, reduceIte, Nat.reduceLT]
    refine callW_pure hj ?_
    simp only [go_sem, reduceCtorEq, Nat.reduceEqDiff, Nat.reduceAdd, Nat.reduceSub, Nat.reduceMul, Nat.reduceLeDiff, Int.reduceEq, Int.reduceLT, Int.reduceLE, Int.reduceAdd, Int.reduceMul, Int.reduceSub, Int.reduceNeg, Int.reduceToNat, reduceIte, Nat.reduceLT]
    refine callW_pure i1 ?_
    simp only [go_sem, reduceCtorEq, Nat.reduceEqDiff, Nat.reduceAdd, Nat.reduceSub, Nat.reduceMul, Nat.reduceLeDiff, Int.reduceEq, Int.reduceLT, Int.reduceLE, Int.reduceAdd, Int.reduceMul, Int.reduceSub, Int.reduceNeg, Int.reduceToNat, reduceIte, Nat.reduceLT]
    refine callW_pure i2 ?_
    simp only [go_sem, reduceCtorEq, Nat.reduceEqDiff, Nat.reduceAdd, Nat.reduceSub, Nat.reduceMul, Nat.reduceLeDiff, Int.reduceEq, Int.reduceLT, Int.reduceLE, Int.reduceAdd, Int.reduceMul, Int.reduceSub, Int.reduceNeg, Int.reduceToNat, reduceIte, Nat.reduceLT]
    refine callW_pure ct ?_
    by_cases k1 : kind = 1
    · subst k1
      have hl1 := hset rfl
      have c1 : ((1 : Nat) : Int) = 1 := rfl
      have cx : ∀ (x : List Cell) (H : Heap), vIx 1 (.c (.lst 1 [x])) (.c (.int .i64 0)) H = some (.c (.fp x 0), H) := fun _ _ => rfl
      simp only [go_sem, reduceCtorEq, Nat.reduceEqDiff, Nat.reduceAdd, Nat.reduceSub, Nat.reduceMul, Nat.reduceLeDiff, Int.reduceEq, Int.reduceLT, Int.reduceLE, Int.reduceAdd, Int.reduceMul, Int.reduceSub, Int.reduceNeg, Int.reduceToNat, reduceIte, Nat.reduceLT, textsC, hl1, c1, cx]
      refine loop _ rfl ?_ ?_ ?_ ?_
      all_goals simp only [go_sem, reduceCtorEq, Nat.reduceEqDiff, Nat.reduceAdd, Nat.reduceSub, Nat.reduceMul, Nat.reduceLeDiff, Int.reduceEq, Int.reduceLT, Int.reduceLE, Int.reduceAdd, Int.reduceMul, Int.reduceSub, Int.reduceNeg, Int.reduceToNat, reduceIte, Nat.reduceLT, Int.natCast_zero]
    by_cases k2 : kind = 2
    · subst k2
      rw [inT_iff.2 (hadd rfl)] at hin
      generalize itemsL t key 2 = L at *
      simp only [go_sem, reduceCtorEq, Nat.reduceEqDiff, Nat.reduceAdd, Nat.reduceSub, Nat.reduceMul, Nat.reduceLeDiff, Int.reduceEq, Int.reduceLT, Int.reduceLE, Int.reduceAdd, Int.reduceMul, Int.reduceSub, Int.reduceNeg, Int.reduceToNat, reduceIte, Nat.reduceLT, textsC]
      refine callW_pure hin ?_
      simp only [go_sem, reduceCtorEq, Nat.reduceEqDiff, Nat.reduceAdd, Nat.reduceSub, Nat.reduceMul, Nat.reduceLeDiff, Int.reduceEq, Int.reduceLT, Int.reduceLE, Int.reduceAdd, Int.reduceMul, Int.reduceSub, Int.reduceNeg, Int.reduceToNat, reduceIte, Nat.reduceLT]
      refine loop _ rfl ?_ ?_ ?_ ?_
      all_goals simp only [go_sem, reduceCtorEq, Nat.reduceEqDiff, Nat.reduceAdd, Nat.reduceSub, Nat.reduceMul, Nat.reduceLeDiff, Int.reduceEq, Int.reduceLT, Int.reduceLE, Int.reduceAdd, Int.reduceMul, Int.reduceSub, Int.reduceNeg, Int.reduceToNat, reduceIte, Nat.reduceLT, Int.natCast_zero]
    by_cases k3 : kind = 3
    · subst k3
      have hno : inT (itemsL t key 2) item = false := by
        cases h : inT (itemsL t key 2) item with
        | false => rfl
        | true => exact absurd (inT_iff.1 h) (hrem rfl)
      rw [hno] at hin
      generalize itemsL t key 2 = L at *
      simp only [go_sem, reduceCtorEq, Nat.reduceEqDiff, Nat.reduceAdd, Nat.reduceSub, Nat.reduceMul, Nat.reduceLeDiff, Int.reduceEq, Int.reduceLT, Int.reduceLE, Int.reduceAdd, Int.reduceMul, Int.reduceSub, Int.reduceNeg, Int.reduceToNat, reduceIte, Nat.reduceLT, textsC]
      refine callW_pure hin ?_
      simp only [go_sem, reduceCtorEq, Nat.reduceEqDiff, Nat.reduceAdd, Nat.reduceSub, Nat.reduceMul, Nat.reduceLeDiff, Int.reduceEq, Int.reduceLT, Int.reduceLE, Int.reduceAdd, Int.reduceMul, Int.reduceSub, Int.reduceNeg, Int.reduceToNat, reduceIte, Nat.reduceLT]
      refine loop _ rfl ?_ ?_ ?_ ?_
      all_goals simp only [go_sem, reduceCtorEq, Nat.reduceEqDiff, Nat.reduceAdd, Nat.reduceSub, Nat.reduceMul, Nat.reduceLeDiff, Int.reduceEq, Int.reduceLT, Int.reduceLE, Int.reduceAdd, Int.reduceMul, Int.reduceSub, Int.reduceNeg, Int.reduceToNat, reduceIte, Nat.reduceLT, Int.natCast_zero]
    by_cases k4 : kind = 4
    · subst k4
      have hq := hinc rfl
      rw [hq] at *
      generalize sumUp 0 (s.facts.filter (Fact.of key 3)) = x at *
      have hw : IntKind.wrap .i64 (x + n) = W (x + n) := rfl
      simp only [go_sem, reduceCtorEq, Nat.reduceEqDiff, Nat.reduceAdd, Nat.reduceSub, Nat.reduceMul, Nat.reduceLeDiff, Int.reduceEq, Int.reduceLT, Int.reduceLE, Int.reduceAdd, Int.reduceMul, Int.reduceSub, Int.reduceNeg, Int.reduceToNat, reduceIte, Nat.reduceLT]
      refine callW_pure cs ?_
      simp only [go_sem, reduceCtorEq, Nat.reduceEqDiff, Nat.reduceAdd, Nat.reduceSub, Nat.reduceMul, Nat.reduceLeDiff, Int.reduceEq, Int.reduceLT, Int.reduceLE, Int.reduceAdd, Int.reduceMul, Int.reduceSub, Int.reduceNeg, Int.reduceToNat, reduceIte, Nat.reduceLT, hw]
      refine loop _ rfl ?_ ?_ ?_ ?_
      all_goals simp only [go_sem, reduceCtorEq, Nat.reduceEqDiff, Nat.reduceAdd, Nat.reduceSub, Nat.reduceMul, Nat.reduceLeDiff, Int.reduceEq, Int.reduceLT, Int.reduceLE, Int.reduceAdd, Int.reduceMul, Int.reduceSub, Int.reduceNeg, Int.reduceToNat, reduceIte, Nat.reduceLT, Int.natCast_zero]
    have k5 : kind = 5 := by omega
    subst k5
    have hf := r7_Find_ok t key 0 (by omega)
    rw [hdel rfl] at hf
    simp only [go_sem, reduceCtorEq, Nat.reduceEqDiff, Nat.reduceAdd, Nat.reduceSub, Nat.reduceMul, Nat.reduceLeDiff, Int.reduceEq, Int.reduceLT, Int.reduceLE, Int.reduceAdd, Int.reduceMul, Int.reduceSub, Int.reduceNeg, Int.reduceToNat, reduceIte, Nat.reduceLT]
    refine callW_pure hf ?_
    simp only [go_sem, reduceCtorEq, Nat.reduceEqDiff, Nat.reduceAdd, Nat.reduceSub, Nat.reduceMul, Nat.reduceLeDiff, Int.reduceEq, Int.reduceLT, Int.reduceLE, Int.reduceAdd, Int.reduceMul, Int.reduceSub, Int.reduceNeg, Int.reduceToNat, reduceIte, Nat.reduceLT]
    refine loop _ rfl ?_ ?_ ?_ ?_
    all_goals simp only [go_sem, reduceCtorEq, Nat.reduceEqDiff, Nat.reduceAdd, Nat.reduceSub, Nat.reduceMul, Nat.reduceLeDiff, Int.reduceEq, Int.reduceLT, Int.reduceLE, Int.reduceAdd, Int.reduceMul, Int.reduceSub, Int.reduceNeg, Int.reduceToNat, reduceIte, Nat.reduceLT, Int.natCast_zero]

theorem l11_MutateReads_law (ns : List Nat) (_ : ns.length ≤ maxLen) (hb : ∀ n ∈ ns, n < 256) (a : Int) (ha : IntKind.min .u8 ≤ a ∧ a ≤ IntKind.max .u8) (b : Int) (hbb : IntKind.min .u8 ≤ b ∧ b ≤ IntKind.max .u8) (d : Int) (hd : IntKind.min .u8 ≤ d ∧ d ≤ IntKind.max .u8) :
    Pr 5 [.c (bytesC ns), .c (.int .u8 a), .c (.int .u8 b), .c (.int .u8 d)] (bC true) := by
  obtain ⟨a, rfl, q1⟩ := u8_nat ha
  obtain ⟨b, rfl, q2⟩ := u8_nat hbb
  obtain ⟨d, rfl, q3⟩ := u8_nat hd
  exact l11_MutateReads_ok ns hb a b d q1 q2 q3

end Go.Proofs.YtnccbccnjjachaaGreatDoor.Eng
