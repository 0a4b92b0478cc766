/- The law MutateDelta: its call comes to true. -/
import Derived.Test.YtnccbccnjjachaaGreatDoorZLawM1
import Derived.Test.YtnccbccnjjachaaGreatDoorZCntT
import Derived.Test.YtnccbccnjjachaaGreatDoorZLitBx
namespace Go.Proofs.YtnccbccnjjachaaGreatDoor.Eng
open Go
set_option linter.unusedVariables false
set_option linter.unusedSimpArgs false

theorem goes_key {dev : Int} {o : OpR} {f : Fact} (h : goesF dev o f = true) : f.key = o.key := by
  unfold goesF at h
  simp only [Bool.and_eq_true, decide_eq_true_eq] at h
  exact h.1

section
variable {s D : State} {kind n dv : Int} {key item : ByteArray}
abbrev heap3 (s D : State) (kind n : Int) (key item : ByteArray) : Heap :=
  [{ sz := 2, rows := [[.lst 3 (s.seen.map Rn.cells), .lst 6 (s.facts.map Fact.cells)]] }, { sz := 4, rows := [[.int .i64 kind, .str key, .str item, .int .i64 n]] }, { sz := 2, rows := [[.lst 3 (D.seen.map Rn.cells), .lst 6 (D.facts.map Fact.cells)]] }]
theorem mutateDelta_K2 (T : Nat → Option AFun) (hf : (decide (D.facts.length = 0)) = (decide (kind = 3) || decide (kind = 5))) {e : Env} (h10 : e 10 = .c (.ptr 1 0 0)) (h11 : e 11 = .c (.ptr 2 0 0)) (h13 : e 13 = iC 0) :
    Run (progT Tryz.prog T) ⟨[.tmp 8], fun u E => viewA E u = some (bC true)⟩ [.code l11_MutateDelta_K2] e (heap3 s D kind n key item) := by
  unfold l11_MutateDelta_K2
  have hd : (((D.facts.map Fact.cells).length : Int) = 0) = (D.facts.length = 0) := by simp
  by_cases h3 : kind = 3
  · have h0 : (D.facts.length = 0) = True := by simpa [h3] using hf
    simp only [go_sem, reduceCtorEq, Nat.reduceEqDiff, Nat.reduceAdd, Nat.reduceSub, Nat.reduceMul, Nat.reduceLeDiff, Int.reduceEq, Int.reduceLT, Int.reduceLE, Int.reduceAdd, Int.reduceMul, Int.reduceSub, Int.reduceNeg, Int.reduceToNat, reduceIte, Nat.reduceLT, h10, h11, h13, hd, h0, h3]
    refine callW_pure l11_awake_ok ?_
    simp only [go_sem, reduceCtorEq, Nat.reduceEqDiff, Nat.reduceAdd, Nat.reduceSub, Nat.reduceMul, Nat.reduceLeDiff, Int.reduceEq, Int.reduceLT, Int.reduceLE, Int.reduceAdd, Int.reduceMul, Int.reduceSub, Int.reduceNeg, Int.reduceToNat, reduceIte, Nat.reduceLT]
    rfl
  by_cases h5 : kind = 5
  · have h0 : (D.facts.length = 0) = True := by simpa [h5] using hf
    simp only [go_sem, reduceCtorEq, Nat.reduceEqDiff, Nat.reduceAdd, Nat.reduceSub, Nat.reduceMul, Nat.reduceLeDiff, Int.reduceEq, Int.reduceLT, Int.reduceLE, Int.reduceAdd, Int.reduceMul, Int.reduceSub, Int.reduceNeg, Int.reduceToNat, reduceIte, Nat.reduceLT, h10, h11, h13, hd, h0, h3, h5]
    refine callW_pure l11_awake_ok ?_
    simp only [go_sem, reduceCtorEq, Nat.reduceEqDiff, Nat.reduceAdd, Nat.reduceSub, Nat.reduceMul, Nat.reduceLeDiff, Int.reduceEq, Int.reduceLT, Int.reduceLE, Int.reduceAdd, Int.reduceMul, Int.reduceSub, Int.reduceNeg, Int.reduceToNat, reduceIte, Nat.reduceLT]
    rfl
  · have h0 : (D.facts.length = 0) = False := by simpa [h3, h5] using hf
    simp only [go_sem, reduceCtorEq, Nat.reduceEqDiff, Nat.reduceAdd, Nat.reduceSub, Nat.reduceMul, Nat.reduceLeDiff, Int.reduceEq, Int.reduceLT, Int.reduceLE, Int.reduceAdd, Int.reduceMul, Int.reduceSub, Int.reduceNeg, Int.reduceToNat, reduceIte, Nat.reduceLT, h10, h11, h13, hd, h0, h3, h5]
    refine callW_pure l11_awake_ok ?_
    simp only [go_sem, reduceCtorEq, Nat.reduceEqDiff, Nat.reduceAdd, Nat.reduceSub, Nat.reduceMul, Nat.reduceLeDiff, Int.reduceEq, Int.reduceLT, Int.reduceLE, Int.reduceAdd, Int.reduceMul, Int.reduceSub, Int.reduceNeg, Int.reduceToNat, reduceIte, Nat.reduceLT]
    rfl
theorem mutateDelta_L1 (T : Nat → Option AFun) (hf : (decide (D.facts.length = 0)) = (decide (kind = 3) || decide (kind = 5))) (hr : ∀ r ∈ D.seen, r.Right) (hl : D.seen.length ≤ 1000) (hsum : sumR' D.seen ≤ 2000) :
    ∀ (rest pre : List Rn) (e : Env), D.seen = pre ++ rest → e 10 = .c (.ptr 1 0 0) → e 11 = .c (.ptr 2 0 0) → e 13 = iC (sumR' rest) → e 15 = iC pre.length →
    Run (progT Tryz.prog T) ⟨[.tmp 8], fun u E => viewA E u = some (bC true)⟩ [.loop l11_MutateDelta_L1, .blk 2, .code l11_MutateDelta_K2] e (heap3 s D kind n key item) := by
  intro rest
  induction rest with
  | nil =>
    intro pre e hp h10 h11 h13 h15
    have hc := not_lt_at (f := Rn.cells) hp
    refine run_again ?_
    conv => enter [3, 1]; unfold l11_MutateDelta_L1
    simp only [go_sem, reduceCtorEq, Nat.reduceEqDiff, Nat.reduceAdd, Nat.reduceSub, Nat.reduceMul, Nat.reduceLeDiff, Int.reduceEq, Int.reduceLT, Int.reduceLE, Int.reduceAdd, Int.reduceMul, Int.reduceSub, Int.reduceNeg, Int.reduceToNat, reduceIte, Nat.reduceLT, h11, h15, hc]
    refine mutateDelta_K2 T hf ?_ ?_ ?_
    all_goals simp only [go_sem, reduceCtorEq, Nat.reduceEqDiff, Nat.reduceAdd, Nat.reduceSub, Nat.reduceMul, Nat.reduceLeDiff, Int.reduceEq, Int.reduceLT, Int.reduceLE, Int.reduceAdd, Int.reduceMul, Int.reduceSub, Int.reduceNeg, Int.reduceToNat, reduceIte, Nat.reduceLT, h10, h11, h13]
    rfl
  | cons r rest ih =>
    intro pre e hp h10 h11 h13 h15
    have hc := lt_at (f := Rn.cells) hp
    have hx := map_at' (f := Rn.cells) hp
    have hn := next_at hp (by unfold maxLen; omega)
    have hrr := hr r (by rw [hp]; simp)
    have h1 := hrr.ft
    have h2 := hrr.tm
    have h3 := hrr.f1
    have w1 : IntKind.wrap .i64 (r.to - r.frm) = r.to - r.frm := wrap64 (by omega)
    have w2 : IntKind.wrap .i64 (r.to - r.frm + 1) = r.to - r.frm + 1 := wrap64 (by omega)
    have hs : sumR' (r :: rest) = (r.to - r.frm + 1) + sumR' rest := rfl
    have hpos := sumR'_pos (l := rest) fun x h => hr x (by rw [hp]; simp [h])
    have hpp := sumR'_pos (l := pre) fun x h => hr x (by rw [hp]; simp [h])
    have hall : sumR' D.seen = sumR' pre + sumR' (r :: rest) := by rw [hp, sumR'_append]
    have w3 : IntKind.wrap .i64 (sumR' (r :: rest) - (r.to - r.frm + 1)) = sumR' rest := by rw [wrap64 (by omega)]; omega
    refine run_again ?_
    conv => enter [3, 1]; unfold l11_MutateDelta_L1
    simp only [go_sem, reduceCtorEq, Nat.reduceEqDiff, Nat.reduceAdd, Nat.reduceSub, Nat.reduceMul, Nat.reduceLeDiff, Int.reduceEq, Int.reduceLT, Int.reduceLE, Int.reduceAdd, Int.reduceMul, Int.reduceSub, Int.reduceNeg, Int.reduceToNat, reduceIte, Nat.reduceLT, h11, h13, h15, hc, hx, w1, w2, w3, hn]
    refine ih (pre ++ [r]) _ (by simp [hp]) ?_ ?_ ?_ ?_
    all_goals simp only [go_sem, reduceCtorEq, Nat.reduceEqDiff, Nat.reduceAdd, Nat.reduceSub, Nat.reduceMul, Nat.reduceLeDiff, Int.reduceEq, Int.reduceLT, Int.reduceLE, Int.reduceAdd, Int.reduceMul, Int.reduceSub, Int.reduceNeg, Int.reduceToNat, reduceIte, Nat.reduceLT, h10, h11, w3, hn]
theorem mutateDelta_L0 (T : Nat → Option AFun) (hf : (decide (D.facts.length = 0)) = (decide (kind = 3) || decide (kind = 5))) (hr : ∀ r ∈ D.seen, r.Right) (hl : D.seen.length ≤ 1000) (hfl : s.facts.length ≤ 1000) (hkey : ∀ f ∈ s.facts, hasDot D.seen f.dot = true → f.key = key)
    (m : Nat) (hm : m ≤ 1) (hsum : sumR' D.seen = ((s.facts.filter fun f => hasDot D.seen f.dot).length : Int) + m) :
    ∀ (rest pre : List Fact) (e : Env), s.facts = pre ++ rest → e 9 = .c (.ptr 0 0 0) → e 10 = .c (.ptr 1 0 0) → e 11 = .c (.ptr 2 0 0) → e 13 = iC ((m + (pre.filter fun f => hasDot D.seen f.dot).length : Nat) : Int) → e 14 = iC pre.length →
    Run (progT Tryz.prog T) ⟨[.tmp 8], fun u E => viewA E u = some (bC true)⟩ [.loop l11_MutateDelta_L0, .blk 0, .code l11_MutateDelta_K3] e (heap3 s D kind n key item) := by
  intro rest
  have hfil : (s.facts.filter fun f => hasDot D.seen f.dot).length ≤ 1000 := Nat.le_trans (List.length_filter_le _ _) hfl
  induction rest with
  | nil =>
    intro pre e hp h9 h10 h11 h13 h14
    have hc := not_lt_at (f := Fact.cells) hp
    refine run_again ?_
    conv => enter [3, 1]; unfold l11_MutateDelta_L0
    simp only [go_sem, reduceCtorEq, Nat.reduceEqDiff, Nat.reduceAdd, Nat.reduceSub, Nat.reduceMul, Nat.reduceLeDiff, Int.reduceEq, Int.reduceLT, Int.reduceLE, Int.reduceAdd, Int.reduceMul, Int.reduceSub, Int.reduceNeg, Int.reduceToNat, reduceIte, Nat.reduceLT, h9, h14, hc]
    unfold l11_MutateDelta_K3
    simp only [go_sem, reduceCtorEq, Nat.reduceEqDiff, Nat.reduceAdd, Nat.reduceSub, Nat.reduceMul, Nat.reduceLeDiff, Int.reduceEq, Int.reduceLT, Int.reduceLE, Int.reduceAdd, Int.reduceMul, Int.reduceSub, Int.reduceNeg, Int.reduceToNat, reduceIte, Nat.reduceLT]
    rw [List.append_nil] at hp
    refine mutateDelta_L1 T hf hr hl (by omega) D.seen [] _ rfl ?_ ?_ ?_ ?_
    all_goals simp only [go_sem, reduceCtorEq, Nat.reduceEqDiff, Nat.reduceAdd, Nat.reduceSub, Nat.reduceMul, Nat.reduceLeDiff, Int.reduceEq, Int.reduceLT, Int.reduceLE, Int.reduceAdd, Int.reduceMul, Int.reduceSub, Int.reduceNeg, Int.reduceToNat, reduceIte, Nat.reduceLT, h10, h11, h13, List.length_nil, Int.natCast_zero]
    have : sumR' D.seen = ((m + (pre.filter fun f => hasDot D.seen f.dot).length : Nat) : Int) := by rw [hp] at hsum; omega
    rw [this]
  | cons r rest ih =>
    intro pre e hp h9 h10 h11 h13 h14
    have hc := lt_at (f := Fact.cells) hp
    have hx := map_at' (f := Fact.cells) hp
    have hn := next_at hp (by unfold maxLen; omega)
    have hpf : (pre.filter fun f => hasDot D.seen f.dot).length ≤ pre.length := List.length_filter_le _ _
    have hpl : pre.length < s.facts.length := by rw [hp]; simp
    have hh := r7_Has_ok D.seen r.dot
    refine run_again ?_
    conv => enter [3, 1]; unfold l11_MutateDelta_L0
    simp only [go_sem, reduceCtorEq, Nat.reduceEqDiff, Nat.reduceAdd, Nat.reduceSub, Nat.reduceMul, Nat.reduceLeDiff, Int.reduceEq, Int.reduceLT, Int.reduceLE, Int.reduceAdd, Int.reduceMul, Int.reduceSub, Int.reduceNeg, Int.reduceToNat, reduceIte, Nat.reduceLT, h9, h11, h14, hc, hx]
    refine callW_pure hh ?_
    cases hd : hasDot D.seen r.dot with
    | false =>
      simp only [go_sem, reduceCtorEq, Nat.reduceEqDiff, Nat.reduceAdd, Nat.reduceSub, Nat.reduceMul, Nat.reduceLeDiff, Int.reduceEq, Int.reduceLT, Int.reduceLE, Int.reduceAdd, Int.reduceMul, Int.reduceSub, Int.reduceNeg, Int.reduceToNat, reduceIte, Nat.reduceLT, h14, hn]
      refine ih (pre ++ [r]) _ (by simp [hp]) ?_ ?_ ?_ ?_ ?_
      all_goals simp only [go_sem, reduceCtorEq, Nat.reduceEqDiff, Nat.reduceAdd, Nat.reduceSub, Nat.reduceMul, Nat.reduceLeDiff, Int.reduceEq, Int.reduceLT, Int.reduceLE, Int.reduceAdd, Int.reduceMul, Int.reduceSub, Int.reduceNeg, Int.reduceToNat, reduceIte, Nat.reduceLT, h9, h10, h11, h13, hn]
      rw [List.filter_append, List.filter_cons_of_neg (by simp [hd])]
      simp
    | true =>
      have hk : r.key = key := hkey r (by rw [hp]; simp) hd
      have w1 : IntKind.wrap .i64 (((m + (pre.filter fun f => hasDot D.seen f.dot).length : Nat) : Int) + 1) = ((m + ((pre ++ [r]).filter fun f => hasDot D.seen f.dot).length : Nat) : Int) := by
        rw [wrap64 (by omega), List.filter_append, List.filter_cons_of_pos (by simp [hd])]
        simp
        omega
      simp only [go_sem, reduceCtorEq, Nat.reduceEqDiff, Nat.reduceAdd, Nat.reduceSub, Nat.reduceMul, Nat.reduceLeDiff, Int.reduceEq, Int.reduceLT, Int.reduceLE, Int.reduceAdd, Int.reduceMul, Int.reduceSub, Int.reduceNeg, Int.reduceToNat, reduceIte, Nat.reduceLT, h9, h10, h13, h14, hx, hk, w1, hn]
      refine ih (pre ++ [r]) _ (by simp [hp]) ?_ ?_ ?_ ?_ ?_
      all_goals simp only [go_sem, reduceCtorEq, Nat.reduceEqDiff, Nat.reduceAdd, Nat.reduceSub, Nat.reduceMul, Nat.reduceLeDiff, Int.reduceEq, Int.reduceLT, Int.reduceLE, Int.reduceAdd, Int.reduceMul, Int.reduceSub, Int.reduceNeg, Int.reduceToNat, reduceIte, Nat.reduceLT, h9, h10, h11, w1, hn]
end

set_option maxRecDepth 20000 in
set_option maxHeartbeats 4000000 in
theorem l11_MutateDelta_ok (ns : List Nat) (hb : ∀ n ∈ ns, n < 256) (a b dev : Nat) (ha : a < 256) (hbb : b < 256) (hdv : dev < 256) :
    Pr 8 [.c (bytesC ns), .c (.int .u8 (a : Int)), .c (.int .u8 (b : Int)), .c (.int .u8 (dev : Int))] (bC true) := by
  refine pure_of mixed is_l11_MutateDelta (by simp [closedAs, closedA, closedC, bytesC, closed_bytes]) fun _ T => ?_
  have haw := l11_awake_ok
  have hap := l9_Apart_ok ns hb
  have hall := all_ok ns
  have hsm := all_small ns
  unfold c_l11_MutateDelta
  generalize apartS ns = l at *
  generalize allL l = s at *
  have hg := hsm.good
  obtain ⟨z1, z2⟩ := hsm.sizes
  have o1 := l8_Op_ok a b ha hbb
  have rd : (dev : Int).tmod 4 = ((dev % 4 : Nat) : Int) := by rw [Int.tmod_eq_emod_of_nonneg (by omega)]; omega
  have wd : IntKind.wrap .i64 (dev : Int) = dev := wrap64 (by omega)
  generalize ((dev % 4 : Nat) : Int) = dv at *
  generalize opOf a b = o at *
  have m1 := mutate_Do_ok s dv o hg (by omega) (by omega)
  have hlast := r7_Last_ok s.seen dv
  have hll := lastL_le (d := dv) hg.norm.right
  have wl : IntKind.wrap .i64 (lastL s.seen dv + 1) = lastL s.seen dv + 1 := wrap64 (by omega)
  have zx : (doL s dv o).2 = 0 → badOp dv o = false ∧ (makes o && largeF (madeF s dv o)) = false ∧ (doL s dv o).1 = deltaL s dv o := fun h => by
    obtain ⟨h1, h2, h3, _⟩ := doL_zero h
    exact ⟨h1, h2, h3⟩
  generalize doL s dv o = X at *
  have n1 := l1_Num_ok X.2
  obtain ⟨kind, key, item, n⟩ := o
  simp only [go_sem, reduceCtorEq, Nat.reduceEqDiff, Nat.reduceAdd, Nat.reduceSub, Nat.reduceMul, Nat.reduceLeDiff, Int.reduceEq, Int.reduceLT, Int.reduceLE, Int.reduceAdd, Int.reduceMul, Int.reduceSub, Int.reduceNeg, Int.reduceToNat, reduceIte, Nat.reduceLT]
  refine callW_pure hap ?_
  simp only [go_sem, reduceCtorEq, Nat.reduceEqDiff, Nat.reduceAdd, Nat.reduceSub, Nat.reduceMul, Nat.reduceLeDiff, Int.reduceEq, Int.reduceLT, Int.reduceLE, Int.reduceAdd, Int.reduceMul, Int.reduceSub, Int.reduceNeg, Int.reduceToNat, reduceIte, Nat.reduceLT]
  refine callW_pure hall ?_
  simp only [go_sem, reduceCtorEq, Nat.reduceEqDiff, Nat.reduceAdd, Nat.reduceSub, Nat.reduceMul, Nat.reduceLeDiff, Int.reduceEq, Int.reduceLT, Int.reduceLE, Int.reduceAdd, Int.reduceMul, Int.reduceSub, Int.reduceNeg, Int.reduceToNat, reduceIte, Nat.reduceLT]
  refine callW_pure o1 ?_
  simp only [go_sem, reduceCtorEq, Nat.reduceEqDiff, Nat.reduceAdd, Nat.reduceSub, Nat.reduceMul, Nat.reduceLeDiff, Int.reduceEq, Int.reduceLT, Int.reduceLE, Int.reduceAdd, Int.reduceMul, Int.reduceSub, Int.reduceNeg, Int.reduceToNat, reduceIte, Nat.reduceLT, vBin_rem, wd, rd]
  refine callW_pure m1 ?_
  simp only [go_sem, reduceCtorEq, Nat.reduceEqDiff, Nat.reduceAdd, Nat.reduceSub, Nat.reduceMul, Nat.reduceLeDiff, Int.reduceEq, Int.reduceLT, Int.reduceLE, Int.reduceAdd, Int.reduceMul, Int.reduceSub, Int.reduceNeg, Int.reduceToNat, reduceIte, Nat.reduceLT]
  refine callW_pure n1 ?_
  by_cases hX : X.2 = 0
  · obtain ⟨hbad, hlarge, hx⟩ := zx hX
    have hD := delta_good hg hbad hlarge
    obtain ⟨e1, e2⟩ := delta_len (s := s) (dev := dv) (o := ⟨kind, key, item, n⟩)
    have hkey : ∀ f ∈ s.facts, hasDot (deltaL s dv ⟨kind, key, item, n⟩).seen f.dot = true → f.key = key := fun f hf h => by
      rw [delta_of_fact hg hbad hlarge hf] at h
      exact goes_key h
    have hfil : (s.facts.filter fun f => hasDot (deltaL s dv ⟨kind, key, item, n⟩).seen f.dot) = goneL s dv ⟨kind, key, item, n⟩ := List.filter_congr fun f hf => delta_of_fact hg hbad hlarge hf
    have hcount := delta_count hg hbad hlarge
    have hout := delta_out s dv ⟨kind, key, item, n⟩
    have hml : makes ⟨kind, key, item, n⟩ = (!decide (kind = 3) && !decide (kind = 5)) := rfl
    cases hm : makes ⟨kind, key, item, n⟩ with
    | false =>
      have hfacts : (deltaL s dv ⟨kind, key, item, n⟩).facts = [] := by rw [hout]; unfold madeL; rw [hm]; rfl
      have hnew : newN ⟨kind, key, item, n⟩ = 0 := by unfold newN; rw [hm]; rfl
      rw [hnew, ← hfil] at hcount
      have hk : kind = 3 ∨ kind = 5 := by
        rw [hml] at hm
        simp at hm
        omega
      have hf : decide ((deltaL s dv ⟨kind, key, item, n⟩).facts.length = 0) = (decide (kind = 3) || decide (kind = 5)) := by
        rw [hfacts]
        rcases hk with rfl | rfl <;> rfl
      generalize hDD : deltaL s dv ⟨kind, key, item, n⟩ = D at *
      have loop := mutateDelta_L0 (n := n) (item := item) T hf hD.norm.right (by omega) (by omega) hkey 0 (by omega) (by simpa using hcount) s.facts []
      rcases hk with rfl | rfl
      · simp only [go_sem, reduceCtorEq, Nat.reduceEqDiff, Nat.reduceAdd, Nat.reduceSub, Nat.reduceMul, Nat.reduceLeDiff, Int.reduceEq, Int.reduceLT, Int.reduceLE, Int.reduceAdd, Int.reduceMul, Int.reduceSub, Int.reduceNeg, Int.reduceToNat, reduceIte, Nat.reduceLT, hX, hx]
        refine loop _ rfl ?_ ?_ ?_ ?_ ?_
        all_goals simp only [go_sem, reduceCtorEq, Nat.reduceEqDiff, Nat.reduceAdd, Nat.reduceSub, Nat.reduceMul, Nat.reduceLeDiff, Int.reduceEq, Int.reduceLT, Int.reduceLE, Int.reduceAdd, Int.reduceMul, Int.reduceSub, Int.reduceNeg, Int.reduceToNat, reduceIte, Nat.reduceLT, List.length_nil, List.filter_nil, Nat.add_zero, Int.natCast_zero]
      · simp only [go_sem, reduceCtorEq, Nat.reduceEqDiff, Nat.reduceAdd, Nat.reduceSub, Nat.reduceMul, Nat.reduceLeDiff, Int.reduceEq, Int.reduceLT, Int.reduceLE, Int.reduceAdd, Int.reduceMul, Int.reduceSub, Int.reduceNeg, Int.reduceToNat, reduceIte, Nat.reduceLT, hX, hx]
        refine loop _ rfl ?_ ?_ ?_ ?_ ?_
        all_goals simp only [go_sem, reduceCtorEq, Nat.reduceEqDiff, Nat.reduceAdd, Nat.reduceSub, Nat.reduceMul, Nat.reduceLeDiff, Int.reduceEq, Int.reduceLT, Int.reduceLE, Int.reduceAdd, Int.reduceMul, Int.reduceSub, Int.reduceNeg, Int.reduceToNat, reduceIte, Nat.reduceLT, List.length_nil, List.filter_nil, Nat.add_zero, Int.natCast_zero]
    | true =>
      have hfacts : (deltaL s dv ⟨kind, key, item, n⟩).facts = [madeF s dv ⟨kind, key, item, n⟩] := by rw [hout]; unfold madeL; rw [hm]; rfl
      have hnew : newN ⟨kind, key, item, n⟩ = 1 := by unfold newN; rw [hm]; rfl
      rw [hnew, ← hfil] at hcount
      have hk : kind ≠ 3 ∧ kind ≠ 5 := by
        rw [hml] at hm
        simpa using hm
      obtain ⟨hk3, hk5⟩ := hk
      have hf : decide ((deltaL s dv ⟨kind, key, item, n⟩).facts.length = 0) = (decide (kind = 3) || decide (kind = 5)) := by
        rw [hfacts]; simp [hk3, hk5]
      have hhas : hasDot (deltaL s dv ⟨kind, key, item, n⟩).seen (madeF s dv ⟨kind, key, item, n⟩).dot = true := (delta_seen hg hbad hlarge _).2 (.inr ⟨hm, rfl⟩)
      have hh := r7_Has_ok (deltaL s dv ⟨kind, key, item, n⟩).seen (madeF s dv ⟨kind, key, item, n⟩).dot
      rw [hhas] at hh
      have hfk : (madeF s dv ⟨kind, key, item, n⟩).key = key := rfl
      have hfd : (madeF s dv ⟨kind, key, item, n⟩).dev = dv := rfl
      have hfn : (madeF s dv ⟨kind, key, item, n⟩).n = lastL s.seen dv + 1 := rfl
      generalize madeF s dv ⟨kind, key, item, n⟩ = f at *
      generalize hDD : deltaL s dv ⟨kind, key, item, n⟩ = D at *
      have loop := mutateDelta_L0 (n := n) (item := item) T hf hD.norm.right (by omega) (by omega) hkey 1 (by omega) (by simpa using hcount) s.facts []
      have c1 : ((1 : Nat) : Int) = 1 := rfl
      have cx : ∀ (x : List Cell) (H : Heap), vIx 6 (.c (.lst 6 [x])) (.c (.int .i64 0)) H = some (.c (.fp x 0), H) := fun _ _ => rfl
      simp only [heap3] at loop
      have ec : f.cells = [.int .i64 dv, .int .i64 (lastL s.seen dv + 1), .str key, .int .i64 f.kind, .str f.item, .int .i64 f.num] := by unfold Fact.cells; rw [hfk, hfd, hfn]
      rw [hfacts] at loop
      simp only [List.map_cons, List.map_nil, ec] at loop
      simp only [go_sem, reduceCtorEq, Nat.reduceEqDiff, Nat.reduceAdd, Nat.reduceSub, Nat.reduceMul, Nat.reduceLeDiff, Int.reduceEq, Int.reduceLT, Int.reduceLE, Int.reduceAdd, Int.reduceMul, Int.reduceSub, Int.reduceNeg, Int.reduceToNat, reduceIte, Nat.reduceLT, hX, hx, hk3, hk5, hfacts, c1, cx, vBin_rem, wd, rd]
      refine callW_pure hlast ?_
      have heq : ∀ (x y : Int) (H : Heap), vEqS true [0, 0] (.agg [.int .i64 x, .int .i64 y]) (.agg [.int .i64 x, .int .i64 y]) H = some (bC false, H) := fun x y H => by
        simp [vEqS, evEqCells, evEqCell]
      simp only [go_sem, reduceCtorEq, Nat.reduceEqDiff, Nat.reduceAdd, Nat.reduceSub, Nat.reduceMul, Nat.reduceLeDiff, Int.reduceEq, Int.reduceLT, Int.reduceLE, Int.reduceAdd, Int.reduceMul, Int.reduceSub, Int.reduceNeg, Int.reduceToNat, reduceIte, Nat.reduceLT, wl, c1, cx, hfk, hfd, hfn, heq]
      have hh' : Pr 29 [.c (runsC D.seen), .agg [.int .i64 dv, .int .i64 (lastL s.seen dv + 1)]] (bC true) := by
        have e : f.dot.cells = [.int .i64 dv, .int .i64 (lastL s.seen dv + 1)] := by unfold Fact.dot Dot.cells; rw [hfd, hfn]
        rw [← e]; exact hh
      refine callW_pure hh' ?_
      simp only [go_sem, reduceCtorEq, Nat.reduceEqDiff, Nat.reduceAdd, Nat.reduceSub, Nat.reduceMul, Nat.reduceLeDiff, Int.reduceEq, Int.reduceLT, Int.reduceLE, Int.reduceAdd, Int.reduceMul, Int.reduceSub, Int.reduceNeg, Int.reduceToNat, reduceIte, Nat.reduceLT]
      refine loop _ rfl ?_ ?_ ?_ ?_ ?_
      all_goals simp only [go_sem, reduceCtorEq, Nat.reduceEqDiff, Nat.reduceAdd, Nat.reduceSub, Nat.reduceMul, Nat.reduceLeDiff, Int.reduceEq, Int.reduceLT, Int.reduceLE, Int.reduceAdd, Int.reduceMul, Int.reduceSub, Int.reduceNeg, Int.reduceToNat, reduceIte, Nat.reduceLT, List.length_nil, List.filter_nil, Nat.add_zero, Int.natCast_zero, c1]
  · simp only [go_sem, reduceCtorEq, Nat.reduceEqDiff, Nat.reduceAdd, Nat.reduceSub, Nat.reduceMul, Nat.reduceLeDiff, Int.reduceEq, Int.reduceLT, Int.reduceLE, Int.reduceAdd, Int.reduceMul, Int.reduceSub, Int.reduceNeg, Int.reduceToNat, reduceIte, Nat.reduceLT, hX]
    refine callW_pure haw ?_
    simp only [go_sem, reduceCtorEq, Nat.reduceEqDiff, Nat.reduceAdd, Nat.reduceSub, Nat.reduceMul, Nat.reduceLeDiff, Int.reduceEq, Int.reduceLT, Int.reduceLE, Int.reduceAdd, Int.reduceMul, Int.reduceSub, Int.reduceNeg, Int.reduceToNat, reduceIte, Nat.reduceLT]
    rfl

theorem l11_MutateDelta_law (ns : List Nat) (_ : ns.length ≤ maxLen) (hb : ∀ n ∈ ns, n < 256) (a : Int) (ha : IntKind.min .u8 ≤ a ∧ a ≤ IntKind.max .u8) (b : Int) (hbb : IntKind.min .u8 ≤ b ∧ b ≤ IntKind.max .u8) (d : Int) (hd : IntKind.min .u8 ≤ d ∧ d ≤ IntKind.max .u8) :
    Pr 8 [.c (bytesC ns), .c (.int .u8 a), .c (.int .u8 b), .c (.int .u8 d)] (bC true) := by
  obtain ⟨a, rfl, q1⟩ := u8_nat ha
  obtain ⟨b, rfl, q2⟩ := u8_nat hbb
  obtain ⟨d, rfl, q3⟩ := u8_nat hd
  exact l11_MutateDelta_ok ns hb a b d q1 q2 q3

end Go.Proofs.YtnccbccnjjachaaGreatDoor.Eng
