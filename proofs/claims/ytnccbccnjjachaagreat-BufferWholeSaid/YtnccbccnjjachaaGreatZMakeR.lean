/- Contracts of the laws' own states by numbers. No statement of the seat is proved here. -/
import Derived.Test.YtnccbccnjjachaaGreatZDoU
namespace Go.Proofs.YtnccbccnjjachaaGreat.Eng
open Go
set_option linter.unusedVariables false
set_option linter.unusedSimpArgs false

def stepS (s : State) (dev : Int) (o : OpR) : State := if (doL s dev o).2 = 0 then joinL s (doL s dev o).1 else s
/-- What deeds make, two numbers a deed, so many at most. -/
def makeFrom : Nat → State → List Nat → State
  | k + 1, s, a :: b :: rest => makeFrom k (stepS s ((a / 16 % 4 : Nat) : Int) (opOf a b)) rest
  | _, s, _ => s
def makeS (ns : List Nat) : State := makeFrom 40 ⟨[], []⟩ ns

theorem stepS_fine {s : State} (h : Fine s) {dev : Int} {o : OpR} : Fine (stepS s dev o) ∧ (stepS s dev o).facts.length ≤ s.facts.length + 1 ∧ (stepS s dev o).seen.length ≤ s.seen.length + (s.facts.length + 1) := by
  unfold stepS
  split
  · obtain ⟨h1, h2, h3⟩ := doL_good h.toGood (dev := dev) (o := o)
    obtain ⟨h4, h5⟩ := joinL_len (a := s) (b := (doL s dev o).1)
    exact ⟨joinL_fine h (doL_fine h.toGood), by omega, by omega⟩
  · exact ⟨h, by omega, by omega⟩
theorem makeFrom_fine : ∀ {k : Nat} {ns : List Nat} {s : State}, Fine s → s.facts.length ≤ 40 - k → s.seen.length ≤ 100 * (40 - k) → k ≤ 40 → Fine (makeFrom k s ns) ∧ (makeFrom k s ns).facts.length ≤ 40 ∧ (makeFrom k s ns).seen.length ≤ 4000
  | 0, ns, s, h, h1, h2, _ => by simp only [makeFrom]; exact ⟨h, by omega, by omega⟩
  | k + 1, [], s, h, h1, h2, _ => by simp only [makeFrom]; exact ⟨h, by omega, by omega⟩
  | k + 1, [a], s, h, h1, h2, _ => by simp only [makeFrom]; exact ⟨h, by omega, by omega⟩
  | k + 1, a :: b :: rest, s, h, h1, h2, hk => by
    simp only [makeFrom]
    obtain ⟨h3, h4, h5⟩ := stepS_fine h (dev := ((a / 16 % 4 : Nat) : Int)) (o := opOf a b)
    exact makeFrom_fine h3 (by omega) (by omega) (by omega)
theorem makeS_fine (ns : List Nat) : Fine (makeS ns) ∧ (makeS ns).facts.length ≤ 40 ∧ (makeS ns).seen.length ≤ 4000 := makeFrom_fine .nil (by simp) (by simp) (Nat.le_refl _)

theorem l8_Make_ok (l : List Nat) (hl : l.length ≤ maxLen) (hb : ∀ n ∈ l, n < 256) : Pr 26 [.c (bytesC l)] (.agg (makeS l).cells) := by
  refine pure_ofW mixed is_l8_Make (by simp [closedAs, closedA, closedC, bytesC, closed_bytes]) fun _ T => ?_
  unfold c_l8_Make
  dsimp only [bytesC]
  generalize hv : makeS l = v
  simp only [go_sem, reduceCtorEq, Nat.reduceEqDiff, Nat.reduceAdd, Nat.reduceSub, Nat.reduceMul, Nat.reduceLeDiff, Int.reduceEq, Int.reduceLT, Int.reduceLE, Int.reduceAdd, Int.reduceMul, Int.reduceSub, Int.reduceNeg, Int.reduceToNat, reduceIte, Nat.reduceLT]
  have loop : ∀ (k : Nat) (rest pre : List Nat) (s : State) (c d : Cell) (e : Env) (H : Heap), SC c d s → l = pre ++ rest → k ≤ 40 → pre.length = 2 * (40 - k) → e 0 = .c (.lst 1 (l.map byteC)) → e 2 = .c (.ptr 0 0 0) → e 3 = .c (.ptr 1 0 0) → e 4 = iC pre.length →
      Fine s → s.facts.length ≤ 40 - k → s.seen.length ≤ 100 * (40 - k) → makeFrom k s rest = v →
      Run (progT Tryz.prog T) ⟨[.cell 2 true 2], fun u E => viewW E u (.agg v.cells)⟩ [.loop l8_Make_L0, .blk 0, .code l8_Make_K1] e ({ sz := 2, rows := [[.nilS, .nilS]] } :: { sz := 2, rows := [[c, d]] } :: H) := by
    intro k
    induction k with
    | zero =>
      intro rest pre s c d e H hsc hp hk hpl h0 h2 h3 h4 hf hfl hsl hm
      have hd : ¬ ((pre.length : Int) < 80) := by omega
      have w1 : IntKind.wrap .i64 ((pre.length : Int) + 1) = (pre.length : Int) + 1 := wrap64 (by omega)
      simp only [makeFrom] at hm
      subst hm
      refine run_again ?_
      conv => enter [3, 1]; unfold l8_Make_L0
      by_cases hc : ((pre.length : Int) + 1 < ((l.map byteC).length : Int))
      all_goals
        simp only [go_sem, reduceCtorEq, Nat.reduceEqDiff, Nat.reduceAdd, Nat.reduceSub, Nat.reduceMul, Nat.reduceLeDiff, Int.reduceEq, Int.reduceLT, Int.reduceLE, Int.reduceAdd, Int.reduceMul, Int.reduceSub, Int.reduceNeg, Int.reduceToNat, reduceIte, Nat.reduceLT, h0, h2, h3, h4, hc, hd, w1]
        unfold l8_Make_K1
        simp only [go_sem, reduceCtorEq, Nat.reduceEqDiff, Nat.reduceAdd, Nat.reduceSub, Nat.reduceMul, Nat.reduceLeDiff, Int.reduceEq, Int.reduceLT, Int.reduceLE, Int.reduceAdd, Int.reduceMul, Int.reduceSub, Int.reduceNeg, Int.reduceToNat, reduceIte, Nat.reduceLT, h2, h3]
        exact hsc.told
    | succ k ih =>
      intro rest pre s c d e H hsc hp hk hpl h0 h2 h3 h4 hf hfl hsl hm
      have w1 : IntKind.wrap .i64 ((pre.length : Int) + 1) = (pre.length : Int) + 1 := wrap64 (by omega)
      have hd : ((pre.length : Int) < 80) := by omega
      refine run_again ?_
      conv => enter [3, 1]; unfold l8_Make_L0
      match rest, hp, hm with
      | [], hp, hm =>
        have hc : ¬ ((pre.length : Int) + 1 < ((l.map byteC).length : Int)) := by rw [hp]; simp; omega
        simp only [makeFrom] at hm
        subst hm
        simp only [go_sem, reduceCtorEq, Nat.reduceEqDiff, Nat.reduceAdd, Nat.reduceSub, Nat.reduceMul, Nat.reduceLeDiff, Int.reduceEq, Int.reduceLT, Int.reduceLE, Int.reduceAdd, Int.reduceMul, Int.reduceSub, Int.reduceNeg, Int.reduceToNat, reduceIte, Nat.reduceLT, h0, h2, h3, h4, hc, hd, w1]
        unfold l8_Make_K1
        simp only [go_sem, reduceCtorEq, Nat.reduceEqDiff, Nat.reduceAdd, Nat.reduceSub, Nat.reduceMul, Nat.reduceLeDiff, Int.reduceEq, Int.reduceLT, Int.reduceLE, Int.reduceAdd, Int.reduceMul, Int.reduceSub, Int.reduceNeg, Int.reduceToNat, reduceIte, Nat.reduceLT, h2, h3]
        exact hsc.told
      | [a], hp, hm =>
        have hc : ¬ ((pre.length : Int) + 1 < ((l.map byteC).length : Int)) := by rw [hp]; simp
        simp only [makeFrom] at hm
        subst hm
        simp only [go_sem, reduceCtorEq, Nat.reduceEqDiff, Nat.reduceAdd, Nat.reduceSub, Nat.reduceMul, Nat.reduceLeDiff, Int.reduceEq, Int.reduceLT, Int.reduceLE, Int.reduceAdd, Int.reduceMul, Int.reduceSub, Int.reduceNeg, Int.reduceToNat, reduceIte, Nat.reduceLT, h0, h2, h3, h4, hc, hd, w1]
        unfold l8_Make_K1
        simp only [go_sem, reduceCtorEq, Nat.reduceEqDiff, Nat.reduceAdd, Nat.reduceSub, Nat.reduceMul, Nat.reduceLeDiff, Int.reduceEq, Int.reduceLT, Int.reduceLE, Int.reduceAdd, Int.reduceMul, Int.reduceSub, Int.reduceNeg, Int.reduceToNat, reduceIte, Nat.reduceLT, h2, h3]
        exact hsc.told
      | a :: b :: rest, hp, hm =>
        have hc : ((pre.length : Int) + 1 < ((l.map byteC).length : Int)) := by rw [hp]; simp; omega
        have ha : a < 256 := hb a (by rw [hp]; simp)
        have hbb : b < 256 := hb b (by rw [hp]; simp)
        have g1 := map_at' (f := byteC) hp
        have hp2 : l = (pre ++ [a]) ++ b :: rest := by rw [hp]; simp
        have g2 := map_at' (f := byteC) hp2
        have e1 : (pre.length : Int) + 1 = ((pre ++ [a]).length : Int) := by simp
        have w2 : IntKind.wrap .i64 ((pre.length : Int) + 2) = ((pre ++ [a, b]).length : Int) := by rw [wrap64 (by omega)]; simp
        have w3 : IntKind.wrap .i64 (a : Int) = (a : Int) := wrap64 (by omega)
        have w4 : IntKind.wrap .i64 ((a : Int).tdiv 16) = ((a / 16 : Nat) : Int) := by
          have : (a : Int).tdiv 16 = ((a / 16 : Nat) : Int) := by rw [Int.tdiv_eq_ediv_of_nonneg (by omega)]; omega
          rw [this, wrap64 (by omega)]
        have w5 : ((a / 16 : Nat) : Int).tmod 4 = ((a / 16 % 4 : Nat) : Int) := by rw [Int.tmod_eq_emod_of_nonneg (by omega)]; omega
        have hs5 := hf.toGood
        simp only [go_sem, reduceCtorEq, Nat.reduceEqDiff, Nat.reduceAdd, Nat.reduceSub, Nat.reduceMul, Nat.reduceLeDiff, Int.reduceEq, Int.reduceLT, Int.reduceLE, Int.reduceAdd, Int.reduceMul, Int.reduceSub, Int.reduceNeg, Int.reduceToNat, reduceIte, Nat.reduceLT, h0, h2, h3, h4, hc, hd, w1, g1, w3, vBin_rem, vBin_quo, w4, w5]
        rw [e1]
        simp only [go_sem, reduceCtorEq, Nat.reduceEqDiff, Nat.reduceAdd, Nat.reduceSub, Nat.reduceMul, Nat.reduceLeDiff, Int.reduceEq, Int.reduceLT, Int.reduceLE, Int.reduceAdd, Int.reduceMul, Int.reduceSub, Int.reduceNeg, Int.reduceToNat, reduceIte, Nat.reduceLT, g2]
        refine callW_pure (l8_Op_ok a b ha hbb) ?_
        simp only [go_sem, reduceCtorEq, Nat.reduceEqDiff, Nat.reduceAdd, Nat.reduceSub, Nat.reduceMul, Nat.reduceLeDiff, Int.reduceEq, Int.reduceLT, Int.reduceLE, Int.reduceAdd, Int.reduceMul, Int.reduceSub, Int.reduceNeg, Int.reduceToNat, reduceIte, Nat.reduceLT, h2, h3, h4]
        refine callW_pure ((r7_Do_ok s ((a / 16 % 4 : Nat) : Int) (opOf a b) hs5 (by omega) (by omega)).wk (.cons hsc.wk (.cons (.same _) (.cons (.same _) .nil)))) ?_
        obtain ⟨f1, f2, f3⟩ := stepS_fine hf (dev := ((a / 16 % 4 : Nat) : Int)) (o := opOf a b)
        obtain ⟨d1, d2, d3⟩ := doL_good hs5 (dev := ((a / 16 % 4 : Nat) : Int)) (o := opOf a b)
        have hm' : makeFrom k (stepS s ((a / 16 % 4 : Nat) : Int) (opOf a b)) rest = v := hm
        by_cases hz : (doL s ((a / 16 % 4 : Nat) : Int) (opOf a b)).2 = 0
        · simp only [go_sem, reduceCtorEq, Nat.reduceEqDiff, Nat.reduceAdd, Nat.reduceSub, Nat.reduceMul, Nat.reduceLeDiff, Int.reduceEq, Int.reduceLT, Int.reduceLE, Int.reduceAdd, Int.reduceMul, Int.reduceSub, Int.reduceNeg, Int.reduceToNat, reduceIte, Nat.reduceLT, doneC, h2, h3, h4, hz, w2]
          refine callW_pure ((r7_Join_ok s (doL s ((a / 16 % 4 : Nat) : Int) (opOf a b)).1 hs5 d1 (by omega) (by omega)).wk (.cons hsc.wk (.cons (.same _) .nil))) ?_
          simp only [go_sem, reduceCtorEq, Nat.reduceEqDiff, Nat.reduceAdd, Nat.reduceSub, Nat.reduceMul, Nat.reduceLeDiff, Int.reduceEq, Int.reduceLT, Int.reduceLE, Int.reduceAdd, Int.reduceMul, Int.reduceSub, Int.reduceNeg, Int.reduceToNat, reduceIte, Nat.reduceLT, h2, h3, h4, w2]
          have hst : stepS s ((a / 16 % 4 : Nat) : Int) (opOf a b) = joinL s (doL s ((a / 16 % 4 : Nat) : Int) (opOf a b)).1 := by unfold stepS; rw [if_pos hz]
          rw [hst] at f1 f2 f3 hm'
          refine ih rest (pre ++ [a, b]) _ _ _ _ _ (.same _) (by rw [hp]; simp) (by omega) (by simp; omega) ?_ ?_ ?_ ?_ f1 (by omega) (by omega) hm'
          all_goals simp only [go_sem, reduceCtorEq, Nat.reduceEqDiff, Nat.reduceAdd, Nat.reduceSub, Nat.reduceMul, Nat.reduceLeDiff, Int.reduceEq, Int.reduceLT, Int.reduceLE, Int.reduceAdd, Int.reduceMul, Int.reduceSub, Int.reduceNeg, Int.reduceToNat, reduceIte, Nat.reduceLT, h0, h2, h3, w2]
        · simp only [go_sem, reduceCtorEq, Nat.reduceEqDiff, Nat.reduceAdd, Nat.reduceSub, Nat.reduceMul, Nat.reduceLeDiff, Int.reduceEq, Int.reduceLT, Int.reduceLE, Int.reduceAdd, Int.reduceMul, Int.reduceSub, Int.reduceNeg, Int.reduceToNat, reduceIte, Nat.reduceLT, doneC, h2, h3, h4, hz, w2]
          have hst : stepS s ((a / 16 % 4 : Nat) : Int) (opOf a b) = s := by unfold stepS; rw [if_neg hz]
          rw [hst] at hm'
          refine ih rest (pre ++ [a, b]) _ _ _ _ _ hsc (by rw [hp]; simp) (by omega) (by simp; omega) ?_ ?_ ?_ ?_ hf (by omega) (by omega) hm'
          all_goals simp only [go_sem, reduceCtorEq, Nat.reduceEqDiff, Nat.reduceAdd, Nat.reduceSub, Nat.reduceMul, Nat.reduceLeDiff, Int.reduceEq, Int.reduceLT, Int.reduceLE, Int.reduceAdd, Int.reduceMul, Int.reduceSub, Int.reduceNeg, Int.reduceToNat, reduceIte, Nat.reduceLT, h0, h2, h3, w2]
  refine loop 40 l [] ⟨[], []⟩ _ _ _ [] .nil rfl (Nat.le_refl _) rfl ?_ ?_ ?_ ?_ .nil (by simp) (by simp) hv
  all_goals simp only [go_sem, reduceCtorEq, Nat.reduceEqDiff, Nat.reduceAdd, Nat.reduceSub, Nat.reduceMul, Nat.reduceLeDiff, Int.reduceEq, Int.reduceLT, Int.reduceLE, Int.reduceAdd, Int.reduceMul, Int.reduceSub, Int.reduceNeg, Int.reduceToNat, reduceIte, Nat.reduceLT, List.length_nil, Int.natCast_zero]

end Go.Proofs.YtnccbccnjjachaaGreat.Eng
