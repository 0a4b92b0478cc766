/- Contracts of the document's answer: all states as one. No statement of the seat is proved here. -/
import Derived.Test.YtnccbccnjjachaaGreatDoorZDoR
import Derived.Test.YtnccbccnjjachaaGreatDoorZPartH
namespace Go.Proofs.YtnccbccnjjachaaGreatDoor.Eng
open Go
set_option linter.unusedVariables false
set_option linter.unusedSimpArgs false

theorem r7_All_ok (l : List State) (hg : ∀ s ∈ l, Good s) (hs : ∀ s ∈ l, s.seen.length ≤ 1000 ∧ s.facts.length ≤ 1000) (hl100 : l.length ≤ 100) : Pr 19 [.c (statesC l)] (.agg (allL l).cells) := by
  refine pure_ofW mixed is_r7_All (by simp [closedAs, closedA, closed_statesC]) fun hl T => ?_
  have hlen : l.length ≤ maxLen := by unfold maxLen; omega
  unfold c_r7_All
  generalize hv : allL l = v
  simp only [go_sem, reduceCtorEq, Nat.reduceEqDiff, Nat.reduceAdd, Nat.reduceSub, Nat.reduceMul, Nat.reduceLeDiff, Int.reduceEq, Int.reduceLT, Int.reduceLE, Int.reduceAdd, Int.reduceMul, Int.reduceSub, Int.reduceNeg, Int.reduceToNat, reduceIte, Nat.reduceLT]
  have loop : ∀ (rest pre : List State) (s : State) (c d : Cell) (e : Env), SC c d s → l = pre ++ rest → e 0 = .c (statesC l) → e 2 = .c (.ptr 0 0 0) → e 3 = .c (.ptr 1 0 0) → e 4 = iC pre.length → Good s → s.seen.length ≤ 1000 * pre.length → s.facts.length ≤ 1000 * pre.length → rest.foldl joinL s = v →
      Run (progT Tryz.prog T) ⟨[.cell 2 true 2], fun u E => viewW E u (.agg v.cells)⟩ [.loop r7_All_L0, .blk 0, .code r7_All_K1] e [{ sz := 2, rows := [[.nilS, .nilS]] }, { sz := 2, rows := [[c, d]] }] := by
    intro rest
    induction rest with
    | nil =>
      intro pre s c d e hsc hp h0 h2 h3 h4 hgs hsl hfl hm
      have hc := not_lt_at (f := State.cells) hp
      refine run_again ?_
      conv => enter [3, 1]; unfold r7_All_L0
      simp only [go_sem, reduceCtorEq, Nat.reduceEqDiff, Nat.reduceAdd, Nat.reduceSub, Nat.reduceMul, Nat.reduceLeDiff, Int.reduceEq, Int.reduceLT, Int.reduceLE, Int.reduceAdd, Int.reduceMul, Int.reduceSub, Int.reduceNeg, Int.reduceToNat, reduceIte, Nat.reduceLT, h0, h2, h3, h4, hc]
      unfold r7_All_K1
      simp only [go_sem, reduceCtorEq, Nat.reduceEqDiff, Nat.reduceAdd, Nat.reduceSub, Nat.reduceMul, Nat.reduceLeDiff, Int.reduceEq, Int.reduceLT, Int.reduceLE, Int.reduceAdd, Int.reduceMul, Int.reduceSub, Int.reduceNeg, Int.reduceToNat, reduceIte, Nat.reduceLT, h2, h3]
      simp only [List.foldl_nil] at hm
      subst hm
      exact hsc.told
    | cons r rest ih =>
      intro pre s c d e hsc hp h0 h2 h3 h4 hgs hsl hfl hm
      have hc := lt_at (f := State.cells) hp
      have hr := map_at' (f := State.cells) hp
      have hn := next_at hp hlen
      have hrm : r ∈ l := by rw [hp]; simp
      have hpl : pre.length < l.length := by rw [hp]; simp
      obtain ⟨hr1, hr2⟩ := hs r hrm
      refine run_again ?_
      conv => enter [3, 1]; unfold r7_All_L0
      simp only [go_sem, reduceCtorEq, Nat.reduceEqDiff, Nat.reduceAdd, Nat.reduceSub, Nat.reduceMul, Nat.reduceLeDiff, Int.reduceEq, Int.reduceLT, Int.reduceLE, Int.reduceAdd, Int.reduceMul, Int.reduceSub, Int.reduceNeg, Int.reduceToNat, reduceIte, Nat.reduceLT, h0, h2, h3, h4, hc, hr]
      refine callW_pure ((r7_Join_ok s r hgs (hg r hrm) (by omega) (by omega)).wk (.cons hsc.wk (.cons (.same _) .nil))) ?_
      simp only [go_sem, reduceCtorEq, Nat.reduceEqDiff, Nat.reduceAdd, Nat.reduceSub, Nat.reduceMul, Nat.reduceLeDiff, Int.reduceEq, Int.reduceLT, Int.reduceLE, Int.reduceAdd, Int.reduceMul, Int.reduceSub, Int.reduceNeg, Int.reduceToNat, reduceIte, Nat.reduceLT, h2, h3, h4, hn]
      obtain ⟨k1, k2⟩ := joinL_len (a := s) (b := r)
      refine ih (pre ++ [r]) (joinL s r) _ _ _ (.same _) (by rw [hp]; simp) ?_ ?_ ?_ ?_ (joinL_good hgs (hg r hrm)) (by simp; omega) (by simp; omega) (by rw [← hm]; simp)
      all_goals simp only [go_sem, reduceCtorEq, Nat.reduceEqDiff, Nat.reduceAdd, Nat.reduceSub, Nat.reduceMul, Nat.reduceLeDiff, Int.reduceEq, Int.reduceLT, Int.reduceLE, Int.reduceAdd, Int.reduceMul, Int.reduceSub, Int.reduceNeg, Int.reduceToNat, reduceIte, Nat.reduceLT, h0, h2, h3, hn]
  refine loop l [] ⟨[], []⟩ _ _ _ .nil rfl ?_ ?_ ?_ ?_ .nil (by simp) (by simp) hv
  all_goals simp only [go_sem, reduceCtorEq, Nat.reduceEqDiff, Nat.reduceAdd, Nat.reduceSub, Nat.reduceMul, Nat.reduceLeDiff, Int.reduceEq, Int.reduceLT, Int.reduceLE, Int.reduceAdd, Int.reduceMul, Int.reduceSub, Int.reduceNeg, Int.reduceToNat, reduceIte, Nat.reduceLT, List.length_nil, Int.natCast_zero]

end Go.Proofs.YtnccbccnjjachaaGreatDoor.Eng
