/- Contracts of the document's answer: two sets together, one without another, a set out of dots, the last dot. No statement of the seat is proved here. -/
import Derived.Test.YtfbkolkkpkonfaaR72
namespace Go.Proofs.Ytfbkolkkpkonfaa.Eng
open Go
set_option linter.unusedVariables false
set_option linter.unusedSimpArgs false

theorem r7_Union_ok (a b : List Rn) (hs : a.length + b.length ≤ 200000) (ha : ∀ r ∈ a, r.Right) (hb : ∀ r ∈ b, r.Right) : Pr 35 [.c (runsC a), .c (runsC b)] (.c (runsC (setR a b false))) := by
  refine pure_ofW mixed is_r7_Union (by simp [closedAs, closedA, closed_runsC]) fun hl T => ?_
  unfold c_r7_Union
  generalize hv : setR a b false = v
  have loop : ∀ (n i : Nat) (e : Env) (H : Heap), i + n = 8 → e 0 = .c (runsC a) → e 1 = .c (runsC b) → e 6 = iC (i : Int) → Acc 3 (((List.range i).flatMap fun (j : Nat) => mixL (j : Int) a b false).map Rn.cells) (e 5) H →
      Run (progT Try.prog T) ⟨[.tmp 4], fun u E => viewW E u (.c (runsC v))⟩ [.loop r7_Union_L0, .blk 0, .code r7_Union_K1] e H := by
    intro n
    induction n with
    | zero =>
      intro i e H hi h0 h1 h6 hacc
      have hi8 : i = 8 := by omega
      subst hi8
      have c8 : ((8 : Nat) : Int) = 8 := rfl
      refine run_again ?_
      conv => enter [3, 1]; unfold r7_Union_L0
      simp only [go_sem, reduceCtorEq, Nat.reduceEqDiff, Nat.reduceAdd, Nat.reduceSub, Nat.reduceMul, Nat.reduceLeDiff, Int.reduceEq, Int.reduceLT, Int.reduceLE, Int.reduceAdd, Int.reduceMul, Int.reduceSub, Int.reduceNeg, Int.reduceToNat, reduceIte, Nat.reduceLT, h6, c8]
      unfold r7_Union_K1
      simp only [go_sem, reduceCtorEq, Nat.reduceEqDiff, Nat.reduceAdd, Nat.reduceSub, Nat.reduceMul, Nat.reduceLeDiff, Int.reduceEq, Int.reduceLT, Int.reduceLE, Int.reduceAdd, Int.reduceMul, Int.reduceSub, Int.reduceNeg, Int.reduceToNat, reduceIte, Nat.reduceLT]
      have hv2 : ((List.range 8).flatMap fun (j : Nat) => mixL (j : Int) a b false) = v := hv
      rw [hv2] at hacc
      exact hacc.told (closed_runs _)
    | succ n ih =>
      intro i e H hi h0 h1 h6 hacc
      have hlt : (i : Int) < 8 := by omega
      have hw : IntKind.wrap .i64 ((i : Int) + 1) = ((i + 1 : Nat) : Int) := by rw [wrap64 (by omega)]; omega
      have hml : ∀ j : Int, (mixL j a b false).length ≤ 400000 := fun j => by
        have h1 := segs_len (keep := keepM false a b j) (d := j) (ms := marksL j a b) (p := none)
        have h2 := marksL_len (d := j) (a := a) (b := b)
        unfold mixL
        simp at h1
        omega
      have hal : ((List.range i).flatMap fun (j : Nat) => mixL (j : Int) a b false).length ≤ 400000 * i := by
        have key : ∀ l : List Nat, (l.flatMap fun (j : Nat) => mixL (j : Int) a b false).length ≤ 400000 * l.length := by
          intro l
          induction l with
          | nil => simp
          | cons x l ih => have := hml x; rw [List.flatMap_cons, List.length_append, List.length_cons]; omega
        simpa using key (List.range i)
      refine run_again ?_
      conv => enter [3, 1]; unfold r7_Union_L0
      simp only [go_sem, reduceCtorEq, Nat.reduceEqDiff, Nat.reduceAdd, Nat.reduceSub, Nat.reduceMul, Nat.reduceLeDiff, Int.reduceEq, Int.reduceLT, Int.reduceLE, Int.reduceAdd, Int.reduceMul, Int.reduceSub, Int.reduceNeg, Int.reduceToNat, reduceIte, Nat.reduceLT, h0, h1, h6, hlt]
      refine callW_pure (r7_mix_ok (i : Int) a b false hs ha hb) ?_
      simp only [go_sem, reduceCtorEq, Nat.reduceEqDiff, Nat.reduceAdd, Nat.reduceSub, Nat.reduceMul, Nat.reduceLeDiff, Int.reduceEq, Int.reduceLT, Int.reduceLE, Int.reduceAdd, Int.reduceMul, Int.reduceSub, Int.reduceNeg, Int.reduceToNat, reduceIte, Nat.reduceLT, runsC]
      refine hacc.app_step (by have := hml i; simp only [List.length_map]; omega) fun v' H' ha' => ?_
      simp only [go_sem, reduceCtorEq, Nat.reduceEqDiff, Nat.reduceAdd, Nat.reduceSub, Nat.reduceMul, Nat.reduceLeDiff, Int.reduceEq, Int.reduceLT, Int.reduceLE, Int.reduceAdd, Int.reduceMul, Int.reduceSub, Int.reduceNeg, Int.reduceToNat, reduceIte, Nat.reduceLT, h6, hw]
      refine ih (i + 1) _ _ (by omega) ?_ ?_ ?_ ?_
      · simp only [go_sem, reduceCtorEq, Nat.reduceEqDiff, Nat.reduceAdd, Nat.reduceSub, Nat.reduceMul, Nat.reduceLeDiff, Int.reduceEq, Int.reduceLT, Int.reduceLE, Int.reduceAdd, Int.reduceMul, Int.reduceSub, Int.reduceNeg, Int.reduceToNat, reduceIte, Nat.reduceLT, h0]
      · simp only [go_sem, reduceCtorEq, Nat.reduceEqDiff, Nat.reduceAdd, Nat.reduceSub, Nat.reduceMul, Nat.reduceLeDiff, Int.reduceEq, Int.reduceLT, Int.reduceLE, Int.reduceAdd, Int.reduceMul, Int.reduceSub, Int.reduceNeg, Int.reduceToNat, reduceIte, Nat.reduceLT, h1]
      · simp only [go_sem, reduceCtorEq, Nat.reduceEqDiff, Nat.reduceAdd, Nat.reduceSub, Nat.reduceMul, Nat.reduceLeDiff, Int.reduceEq, Int.reduceLT, Int.reduceLE, Int.reduceAdd, Int.reduceMul, Int.reduceSub, Int.reduceNeg, Int.reduceToNat, reduceIte, Nat.reduceLT]
      · simp only [go_sem, reduceCtorEq, Nat.reduceEqDiff, Nat.reduceAdd, Nat.reduceSub, Nat.reduceMul, Nat.reduceLeDiff, Int.reduceEq, Int.reduceLT, Int.reduceLE, Int.reduceAdd, Int.reduceMul, Int.reduceSub, Int.reduceNeg, Int.reduceToNat, reduceIte, Nat.reduceLT]
        rw [List.flatMap_append, List.map_append]
        simpa using ha'
  simp only [go_sem, reduceCtorEq, Nat.reduceEqDiff, Nat.reduceAdd, Nat.reduceSub, Nat.reduceMul, Nat.reduceLeDiff, Int.reduceEq, Int.reduceLT, Int.reduceLE, Int.reduceAdd, Int.reduceMul, Int.reduceSub, Int.reduceNeg, Int.reduceToNat, reduceIte, Nat.reduceLT]
  refine loop 8 0 _ _ rfl ?_ ?_ ?_ ?_
  · simp only [go_sem, reduceCtorEq, Nat.reduceEqDiff, Nat.reduceAdd, Nat.reduceSub, Nat.reduceMul, Nat.reduceLeDiff, Int.reduceEq, Int.reduceLT, Int.reduceLE, Int.reduceAdd, Int.reduceMul, Int.reduceSub, Int.reduceNeg, Int.reduceToNat, reduceIte, Nat.reduceLT]
  · simp only [go_sem, reduceCtorEq, Nat.reduceEqDiff, Nat.reduceAdd, Nat.reduceSub, Nat.reduceMul, Nat.reduceLeDiff, Int.reduceEq, Int.reduceLT, Int.reduceLE, Int.reduceAdd, Int.reduceMul, Int.reduceSub, Int.reduceNeg, Int.reduceToNat, reduceIte, Nat.reduceLT]
  · simp only [go_sem, reduceCtorEq, Nat.reduceEqDiff, Nat.reduceAdd, Nat.reduceSub, Nat.reduceMul, Nat.reduceLeDiff, Int.reduceEq, Int.reduceLT, Int.reduceLE, Int.reduceAdd, Int.reduceMul, Int.reduceSub, Int.reduceNeg, Int.reduceToNat, reduceIte, Nat.reduceLT]
  · simp only [go_sem, reduceCtorEq, Nat.reduceEqDiff, Nat.reduceAdd, Nat.reduceSub, Nat.reduceMul, Nat.reduceLeDiff, Int.reduceEq, Int.reduceLT, Int.reduceLE, Int.reduceAdd, Int.reduceMul, Int.reduceSub, Int.reduceNeg, Int.reduceToNat, reduceIte, Nat.reduceLT]; exact .nil

theorem r7_Minus_ok (a b : List Rn) (hs : a.length + b.length ≤ 200000) (ha : ∀ r ∈ a, r.Right) (hb : ∀ r ∈ b, r.Right) : Pr 36 [.c (runsC a), .c (runsC b)] (.c (runsC (setR a b true))) := by
  refine pure_ofW mixed is_r7_Minus (by simp [closedAs, closedA, closed_runsC]) fun hl T => ?_
  unfold c_r7_Minus
  generalize hv : setR a b true = v
  have loop : ∀ (n i : Nat) (e : Env) (H : Heap), i + n = 8 → e 0 = .c (runsC a) → e 1 = .c (runsC b) → e 6 = iC (i : Int) → Acc 3 (((List.range i).flatMap fun (j : Nat) => mixL (j : Int) a b true).map Rn.cells) (e 5) H →
      Run (progT Try.prog T) ⟨[.tmp 4], fun u E => viewW E u (.c (runsC v))⟩ [.loop r7_Minus_L0, .blk 0, .code r7_Minus_K1] e H := by
    intro n
    induction n with
    | zero =>
      intro i e H hi h0 h1 h6 hacc
      have hi8 : i = 8 := by omega
      subst hi8
      have c8 : ((8 : Nat) : Int) = 8 := rfl
      refine run_again ?_
      conv => enter [3, 1]; unfold r7_Minus_L0
      simp only [go_sem, reduceCtorEq, Nat.reduceEqDiff, Nat.reduceAdd, Nat.reduceSub, Nat.reduceMul, Nat.reduceLeDiff, Int.reduceEq, Int.reduceLT, Int.reduceLE, Int.reduceAdd, Int.reduceMul, Int.reduceSub, Int.reduceNeg, Int.reduceToNat, reduceIte, Nat.reduceLT, h6, c8]
      unfold r7_Minus_K1
      simp only [go_sem, reduceCtorEq, Nat.reduceEqDiff, Nat.reduceAdd, Nat.reduceSub, Nat.reduceMul, Nat.reduceLeDiff, Int.reduceEq, Int.reduceLT, Int.reduceLE, Int.reduceAdd, Int.reduceMul, Int.reduceSub, Int.reduceNeg, Int.reduceToNat, reduceIte, Nat.reduceLT]
      have hv2 : ((List.range 8).flatMap fun (j : Nat) => mixL (j : Int) a b true) = v := hv
      rw [hv2] at hacc
      exact hacc.told (closed_runs _)
    | succ n ih =>
      intro i e H hi h0 h1 h6 hacc
      have hlt : (i : Int) < 8 := by omega
      have hw : IntKind.wrap .i64 ((i : Int) + 1) = ((i + 1 : Nat) : Int) := by rw [wrap64 (by omega)]; omega
      have hml : ∀ j : Int, (mixL j a b true).length ≤ 400000 := fun j => by
        have h1 := segs_len (keep := keepM true a b j) (d := j) (ms := marksL j a b) (p := none)
        have h2 := marksL_len (d := j) (a := a) (b := b)
        unfold mixL
        simp at h1
        omega
      have hal : ((List.range i).flatMap fun (j : Nat) => mixL (j : Int) a b true).length ≤ 400000 * i := by
        have key : ∀ l : List Nat, (l.flatMap fun (j : Nat) => mixL (j : Int) a b true).length ≤ 400000 * l.length := by
          intro l
          induction l with
          | nil => simp
          | cons x l ih => have := hml x; rw [List.flatMap_cons, List.length_append, List.length_cons]; omega
        simpa using key (List.range i)
      refine run_again ?_
      conv => enter [3, 1]; unfold r7_Minus_L0
      simp only [go_sem, reduceCtorEq, Nat.reduceEqDiff, Nat.reduceAdd, Nat.reduceSub, Nat.reduceMul, Nat.reduceLeDiff, Int.reduceEq, Int.reduceLT, Int.reduceLE, Int.reduceAdd, Int.reduceMul, Int.reduceSub, Int.reduceNeg, Int.reduceToNat, reduceIte, Nat.reduceLT, h0, h1, h6, hlt]
      refine callW_pure (r7_mix_ok (i : Int) a b true hs ha hb) ?_
      simp only [go_sem, reduceCtorEq, Nat.reduceEqDiff, Nat.reduceAdd, Nat.reduceSub, Nat.reduceMul, Nat.reduceLeDiff, Int.reduceEq, Int.reduceLT, Int.reduceLE, Int.reduceAdd, Int.reduceMul, Int.reduceSub, Int.reduceNeg, Int.reduceToNat, reduceIte, Nat.reduceLT, runsC]
      refine hacc.app_step (by have := hml i; simp only [List.length_map]; omega) fun v' H' ha' => ?_
      simp only [go_sem, reduceCtorEq, Nat.reduceEqDiff, Nat.reduceAdd, Nat.reduceSub, Nat.reduceMul, Nat.reduceLeDiff, Int.reduceEq, Int.reduceLT, Int.reduceLE, Int.reduceAdd, Int.reduceMul, Int.reduceSub, Int.reduceNeg, Int.reduceToNat, reduceIte, Nat.reduceLT, h6, hw]
      refine ih (i + 1) _ _ (by omega) ?_ ?_ ?_ ?_
      · simp only [go_sem, reduceCtorEq, Nat.reduceEqDiff, Nat.reduceAdd, Nat.reduceSub, Nat.reduceMul, Nat.reduceLeDiff, Int.reduceEq, Int.reduceLT, Int.reduceLE, Int.reduceAdd, Int.reduceMul, Int.reduceSub, Int.reduceNeg, Int.reduceToNat, reduceIte, Nat.reduceLT, h0]
      · simp only [go_sem, reduceCtorEq, Nat.reduceEqDiff, Nat.reduceAdd, Nat.reduceSub, Nat.reduceMul, Nat.reduceLeDiff, Int.reduceEq, Int.reduceLT, Int.reduceLE, Int.reduceAdd, Int.reduceMul, Int.reduceSub, Int.reduceNeg, Int.reduceToNat, reduceIte, Nat.reduceLT, h1]
      · simp only [go_sem, reduceCtorEq, Nat.reduceEqDiff, Nat.reduceAdd, Nat.reduceSub, Nat.reduceMul, Nat.reduceLeDiff, Int.reduceEq, Int.reduceLT, Int.reduceLE, Int.reduceAdd, Int.reduceMul, Int.reduceSub, Int.reduceNeg, Int.reduceToNat, reduceIte, Nat.reduceLT]
      · simp only [go_sem, reduceCtorEq, Nat.reduceEqDiff, Nat.reduceAdd, Nat.reduceSub, Nat.reduceMul, Nat.reduceLeDiff, Int.reduceEq, Int.reduceLT, Int.reduceLE, Int.reduceAdd, Int.reduceMul, Int.reduceSub, Int.reduceNeg, Int.reduceToNat, reduceIte, Nat.reduceLT]
        rw [List.flatMap_append, List.map_append]
        simpa using ha'
  simp only [go_sem, reduceCtorEq, Nat.reduceEqDiff, Nat.reduceAdd, Nat.reduceSub, Nat.reduceMul, Nat.reduceLeDiff, Int.reduceEq, Int.reduceLT, Int.reduceLE, Int.reduceAdd, Int.reduceMul, Int.reduceSub, Int.reduceNeg, Int.reduceToNat, reduceIte, Nat.reduceLT]
  refine loop 8 0 _ _ rfl ?_ ?_ ?_ ?_
  · simp only [go_sem, reduceCtorEq, Nat.reduceEqDiff, Nat.reduceAdd, Nat.reduceSub, Nat.reduceMul, Nat.reduceLeDiff, Int.reduceEq, Int.reduceLT, Int.reduceLE, Int.reduceAdd, Int.reduceMul, Int.reduceSub, Int.reduceNeg, Int.reduceToNat, reduceIte, Nat.reduceLT]
  · simp only [go_sem, reduceCtorEq, Nat.reduceEqDiff, Nat.reduceAdd, Nat.reduceSub, Nat.reduceMul, Nat.reduceLeDiff, Int.reduceEq, Int.reduceLT, Int.reduceLE, Int.reduceAdd, Int.reduceMul, Int.reduceSub, Int.reduceNeg, Int.reduceToNat, reduceIte, Nat.reduceLT]
  · simp only [go_sem, reduceCtorEq, Nat.reduceEqDiff, Nat.reduceAdd, Nat.reduceSub, Nat.reduceMul, Nat.reduceLeDiff, Int.reduceEq, Int.reduceLT, Int.reduceLE, Int.reduceAdd, Int.reduceMul, Int.reduceSub, Int.reduceNeg, Int.reduceToNat, reduceIte, Nat.reduceLT]
  · simp only [go_sem, reduceCtorEq, Nat.reduceEqDiff, Nat.reduceAdd, Nat.reduceSub, Nat.reduceMul, Nat.reduceLeDiff, Int.reduceEq, Int.reduceLT, Int.reduceLE, Int.reduceAdd, Int.reduceMul, Int.reduceSub, Int.reduceNeg, Int.reduceToNat, reduceIte, Nat.reduceLT]; exact .nil

end Go.Proofs.Ytfbkolkkpkonfaa.Eng
