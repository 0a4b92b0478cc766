/- The law JoinMade: its call comes to true. -/
import Derived.Test.YtfbkolkkpkonfaaZLawJL0
import Derived.Test.YtfbkolkkpkonfaaZAllR
namespace Go.Proofs.Ytfbkolkkpkonfaa.Eng
open Go
set_option linter.unusedVariables false
set_option linter.unusedSimpArgs false

set_option maxHeartbeats 4000000 in
theorem l9_JoinMade_ok (ns : List Nat) (hb : ∀ n ∈ ns, n < 256) (a b : Nat) (ha : a < 256) (hbb : b < 256) : Pr 13 [.c (bytesC ns), .c (.int .u8 (a : Int)), .c (.int .u8 (b : Int))] (bC true) := by
  refine pure_of mixed is_l9_JoinMade (by simp [closedAs, closedA, closedC, bytesC, closed_bytes]) fun hl T => ?_
  unfold c_l9_JoinMade
  simp only [go_sem, reduceCtorEq, Nat.reduceEqDiff, Nat.reduceAdd, Nat.reduceSub, Nat.reduceMul, Nat.reduceLeDiff, Int.reduceEq, Int.reduceLT, Int.reduceLE, Int.reduceAdd, Int.reduceMul, Int.reduceSub, Int.reduceNeg, Int.reduceToNat, reduceIte, Nat.reduceLT]
  refine callW_pure (l9_Apart_ok ns hb) ?_
  have hg := apartS_group ns
  generalize apartS ns = l at hg
  have ra : (a : Int).tmod 4 = ((a % 4 : Nat) : Int) := by rw [Int.tmod_eq_emod_of_nonneg (by omega)]; omega
  have rb : (b : Int).tmod 4 = ((b % 4 : Nat) : Int) := by rw [Int.tmod_eq_emod_of_nonneg (by omega)]; omega
  have sx := getD_some hg.len (a % 4) (Nat.mod_lt _ (by omega))
  have sy := getD_some hg.len (b % 4) (Nat.mod_lt _ (by omega))
  generalize (l[a % 4]?).getD ⟨[], []⟩ = x at sx
  generalize (l[b % 4]?).getD ⟨[], []⟩ = y at sy
  have mx : x ∈ l := List.mem_of_getElem? sx
  have my : y ∈ l := List.mem_of_getElem? sy
  have rx : (l.map State.cells)[a % 4]? = some x.cells := by simp [sx]
  have ry : (l.map State.cells)[b % 4]? = some y.cells := by simp [sy]
  have gx := hg.good mx
  have gy := hg.good my
  have zx := hg.sizes (by omega) (by omega) mx
  have zy := hg.sizes (by omega) (by omega) my
  have xy := hg.agree x mx y my
  have gj := joinL_good gx gy
  have fj := joinL_fine (hg.fine x mx) (hg.fine y my)
  have lj := joinL_len (a := x) (b := y)
  have nj := facts_len gj (k := 40) (by omega) (fun d hd => by
    rw [joinL_seen gx.norm gy.norm, Bool.or_eq_true] at hd
    rcases hd with hd | hd
    · exact hg.dots mx d hd
    · exact hg.dots my d hd)
  have may : mayState (joinL x y) = true := mayState_iff.2 ⟨fj, by omega⟩
  have j1 := join_Join_ok x y gx gy (by omega) (by omega)
  have j2 := r7_Join_ok x y gx gy (by omega) (by omega)
  have j3 := join_Le_ok x y gx gy (by omega) (by omega)
  have j4 := r7_Join_ok y x gy gx (by omega) (by omega)
  have j5 := join_Le_ok x (joinL x y) gx gj (by omega) (by omega)
  rw [join_absorb gx gy xy] at j5
  have j6 := join_Le_ok y (joinL x y) gy gj (by omega) (by omega)
  rw [join_absorb' gx gy xy] at j6
  have hsz : ∀ s ∈ l, s.seen.length ≤ 1000 ∧ s.facts.length ≤ 1000 := fun s hs => by
    obtain ⟨h1, h2⟩ := hg.sizes (by omega) (by omega) hs
    omega
  have hln := hg.len
  have j7 := join_All_ok l (fun s hs => hg.good hs) hsz (by omega)
  have j8 := r7_All_ok l (fun s hs => hg.good hs) hsz (by omega)
  have may' := r7_May_ok (joinL x y)
  rw [may] at may'
  generalize allL l = al at j7 j8
  have same1 := r7_Same_ok (joinL y x) y
  generalize joinL y x = q at *
  generalize joinL x y = r at *
  simp only [go_sem, reduceCtorEq, Nat.reduceEqDiff, Nat.reduceAdd, Nat.reduceSub, Nat.reduceMul, Nat.reduceLeDiff, Int.reduceEq, Int.reduceLT, Int.reduceLE, Int.reduceAdd, Int.reduceMul, Int.reduceSub, Int.reduceNeg, Int.reduceToNat, reduceIte, Nat.reduceLT, vBin_rem, ra, rb, rx, ry]
  refine callW_pure j1 ?_
  simp only [go_sem, reduceCtorEq, Nat.reduceEqDiff, Nat.reduceAdd, Nat.reduceSub, Nat.reduceMul, Nat.reduceLeDiff, Int.reduceEq, Int.reduceLT, Int.reduceLE, Int.reduceAdd, Int.reduceMul, Int.reduceSub, Int.reduceNeg, Int.reduceToNat, reduceIte, Nat.reduceLT]
  refine callW_pure j2 ?_
  simp only [go_sem, reduceCtorEq, Nat.reduceEqDiff, Nat.reduceAdd, Nat.reduceSub, Nat.reduceMul, Nat.reduceLeDiff, Int.reduceEq, Int.reduceLT, Int.reduceLE, Int.reduceAdd, Int.reduceMul, Int.reduceSub, Int.reduceNeg, Int.reduceToNat, reduceIte, Nat.reduceLT]
  refine callW_pure (r7_Same_ok r r) ?_
  simp only [go_sem, reduceCtorEq, Nat.reduceEqDiff, Nat.reduceAdd, Nat.reduceSub, Nat.reduceMul, Nat.reduceLeDiff, Int.reduceEq, Int.reduceLT, Int.reduceLE, Int.reduceAdd, Int.reduceMul, Int.reduceSub, Int.reduceNeg, Int.reduceToNat, reduceIte, Nat.reduceLT]
  refine callW_pure may' ?_
  simp only [go_sem, reduceCtorEq, Nat.reduceEqDiff, Nat.reduceAdd, Nat.reduceSub, Nat.reduceMul, Nat.reduceLeDiff, Int.reduceEq, Int.reduceLT, Int.reduceLE, Int.reduceAdd, Int.reduceMul, Int.reduceSub, Int.reduceNeg, Int.reduceToNat, reduceIte, Nat.reduceLT]
  refine callW_pure j3 ?_
  simp only [go_sem, reduceCtorEq, Nat.reduceEqDiff, Nat.reduceAdd, Nat.reduceSub, Nat.reduceMul, Nat.reduceLeDiff, Int.reduceEq, Int.reduceLT, Int.reduceLE, Int.reduceAdd, Int.reduceMul, Int.reduceSub, Int.reduceNeg, Int.reduceToNat, reduceIte, Nat.reduceLT]
  refine callW_pure j4 ?_
  simp only [go_sem, reduceCtorEq, Nat.reduceEqDiff, Nat.reduceAdd, Nat.reduceSub, Nat.reduceMul, Nat.reduceLeDiff, Int.reduceEq, Int.reduceLT, Int.reduceLE, Int.reduceAdd, Int.reduceMul, Int.reduceSub, Int.reduceNeg, Int.reduceToNat, reduceIte, Nat.reduceLT]
  refine callW_pure same1 ?_
  simp only [go_sem, reduceCtorEq, Nat.reduceEqDiff, Nat.reduceAdd, Nat.reduceSub, Nat.reduceMul, Nat.reduceLeDiff, Int.reduceEq, Int.reduceLT, Int.reduceLE, Int.reduceAdd, Int.reduceMul, Int.reduceSub, Int.reduceNeg, Int.reduceToNat, reduceIte, Nat.reduceLT, beq_self_eq_true]
  refine callW_pure j5 ?_
  simp only [go_sem, reduceCtorEq, Nat.reduceEqDiff, Nat.reduceAdd, Nat.reduceSub, Nat.reduceMul, Nat.reduceLeDiff, Int.reduceEq, Int.reduceLT, Int.reduceLE, Int.reduceAdd, Int.reduceMul, Int.reduceSub, Int.reduceNeg, Int.reduceToNat, reduceIte, Nat.reduceLT]
  refine callW_pure j6 ?_
  simp only [go_sem, reduceCtorEq, Nat.reduceEqDiff, Nat.reduceAdd, Nat.reduceSub, Nat.reduceMul, Nat.reduceLeDiff, Int.reduceEq, Int.reduceLT, Int.reduceLE, Int.reduceAdd, Int.reduceMul, Int.reduceSub, Int.reduceNeg, Int.reduceToNat, reduceIte, Nat.reduceLT]
  refine callW_pure j7 ?_
  simp only [go_sem, reduceCtorEq, Nat.reduceEqDiff, Nat.reduceAdd, Nat.reduceSub, Nat.reduceMul, Nat.reduceLeDiff, Int.reduceEq, Int.reduceLT, Int.reduceLE, Int.reduceAdd, Int.reduceMul, Int.reduceSub, Int.reduceNeg, Int.reduceToNat, reduceIte, Nat.reduceLT]
  refine callW_pure j8 ?_
  simp only [go_sem, reduceCtorEq, Nat.reduceEqDiff, Nat.reduceAdd, Nat.reduceSub, Nat.reduceMul, Nat.reduceLeDiff, Int.reduceEq, Int.reduceLT, Int.reduceLE, Int.reduceAdd, Int.reduceMul, Int.reduceSub, Int.reduceNeg, Int.reduceToNat, reduceIte, Nat.reduceLT]
  refine callW_pure (r7_Same_ok al al) ?_
  simp only [go_sem, reduceCtorEq, Nat.reduceEqDiff, Nat.reduceAdd, Nat.reduceSub, Nat.reduceMul, Nat.reduceLeDiff, Int.reduceEq, Int.reduceLT, Int.reduceLE, Int.reduceAdd, Int.reduceMul, Int.reduceSub, Int.reduceNeg, Int.reduceToNat, reduceIte, Nat.reduceLT]
  refine callW_pure l9_awake_ok ?_
  simp only [go_sem, reduceCtorEq, Nat.reduceEqDiff, Nat.reduceAdd, Nat.reduceSub, Nat.reduceMul, Nat.reduceLeDiff, Int.reduceEq, Int.reduceLT, Int.reduceLE, Int.reduceAdd, Int.reduceMul, Int.reduceSub, Int.reduceNeg, Int.reduceToNat, reduceIte, Nat.reduceLT]
  rfl

theorem l9_JoinMade_law (ns : List Nat) (_ : ns.length ≤ maxLen) (hb : ∀ n ∈ ns, n < 256) (a : Int) (ha : IntKind.min .u8 ≤ a ∧ a ≤ IntKind.max .u8) (b : Int) (hbb : IntKind.min .u8 ≤ b ∧ b ≤ IntKind.max .u8) :
    Pr 13 [.c (bytesC ns), .c (.int .u8 a), .c (.int .u8 b)] (bC true) := by
  have a1 : 0 ≤ a := ha.1
  have a2 : a ≤ 255 := ha.2
  have b1 : 0 ≤ b := hbb.1
  have b2 : b ≤ 255 := hbb.2
  have := l9_JoinMade_ok ns hb a.toNat b.toNat (by omega) (by omega)
  rwa [Int.toNat_of_nonneg a1, Int.toNat_of_nonneg b1] at this

end Go.Proofs.Ytfbkolkkpkonfaa.Eng
