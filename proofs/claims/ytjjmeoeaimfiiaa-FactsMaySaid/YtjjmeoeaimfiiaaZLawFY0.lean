/- The law FactsMay: its call comes to true. -/
import Derived.Test.YtjjmeoeaimfiiaaZLawFF0
import Derived.Test.YtjjmeoeaimfiiaaZLawFM0
namespace Go.Proofs.Ytjjmeoeaimfiiaa.Eng
open Go
set_option linter.unusedVariables false
set_option linter.unusedSimpArgs false

theorem swap_bad {l : List Fact} (h : l.Pairwise FLt) {i : Nat} {f g : Fact} (hf : l[i]? = some f) (hg : l[i + 1]? = some g) : ¬ ((l.set i g).set (i + 1) f).Pairwise FLt := by
  intro hp
  have hi := (List.getElem?_eq_some_iff.1 hg).1
  have hi0 : i < l.length := by omega
  have h1 : ((l.set i g).set (i + 1) f)[i]? = some g := by
    rw [List.getElem?_set_ne (by omega)]; simp [hi0]
  have h2 : ((l.set i g).set (i + 1) f)[i + 1]? = some f := by simp [hi]
  exact dotLt.irrefl (dotLt.trans (asc_get1 hp (Nat.lt_succ_self i) h1 h2) (asc_get1 h (Nat.lt_succ_self i) hf hg))
theorem dup_bad {l : List Fact} {i : Nat} {f g : Fact} (hf : l[i]? = some f) (hg : l[i + 1]? = some g) : ¬ (l.set (i + 1) f).Pairwise FLt := by
  intro hp
  have hi := (List.getElem?_eq_some_iff.1 hg).1
  have h1 : (l.set (i + 1) f)[i]? = some f := by rw [List.getElem?_set_ne (by omega)]; exact hf
  have h2 : (l.set (i + 1) f)[i + 1]? = some f := by simp [hi]
  exact dotLt.irrefl (asc_get1 hp (Nat.lt_succ_self i) h1 h2)
theorem may_asc {s : State} (h : ¬ s.facts.Pairwise FLt) : mayState s = false := by
  cases hm : mayState s with
  | false => rfl
  | true => exact (h (mayState_iff.1 hm).1.asc).elim

set_option maxHeartbeats 4000000 in
theorem l8_FactsMay_ok (ns : List Nat) (hln : ns.length ≤ maxLen) (hb : ∀ n ∈ ns, n < 256) (w : Nat) (hw : w < 256) : Pr 9 [.c (bytesC ns), .c (.int .u8 (w : Int))] (bC true) := by
  refine pure_of mixed is_l8_FactsMay (by simp [closedAs, closedA, closedC, bytesC, closed_bytes]) fun hl T => ?_
  unfold c_l8_FactsMay
  simp only [go_sem, reduceCtorEq, Nat.reduceEqDiff, Nat.reduceAdd, Nat.reduceSub, Nat.reduceMul, Nat.reduceLeDiff, Int.reduceEq, Int.reduceLT, Int.reduceLE, Int.reduceAdd, Int.reduceMul, Int.reduceSub, Int.reduceNeg, Int.reduceToNat, reduceIte, Nat.reduceLT]
  refine callW_pure (l8_Make_ok ns hln hb) ?_
  obtain ⟨hf, hlen, hsl⟩ := makeS_fine ns
  generalize makeS ns = s at *
  by_cases h2 : ((s.facts.map Fact.cells).length : Int) < 2
  · simp only [go_sem, reduceCtorEq, Nat.reduceEqDiff, Nat.reduceAdd, Nat.reduceSub, Nat.reduceMul, Nat.reduceLeDiff, Int.reduceEq, Int.reduceLT, Int.reduceLE, Int.reduceAdd, Int.reduceMul, Int.reduceSub, Int.reduceNeg, Int.reduceToNat, reduceIte, Nat.reduceLT, h2]
    refine callW_pure l8_awake_ok ?_
    simp only [go_sem, reduceCtorEq, Nat.reduceEqDiff, Nat.reduceAdd, Nat.reduceSub, Nat.reduceMul, Nat.reduceLeDiff, Int.reduceEq, Int.reduceLT, Int.reduceLE, Int.reduceAdd, Int.reduceMul, Int.reduceSub, Int.reduceNeg, Int.reduceToNat, reduceIte, Nat.reduceLT]
    rfl
  have h2n : 2 ≤ s.facts.length := by simp at h2; omega
  have w1 : IntKind.wrap .i64 (w : Int) = (w : Int) := wrap64 (by omega)
  have w2 : IntKind.wrap .i64 (((s.facts.map Fact.cells).length : Int) - 1) = ((s.facts.length - 1 : Nat) : Int) := by rw [wrap64 (by simp; omega)]; simp; omega
  have w3 : ¬ ((s.facts.length - 1 : Nat) : Int) = 0 := by omega
  have hi : w % (s.facts.length - 1) < s.facts.length - 1 := Nat.mod_lt _ (by omega)
  have w4 : (w : Int).tmod ((s.facts.length - 1 : Nat) : Int) = ((w % (s.facts.length - 1) : Nat) : Int) := by rw [Int.tmod_eq_emod_of_nonneg (by omega)]; simp
  generalize w % (s.facts.length - 1) = i at *
  have w5 : IntKind.wrap .i64 ((i : Int) + 1) = ((i + 1 : Nat) : Int) := by rw [wrap64 (by omega)]; omega
  obtain ⟨f, hff⟩ : ∃ f, s.facts[i]? = some f := ⟨s.facts[i]'(by omega), by simp⟩
  obtain ⟨g, hgg⟩ : ∃ g, s.facts[i + 1]? = some g := ⟨s.facts[i + 1]'(by omega), by simp⟩
  have rf : (s.facts.map Fact.cells)[i]? = some f.cells := by simp [hff]
  have rg : (s.facts.map Fact.cells)[i + 1]? = some g.cells := by simp [hgg]
  have mf : f ∈ s.facts := List.mem_of_getElem? hff
  have hg := hf.toGood
  have h0 : s.facts.map Fact.cells ≠ [] := by intro e; have := congrArg List.length e; simp at this; rw [this] at h2n; simp at h2n
  have hap := fun H : Heap => vAppZ_zer (H := H) (sz := 6) (bytes := 64) h0 (by simp; omega)
  have hin : i < (s.facts.map Fact.cells).length := by simp; omega
  have hin1 : i + 1 < (s.facts.map Fact.cells).length := by simp; omega
  have ix : ∀ (b q : Nat) (H : Heap), q < (s.facts.map Fact.cells).length → vIx 6 (.c (.slc b 0 (s.facts.map Fact.cells).length 6 false)) (iC (q : Int)) H = some (.c (.ptr b q 0), H) := fun b q H hq => vIx_slc hq
  -- what is asked
  have m0 : mayState s = true := mayState_iff.2 ⟨hf, by omega⟩
  have c0 := facts_May_ok s
  rw [m0] at c0
  have c1 := facts_May_ok ⟨s.seen, (s.facts.set i g).set (i + 1) f⟩
  rw [may_asc (swap_bad hg.asc hff hgg)] at c1
  have c2 := facts_May_ok ⟨s.seen, s.facts.set (i + 1) f⟩
  rw [may_asc (dup_bad hff hgg)] at c2
  have fr : (ofDot f.dot).right = true := hg.dots_right mf
  have ld := dotsL_len [f.dot]
  simp only [List.length_cons, List.length_nil] at ld
  have gh : hasDot (dotsL [f.dot]) f.dot = true := by rw [(dotsL_ok _).2]; simp [fr]
  have cof := r7_Of_ok [f.dot] (by simp)
  have cmi := r7_Minus_is s.seen (dotsL [f.dot]) (by omega) hg.norm (dotsL_ok _).1.right
  have m3 : mayState ⟨diffL s.seen (dotsL [f.dot]), s.facts⟩ = false := by
    cases hm : mayState ⟨diffL s.seen (dotsL [f.dot]), s.facts⟩ with
    | false => rfl
    | true =>
      have := (mayState_iff.1 hm).1.has f mf
      simp only at this
      rw [(diffL_ok hg.norm (dotsL_ok _).1.right).2.2, gh] at this
      simp at this
  have c3 := facts_May_ok ⟨diffL s.seen (dotsL [f.dot]), s.facts⟩
  rw [m3] at c3
  have m4 : mayState ⟨s.seen, []⟩ = true := mayState_iff.2 ⟨⟨⟨hg.norm, by simp, by simp⟩, by simp⟩, by simp⟩
  have c4 := facts_May_ok ⟨s.seen, []⟩
  rw [m4] at c4
  generalize diffL s.seen (dotsL [f.dot]) = df at *
  generalize dotsL [f.dot] = ds at *
  have r1 : ∀ x, ((s.facts.map Fact.cells).set i x)[i + 1]? = some g.cells := fun x => by rw [List.getElem?_set_ne (by omega)]; exact rg
  have view1 : ∀ (b : Nat) (H : Heap) (l : List Fact), l.length = s.facts.length → H[b]? = some { sz := 6, rows := l.map Fact.cells, own := true, live := true } → viewAs H [.agg [runsC s.seen, .slc b 0 (s.facts.map Fact.cells).length 6 false]] = some [.agg (State.cells ⟨s.seen, l⟩)] := by
    intro b H l hl hH
    have : (s.facts.map Fact.cells).length = l.length := by simp [hl]
    rw [this]
    simp only [viewAs, view_own hH (fun e => by rw [e] at hl; simp at hl; rw [← hl] at h2n; simp at h2n)]
  simp only [go_sem, reduceCtorEq, Nat.reduceEqDiff, Nat.reduceAdd, Nat.reduceSub, Nat.reduceMul, Nat.reduceLeDiff, Int.reduceEq, Int.reduceLT, Int.reduceLE, Int.reduceAdd, Int.reduceMul, Int.reduceSub, Int.reduceNeg, Int.reduceToNat, reduceIte, Nat.reduceLT, h2, w1, w2, w3, vBin_rem, w4, hap]
  simp only [go_sem, reduceCtorEq, Nat.reduceEqDiff, Nat.reduceAdd, Nat.reduceSub, Nat.reduceMul, Nat.reduceLeDiff, Int.reduceEq, Int.reduceLT, Int.reduceLE, Int.reduceAdd, Int.reduceMul, Int.reduceSub, Int.reduceNeg, Int.reduceToNat, reduceIte, Nat.reduceLT, w5, rg, ix _ _ _ hin, ix _ _ _ hin1, rowg_1, putg_1, rf, r1]
  simp only [go_sem, reduceCtorEq, Nat.reduceEqDiff, Nat.reduceAdd, Nat.reduceSub, Nat.reduceMul, Nat.reduceLeDiff, Int.reduceEq, Int.reduceLT, Int.reduceLE, Int.reduceAdd, Int.reduceMul, Int.reduceSub, Int.reduceNeg, Int.reduceToNat, reduceIte, Nat.reduceLT, hap]
  simp only [go_sem, reduceCtorEq, Nat.reduceEqDiff, Nat.reduceAdd, Nat.reduceSub, Nat.reduceMul, Nat.reduceLeDiff, Int.reduceEq, Int.reduceLT, Int.reduceLE, Int.reduceAdd, Int.reduceMul, Int.reduceSub, Int.reduceNeg, Int.reduceToNat, reduceIte, Nat.reduceLT, w5, ix _ _ _ hin, ix _ _ _ hin1, rowg_3, putg_3, rf, rg]
  refine callW_pure cof ?_
  simp only [go_sem, reduceCtorEq, Nat.reduceEqDiff, Nat.reduceAdd, Nat.reduceSub, Nat.reduceMul, Nat.reduceLeDiff, Int.reduceEq, Int.reduceLT, Int.reduceLE, Int.reduceAdd, Int.reduceMul, Int.reduceSub, Int.reduceNeg, Int.reduceToNat, reduceIte, Nat.reduceLT]
  refine callW_pure cmi ?_
  simp only [go_sem, reduceCtorEq, Nat.reduceEqDiff, Nat.reduceAdd, Nat.reduceSub, Nat.reduceMul, Nat.reduceLeDiff, Int.reduceEq, Int.reduceLT, Int.reduceLE, Int.reduceAdd, Int.reduceMul, Int.reduceSub, Int.reduceNeg, Int.reduceToNat, reduceIte, Nat.reduceLT]
  refine callW_pure c0 ?_
  simp only [go_sem, reduceCtorEq, Nat.reduceEqDiff, Nat.reduceAdd, Nat.reduceSub, Nat.reduceMul, Nat.reduceLeDiff, Int.reduceEq, Int.reduceLT, Int.reduceLE, Int.reduceAdd, Int.reduceMul, Int.reduceSub, Int.reduceNeg, Int.reduceToNat, reduceIte, Nat.reduceLT]
  refine callW_view c1 (view1 1 _ ((s.facts.set i g).set (i + 1) f) (by simp) (by rw [List.map_set, List.map_set]; rfl)) rfl ?_
  simp only [go_sem, reduceCtorEq, Nat.reduceEqDiff, Nat.reduceAdd, Nat.reduceSub, Nat.reduceMul, Nat.reduceLeDiff, Int.reduceEq, Int.reduceLT, Int.reduceLE, Int.reduceAdd, Int.reduceMul, Int.reduceSub, Int.reduceNeg, Int.reduceToNat, reduceIte, Nat.reduceLT]
  refine callW_view c2 (view1 3 _ (s.facts.set (i + 1) f) (by simp) (by rw [List.map_set]; rfl)) rfl ?_
  simp only [go_sem, reduceCtorEq, Nat.reduceEqDiff, Nat.reduceAdd, Nat.reduceSub, Nat.reduceMul, Nat.reduceLeDiff, Int.reduceEq, Int.reduceLT, Int.reduceLE, Int.reduceAdd, Int.reduceMul, Int.reduceSub, Int.reduceNeg, Int.reduceToNat, reduceIte, Nat.reduceLT]
  refine callW_pure c3 ?_
  simp only [go_sem, reduceCtorEq, Nat.reduceEqDiff, Nat.reduceAdd, Nat.reduceSub, Nat.reduceMul, Nat.reduceLeDiff, Int.reduceEq, Int.reduceLT, Int.reduceLE, Int.reduceAdd, Int.reduceMul, Int.reduceSub, Int.reduceNeg, Int.reduceToNat, reduceIte, Nat.reduceLT]
  refine callW_pure (c4.wk (.cons (.agg (.cons (.same _) (.cons (.nilS _) .nil))) .nil)) ?_
  simp only [go_sem, reduceCtorEq, Nat.reduceEqDiff, Nat.reduceAdd, Nat.reduceSub, Nat.reduceMul, Nat.reduceLeDiff, Int.reduceEq, Int.reduceLT, Int.reduceLE, Int.reduceAdd, Int.reduceMul, Int.reduceSub, Int.reduceNeg, Int.reduceToNat, reduceIte, Nat.reduceLT]
  refine callW_pure l8_awake_ok ?_
  simp only [go_sem, reduceCtorEq, Nat.reduceEqDiff, Nat.reduceAdd, Nat.reduceSub, Nat.reduceMul, Nat.reduceLeDiff, Int.reduceEq, Int.reduceLT, Int.reduceLE, Int.reduceAdd, Int.reduceMul, Int.reduceSub, Int.reduceNeg, Int.reduceToNat, reduceIte, Nat.reduceLT]
  rfl

theorem l8_FactsMay_law (ns : List Nat) (hl : ns.length ≤ maxLen) (hb : ∀ n ∈ ns, n < 256) (k : Int) (hk : IntKind.min .u8 ≤ k ∧ k ≤ IntKind.max .u8) : Pr 9 [.c (bytesC ns), .c (.int .u8 k)] (bC true) := by
  have a1 : 0 ≤ k := hk.1
  have a2 : k ≤ 255 := hk.2
  have := l8_FactsMay_ok ns hl hb k.toNat (by omega)
  rwa [Int.toNat_of_nonneg a1] at this

end Go.Proofs.Ytjjmeoeaimfiiaa.Eng
