/- The law JoinSeen: its call comes to true. -/
import Derived.Test.YtfbkolkkpkonfaaZLawJD0
namespace Go.Proofs.Ytfbkolkkpkonfaa.Eng
open Go Go.Sort
set_option linter.unusedVariables false
set_option linter.unusedSimpArgs false

theorem foldl_join {l : List State} : ∀ {s : State}, Good s → (∀ t ∈ l, Good t) → Good (l.foldl joinL s) ∧ ∀ d, hasDot (l.foldl joinL s).seen d = true → hasDot s.seen d = true ∨ ∃ t ∈ l, hasDot t.seen d = true := by
  induction l with
  | nil => intro s hs _; exact ⟨hs, fun d h => .inl h⟩
  | cons t l ih =>
    intro s hs hl
    have ht := hl t (by simp)
    obtain ⟨h1, h2⟩ := ih (joinL_good hs ht) (fun x hx => hl x (by simp [hx]))
    refine ⟨h1, fun d hd => ?_⟩
    rcases h2 d hd with h | ⟨x, hx, h⟩
    · rw [joinL_seen hs.norm ht.norm, Bool.or_eq_true] at h
      exact h.imp id fun h => ⟨t, by simp, h⟩
    · exact .inr ⟨x, by simp [hx], h⟩
theorem Group.all {k : Int} {l : List State} (g : Group k l) : Good (allL l) ∧ ∀ d, hasDot (allL l).seen d = true → 0 ≤ d.dev ∧ d.dev < 4 ∧ 1 ≤ d.n ∧ d.n ≤ k := by
  obtain ⟨h1, h2⟩ := foldl_join (l := l) .nil fun t ht => g.good ht
  refine ⟨h1, fun d hd => ?_⟩
  rcases h2 d hd with h | ⟨t, ht, h⟩
  · simp [hasDot] at h
  · exact g.dots ht d h

theorem len_but : ∀ {l : List Fact} {f : Fact}, l.Pairwise FLt → f ∈ l → (l.filter fun g => !decide (g.dot = f.dot)).length + 1 = l.length
  | [], f, _, h => by simp at h
  | g :: l, f, hp, h => by
    obtain ⟨h1, h2⟩ := List.pairwise_cons.1 hp
    by_cases e : g.dot = f.dot
    · have hall : l.filter (fun g => !decide (g.dot = f.dot)) = l := by
        rw [List.filter_eq_self]
        intro x hx
        have := h1 x hx
        unfold FLt at this
        rw [e] at this
        have hne : x.dot ≠ f.dot := fun e' => by rw [e'] at this; exact this.irrefl
        simp [hne]
      rw [List.filter_cons_of_neg (by simp [e]), hall]; simp
    · have hf : f ∈ l := by
        rcases List.mem_cons.1 h with rfl | h
        · exact (e rfl).elim
        · exact h
      rw [List.filter_cons_of_pos (by simp [e]), List.length_cons, List.length_cons]
      have := len_but h2 hf
      omega

theorem joinF_only {s : State} {r : List Rn} : (joinL s ⟨r, []⟩).facts.length = (s.facts.filter fun g => !hasDot r g.dot).length := by
  show (sortL cmpFact _).length = _
  rw [(sortL_spec cmpFact_swo _).1.length_eq]
  have : keepA ⟨r, []⟩ = fun g => !hasDot r g.dot := by funext g; simp [keepA, atD]
  simp [this]

set_option maxHeartbeats 4000000 in
theorem l9_JoinSeen_ok (ns : List Nat) (hb : ∀ n ∈ ns, n < 256) (n : Nat) (hn : n < 256) : Pr 9 [.c (bytesC ns), .c (.int .u8 (n : Int))] (bC true) := by
  refine pure_of mixed is_l9_JoinSeen (by simp [closedAs, closedA, closedC, bytesC, closed_bytes]) fun hl T => ?_
  unfold c_l9_JoinSeen
  simp only [go_sem, reduceCtorEq, Nat.reduceEqDiff, Nat.reduceAdd, Nat.reduceSub, Nat.reduceMul, Nat.reduceLeDiff, Int.reduceEq, Int.reduceLT, Int.reduceLE, Int.reduceAdd, Int.reduceMul, Int.reduceSub, Int.reduceNeg, Int.reduceToNat, reduceIte, Nat.reduceLT]
  refine callW_pure (l9_Apart_ok ns hb) ?_
  have hg := apartS_group ns
  generalize apartS ns = l at hg
  simp only [go_sem, reduceCtorEq, Nat.reduceEqDiff, Nat.reduceAdd, Nat.reduceSub, Nat.reduceMul, Nat.reduceLeDiff, Int.reduceEq, Int.reduceLT, Int.reduceLE, Int.reduceAdd, Int.reduceMul, Int.reduceSub, Int.reduceNeg, Int.reduceToNat, reduceIte, Nat.reduceLT]
  have hln := hg.len
  have hall := r7_All_ok l (fun s hs => hg.good hs) (fun s hs => by obtain ⟨h1, h2⟩ := hg.sizes (by omega) (by omega) hs; omega) (by omega)
  obtain ⟨gs, hd⟩ := hg.all
  have ls := facts_len gs (by omega) hd
  have lr := seen_len gs (by omega) hd
  refine callW_pure hall ?_
  generalize allL l = s at *
  clear hall hg hln
  by_cases h0 : s.facts = []
  · simp only [go_sem, reduceCtorEq, Nat.reduceEqDiff, Nat.reduceAdd, Nat.reduceSub, Nat.reduceMul, Nat.reduceLeDiff, Int.reduceEq, Int.reduceLT, Int.reduceLE, Int.reduceAdd, Int.reduceMul, Int.reduceSub, Int.reduceNeg, Int.reduceToNat, reduceIte, Nat.reduceLT, h0]
    refine callW_pure l9_awake_ok ?_
    simp only [go_sem, reduceCtorEq, Nat.reduceEqDiff, Nat.reduceAdd, Nat.reduceSub, Nat.reduceMul, Nat.reduceLeDiff, Int.reduceEq, Int.reduceLT, Int.reduceLE, Int.reduceAdd, Int.reduceMul, Int.reduceSub, Int.reduceNeg, Int.reduceToNat, reduceIte, Nat.reduceLT]
    rfl
  have hlen0 : 0 < s.facts.length := List.length_pos_iff.2 h0
  have e0 : ¬ ((s.facts.map Fact.cells).length : Int) = 0 := by simp; omega
  have w1 : IntKind.wrap .i64 (n : Int) = (n : Int) := wrap64 (by omega)
  have hml : n % s.facts.length < s.facts.length := Nat.mod_lt _ hlen0
  have r1 : (n : Int).tmod ((s.facts.map Fact.cells).length : Int) = ((n % s.facts.length : Nat) : Int) := by
    rw [List.length_map, Int.tmod_eq_emod_of_nonneg (by omega)]; simp
  obtain ⟨f, hf⟩ : ∃ f, s.facts[n % s.facts.length]? = some f := ⟨s.facts[n % s.facts.length], by simp [hml]⟩
  have rf : (s.facts.map Fact.cells)[n % s.facts.length]? = some f.cells := by simp [hf]
  have mf : f ∈ s.facts := List.mem_of_getElem? hf
  have fr : (ofDot f.dot).right = true := gs.dots_right mf
  have gg : Good ⟨dotsL [f.dot], []⟩ := ⟨(dotsL_ok _).1, by simp, by simp⟩
  have gh : ∀ d, hasDot (dotsL [f.dot]) d = decide (d = f.dot) := fun d => by
    rw [(dotsL_ok _).2]
    by_cases h : d = f.dot
    · subst h; simp [fr]
    · simp [h]
  have g9 : Good ⟨[⟨7, 1, 9⟩], []⟩ := ⟨⟨by intro r hr; simp at hr; subst hr; exact ⟨by decide, by decide, by decide, by decide, by decide⟩, by simp⟩, by simp, by simp⟩
  have ag : ∀ r, Agree s ⟨r, []⟩ := fun r x _ y hy => by simp at hy
  have atf : atD s.facts f.dot = true := atD_iff.2 ⟨f, mf, rfl⟩
  have ld := dotsL_len [f.dot]
  simp only [List.length_cons, List.length_nil] at ld
  -- without the dot
  have cof := r7_Of_ok [f.dot] (by simp)
  have ct := join_Join_ok s ⟨dotsL [f.dot], []⟩ gs gg (by simp only; omega) (by simp only [List.length_nil]; omega)
  have gt := joinL_good gs gg
  have lt := joinL_len (a := s) (b := ⟨dotsL [f.dot], []⟩)
  simp only [List.length_nil] at lt
  have cu := join_Join_ok (joinL s ⟨dotsL [f.dot], []⟩) s gt gs (by omega) (by omega)
  rw [join_absorb gs gg (ag _)] at cu
  have tf : atD (joinL s ⟨dotsL [f.dot], []⟩).facts f.dot = false := by
    rw [at_join gs gg (ag _), gh, atf]; simp [atD]
  have tl : (joinL s ⟨dotsL [f.dot], []⟩).facts.length + 1 = s.facts.length := by
    rw [joinF_only]
    have : (fun g : Fact => !hasDot (dotsL [f.dot]) g.dot) = fun g => !decide (g.dot = f.dot) := by funext g; rw [gh]
    rw [this]
    exact len_but gs.asc mf
  -- with other dots
  have h9 : ∀ d, hasDot s.seen d = true → hasDot [⟨7, 1, 9⟩] d = false := fun d h => by
    have := hd d h
    simp [hasDot, Rn.has]; omega
  have co := join_Join_ok s ⟨[⟨7, 1, 9⟩], []⟩ gs g9 (by simp only [List.length_cons, List.length_nil]; omega) (by simp only [List.length_nil]; omega)
  have of : atD (joinL s ⟨[⟨7, 1, 9⟩], []⟩).facts f.dot = true := by
    rw [at_join gs g9 (ag _), atf, h9 _ (gs.has f mf)]; simp
  have ol : (joinL s ⟨[⟨7, 1, 9⟩], []⟩).facts.length = s.facts.length := by
    rw [joinF_only]
    congr 1
    rw [List.filter_eq_self]
    intro g hg
    rw [h9 _ (gs.has g hg)]; rfl
  have hj1 := l9_has_ok (joinL s ⟨dotsL [f.dot], []⟩) f.dot
  rw [tf] at hj1
  have hj2 := l9_has_ok (joinL s ⟨[⟨7, 1, 9⟩], []⟩) f.dot
  rw [of] at hj2
  generalize joinL s ⟨dotsL [f.dot], []⟩ = t at *
  generalize joinL s ⟨[⟨7, 1, 9⟩], []⟩ = o at *
  generalize dotsL [f.dot] = ds at *
  have w2 : IntKind.wrap .i64 (((s.facts.map Fact.cells).length : Int) - 1) = ((t.facts.map Fact.cells).length : Int) := by
    rw [wrap64 (by simp; omega)]; simp; omega
  have w3 : ((o.facts.map Fact.cells).length : Int) = ((s.facts.map Fact.cells).length : Int) := by simp [ol]
  simp only [go_sem, reduceCtorEq, Nat.reduceEqDiff, Nat.reduceAdd, Nat.reduceSub, Nat.reduceMul, Nat.reduceLeDiff, Int.reduceEq, Int.reduceLT, Int.reduceLE, Int.reduceAdd, Int.reduceMul, Int.reduceSub, Int.reduceNeg, Int.reduceToNat, reduceIte, Nat.reduceLT, e0, w1, vBin_rem, r1, rf]
  refine callW_pure cof ?_
  simp only [go_sem, reduceCtorEq, Nat.reduceEqDiff, Nat.reduceAdd, Nat.reduceSub, Nat.reduceMul, Nat.reduceLeDiff, Int.reduceEq, Int.reduceLT, Int.reduceLE, Int.reduceAdd, Int.reduceMul, Int.reduceSub, Int.reduceNeg, Int.reduceToNat, reduceIte, Nat.reduceLT]
  refine callW_pure (ct.wk (.cons (.same _) (.cons (.agg (.cons (.same _) (.cons (.nilS _) .nil))) .nil))) ?_
  simp only [go_sem, reduceCtorEq, Nat.reduceEqDiff, Nat.reduceAdd, Nat.reduceSub, Nat.reduceMul, Nat.reduceLeDiff, Int.reduceEq, Int.reduceLT, Int.reduceLE, Int.reduceAdd, Int.reduceMul, Int.reduceSub, Int.reduceNeg, Int.reduceToNat, reduceIte, Nat.reduceLT]
  refine callW_pure cu ?_
  simp only [go_sem, reduceCtorEq, Nat.reduceEqDiff, Nat.reduceAdd, Nat.reduceSub, Nat.reduceMul, Nat.reduceLeDiff, Int.reduceEq, Int.reduceLT, Int.reduceLE, Int.reduceAdd, Int.reduceMul, Int.reduceSub, Int.reduceNeg, Int.reduceToNat, reduceIte, Nat.reduceLT]
  refine callW_pure (co.wk (.cons (.same _) (.cons (.agg (.cons (.same _) (.cons (.nilS _) .nil))) .nil))) ?_
  simp only [go_sem, reduceCtorEq, Nat.reduceEqDiff, Nat.reduceAdd, Nat.reduceSub, Nat.reduceMul, Nat.reduceLeDiff, Int.reduceEq, Int.reduceLT, Int.reduceLE, Int.reduceAdd, Int.reduceMul, Int.reduceSub, Int.reduceNeg, Int.reduceToNat, reduceIte, Nat.reduceLT]
  refine callW_pure hj1 ?_
  simp only [go_sem, reduceCtorEq, Nat.reduceEqDiff, Nat.reduceAdd, Nat.reduceSub, Nat.reduceMul, Nat.reduceLeDiff, Int.reduceEq, Int.reduceLT, Int.reduceLE, Int.reduceAdd, Int.reduceMul, Int.reduceSub, Int.reduceNeg, Int.reduceToNat, reduceIte, Nat.reduceLT, w2]
  refine callW_pure (r7_Same_ok t t) ?_
  simp only [go_sem, reduceCtorEq, Nat.reduceEqDiff, Nat.reduceAdd, Nat.reduceSub, Nat.reduceMul, Nat.reduceLeDiff, Int.reduceEq, Int.reduceLT, Int.reduceLE, Int.reduceAdd, Int.reduceMul, Int.reduceSub, Int.reduceNeg, Int.reduceToNat, reduceIte, Nat.reduceLT, w3]
  refine callW_pure hj2 ?_
  simp only [go_sem, reduceCtorEq, Nat.reduceEqDiff, Nat.reduceAdd, Nat.reduceSub, Nat.reduceMul, Nat.reduceLeDiff, Int.reduceEq, Int.reduceLT, Int.reduceLE, Int.reduceAdd, Int.reduceMul, Int.reduceSub, Int.reduceNeg, Int.reduceToNat, reduceIte, Nat.reduceLT]
  refine callW_pure l9_awake_ok ?_
  simp only [go_sem, reduceCtorEq, Nat.reduceEqDiff, Nat.reduceAdd, Nat.reduceSub, Nat.reduceMul, Nat.reduceLeDiff, Int.reduceEq, Int.reduceLT, Int.reduceLE, Int.reduceAdd, Int.reduceMul, Int.reduceSub, Int.reduceNeg, Int.reduceToNat, reduceIte, Nat.reduceLT]
  rfl

theorem l9_JoinSeen_law (ns : List Nat) (_ : ns.length ≤ maxLen) (hb : ∀ n ∈ ns, n < 256) (n : Int) (hn : IntKind.min .u8 ≤ n ∧ n ≤ IntKind.max .u8) : Pr 9 [.c (bytesC ns), .c (.int .u8 n)] (bC true) := by
  have a1 : 0 ≤ n := hn.1
  have a2 : n ≤ 255 := hn.2
  have := l9_JoinSeen_ok ns hb n.toNat (by omega)
  rwa [Int.toNat_of_nonneg a1] at this

end Go.Proofs.Ytfbkolkkpkonfaa.Eng
