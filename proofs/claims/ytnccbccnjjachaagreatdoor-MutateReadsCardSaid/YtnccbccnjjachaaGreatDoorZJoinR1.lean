/- Contracts of the document's answer: two states as one. No statement of the seat is proved here. -/
import Derived.Test.YtnccbccnjjachaaGreatDoorZJoinR0
import Derived.Test.YtnccbccnjjachaaGreatDoorZJoinT
namespace Go.Proofs.YtnccbccnjjachaaGreatDoor.Eng
open Go
set_option linter.unusedVariables false
set_option linter.unusedSimpArgs false

theorem told_state {H : Heap} {s : List Rn} {l : List Fact} {c : Cell} (h : Acc 6 (l.map Fact.cells) (.c c) H) : viewW H (.agg [runsC s, c]) (.agg (State.cells ⟨s, l⟩)) := by
  rcases h with ⟨h0, h1⟩ | ⟨b, ext, h1, h2⟩
  · have : l = [] := by simpa using h0
    subst this
    rcases h1 with h1 | h1 <;> (injection h1 with h1; subst h1)
    · exact ⟨.agg [runsC s, .nilS], by simp [viewA, viewFn, viewC, viewFs, viewCs, viewAs, closedC, closedCs, runsC, closed_runs], .agg (.cons (.same _) (.cons (.nilS _) .nil))⟩
    · exact ⟨.agg [runsC s, .zer 6], by simp [viewA, viewFn, viewC, viewFs, viewCs, viewAs, closedC, closedCs, runsC, closed_runs], .agg (.cons (.same _) (.cons (.zer _) .nil))⟩
  · injection h1 with h1
    subst h1
    refine ⟨.agg (State.cells ⟨s, l⟩), ?_, .same _⟩
    by_cases h0 : l.length = 0
    · have : l = [] := List.eq_nil_of_length_eq_zero h0
      subst this
      simp [viewA, viewFn, viewC, viewFs, viewCs, viewAs, closedC, closedCs, runsC, closed_runs, State.cells, factsC]
    · simp [viewA, viewFn, viewC, viewFs, viewCs, viewAs, closedC, closedCs, runsC, closed_runs, State.cells, factsC, h0, h2, closed_facts]

set_option maxHeartbeats 4000000 in
theorem r7_Join_ok (a b : State) (ha : Good a) (hb : Good b) (hs : a.seen.length + b.seen.length ≤ 200000) (hf : a.facts.length + b.facts.length ≤ 1000000) : Pr 23 [.agg a.cells, .agg b.cells] (.agg (joinL a b).cells) := by
  refine pure_ofW mixed is_r7_Join (by simp [closedAs, closedA, State.closed]) fun hl T => ?_
  have hla : a.facts.length ≤ maxLen := by unfold maxLen; omega
  have hlb : b.facts.length ≤ maxLen := by unfold maxLen; omega
  unfold c_r7_Join
  simp only [go_sem, reduceCtorEq, Nat.reduceEqDiff, Nat.reduceAdd, Nat.reduceSub, Nat.reduceMul, Nat.reduceLeDiff, Int.reduceEq, Int.reduceLT, Int.reduceLE, Int.reduceAdd, Int.reduceMul, Int.reduceSub, Int.reduceNeg, Int.reduceToNat, reduceIte, Nat.reduceLT]
  refine callW_pure (r7_Union_is a.seen b.seen hs ha.norm.right hb.norm.right) ?_
  simp only [go_sem, reduceCtorEq, Nat.reduceEqDiff, Nat.reduceAdd, Nat.reduceSub, Nat.reduceMul, Nat.reduceLeDiff, Int.reduceEq, Int.reduceLT, Int.reduceLE, Int.reduceAdd, Int.reduceMul, Int.reduceSub, Int.reduceNeg, Int.reduceToNat, reduceIte, Nat.reduceLT]
  have loop : ∀ (n : Nat) (ra rb pa pb acc : List Fact) (c : Cell) (e : Env) (H : Heap), ra.length + rb.length ≤ n → a.facts = pa ++ ra → b.facts = pb ++ rb → e 2 = .c (.fp [runsC a.seen, factsC a.facts] 0) → e 3 = .c (.fp [runsC b.seen, factsC b.facts] 0) →
      e 4 = .c (.ptr 0 0 0) → e 5 = .c (.ptr 1 0 0) → e 6 = iC pa.length → e 7 = iC pb.length →
      Acc 6 (acc.map Fact.cells) (.c c) ({ sz := 2, rows := [[.nilS, .nilS]] } :: { sz := 2, rows := [[runsC (unionL a.seen b.seen), c]] } :: H) → acc.Pairwise FLt → acc.length ≤ pa.length + pb.length →
      (∀ f, f ∈ acc ↔ (f ∈ pa ∧ keepA b f = true) ∨ (f ∈ pb ∧ keepB a f = true)) → (∀ f ∈ acc, ∀ g ∈ ra, FLt f g) → (∀ f ∈ acc, ∀ g ∈ rb, keepB a g = true → FLt f g) →
      Run (progT Tryz.prog T) ⟨[.cell 4 true 2], fun u E => viewW E u (.agg (joinL a b).cells)⟩ [.loop r7_Join_L0, .blk 0, .code r7_Join_K1] e ({ sz := 2, rows := [[.nilS, .nilS]] } :: { sz := 2, rows := [[runsC (unionL a.seen b.seen), c]] } :: H) := by
    intro n
    induction n with
    | zero =>
      intro ra rb pa pb acc c e H hn hpa hpb h2 h3 h4 h5 h6 h7 hacc hasc hlen hmem hra hrb
      have : ra = [] := List.eq_nil_of_length_eq_zero (by omega)
      subst this
      have : rb = [] := List.eq_nil_of_length_eq_zero (by omega)
      subst this
      have c1 := not_lt_at (f := Fact.cells) hpa
      have c2 := not_lt_at (f := Fact.cells) hpb
      refine run_again ?_
      conv => enter [3, 1]; unfold r7_Join_L0
      simp only [go_sem, reduceCtorEq, Nat.reduceEqDiff, Nat.reduceAdd, Nat.reduceSub, Nat.reduceMul, Nat.reduceLeDiff, Int.reduceEq, Int.reduceLT, Int.reduceLE, Int.reduceAdd, Int.reduceMul, Int.reduceSub, Int.reduceNeg, Int.reduceToNat, reduceIte, Nat.reduceLT, h2, h3, h4, h5, h6, h7, c1, c2]
      unfold r7_Join_K1
      simp only [go_sem, reduceCtorEq, Nat.reduceEqDiff, Nat.reduceAdd, Nat.reduceSub, Nat.reduceMul, Nat.reduceLeDiff, Int.reduceEq, Int.reduceLT, Int.reduceLE, Int.reduceAdd, Int.reduceMul, Int.reduceSub, Int.reduceNeg, Int.reduceToNat, reduceIte, Nat.reduceLT, h4, h5]
      have : acc = joinF a b := by
        refine asc_ext hasc (joinF_asc ha hb.asc) fun f => ?_
        rw [hmem, mem_joinF, hpa, hpb, List.append_nil, List.append_nil]
      subst this
      exact told_state (hacc.set_h2_0 (by simp))
    | succ n ih =>
      intro ra rb pa pb acc c e H hn hpa hpb h2 h3 h4 h5 h6 h7 hacc hasc hlen hmem hra hrb
      have key : (ra = [] ∧ rb = []) ∨ (∃ x ra', ra = x :: ra' ∧ (rb = [] ∨ ∃ y rb', rb = y :: rb' ∧ cmpDot x.dot y.dot ≤ 0)) ∨ (∃ y rb', rb = y :: rb' ∧ (ra = [] ∨ ∃ x ra', ra = x :: ra' ∧ ¬ cmpDot x.dot y.dot ≤ 0)) := by
        cases ra with
        | nil => cases rb with
          | nil => exact .inl ⟨rfl, rfl⟩
          | cons y rb => exact .inr (.inr ⟨y, rb, rfl, .inl rfl⟩)
        | cons x ra => cases rb with
          | nil => exact .inr (.inl ⟨x, ra, rfl, .inl rfl⟩)
          | cons y rb =>
            by_cases h : cmpDot x.dot y.dot ≤ 0
            · exact .inr (.inl ⟨x, ra, rfl, .inr ⟨y, rb, rfl, h⟩⟩)
            · exact .inr (.inr ⟨y, rb, rfl, .inr ⟨x, ra, rfl, h⟩⟩)
      rcases key with ⟨rfl, rfl⟩ | ⟨x, ra', rfl, hx⟩ | ⟨y, rb', rfl, hy⟩
      · exact ih [] [] pa pb acc c e H (by simp) hpa hpb h2 h3 h4 h5 h6 h7 hacc hasc hlen hmem hra hrb
      · -- a fact of the first one
        have ci := lt_at (f := Fact.cells) hpa
        have gx := map_at' (f := Fact.cells) hpa
        have ni := next_at hpa hla
        have xa : x ∈ a.facts := by rw [hpa]; simp
        have asa := ha.asc
        rw [hpa, List.pairwise_append] at asa
        have hxr := (List.pairwise_cons.1 asa.2.1).1
        have hpl : pa.length < a.facts.length := by rw [hpa]; simp
        have hpm : pb.length ≤ b.facts.length := by rw [hpb]; simp
        have hxb : ∀ g ∈ rb, keepB a g = true → FLt x g := by
          intro g hg hk
          rcases hx with rfl | ⟨y, rb', rfl, hle⟩
          · simp at hg
          · have hxg : cmpDot x.dot g.dot ≤ 0 := by
              rw [cmpDot_le] at hle ⊢
              rcases List.mem_cons.1 hg with rfl | hg
              · exact hle
              · have asb := hb.asc
                rw [hpb, List.pairwise_append] at asb
                have := (List.pairwise_cons.1 asb.2.1).1 g hg
                rcases hle with h | h
                · exact .inl (dotLt.trans h this)
                · exact .inl (by rw [h]; exact this)
            rcases cmpDot_le.1 hxg with h | h
            · exact h
            · unfold keepB at hk
              rw [← h, ha.has x xa] at hk
              cases hk
        have go : ∀ (acc' : List Fact) (c' : Cell) (e' : Env) (H' : Heap), e' 2 = e 2 → e' 3 = e 3 → e' 4 = e 4 → e' 5 = e 5 → e' 6 = iC (pa ++ [x]).length → e' 7 = e 7 → acc' = (if keepA b x = true then acc ++ [x] else acc) →
            Acc 6 (acc'.map Fact.cells) (.c c') ({ sz := 2, rows := [[.nilS, .nilS]] } :: { sz := 2, rows := [[runsC (unionL a.seen b.seen), c']] } :: H') →
            Run (progT Tryz.prog T) ⟨[.cell 4 true 2], fun u E => viewW E u (.agg (joinL a b).cells)⟩ [.loop r7_Join_L0, .blk 0, .code r7_Join_K1] e' ({ sz := 2, rows := [[.nilS, .nilS]] } :: { sz := 2, rows := [[runsC (unionL a.seen b.seen), c']] } :: H') := by
          intro acc' c' e' H' g2 g3 g4 g5 g6 g7 he ha'
          refine ih ra' rb (pa ++ [x]) pb acc' c' e' H' (by simp at hn ⊢; omega) (by rw [hpa]; simp) hpb (by rw [g2, h2]) (by rw [g3, h3]) (by rw [g4, h4]) (by rw [g5, h5]) g6 (by rw [g7, h7]) ha' ?_ ?_ ?_ ?_ ?_
          all_goals (subst he; cases hk : keepA b x <;> simp only [if_true, if_false, Bool.false_eq_true])
          · exact hasc
          · exact List.pairwise_append.2 ⟨hasc, by simp, fun f hf g hg => by simp at hg; subst hg; exact hra f hf _ (by simp)⟩
          · simp; omega
          · simp; omega
          · intro f
            rw [hmem]
            simp only [List.mem_append, List.mem_singleton]
            constructor
            · rintro (⟨h, k⟩ | ⟨h, k⟩)
              · exact .inl ⟨.inl h, k⟩
              · exact .inr ⟨h, k⟩
            · rintro (⟨h | rfl, k⟩ | ⟨h, k⟩)
              · exact .inl ⟨h, k⟩
              · rw [hk] at k; cases k
              · exact .inr ⟨h, k⟩
          · intro f
            rw [List.mem_append, hmem]
            simp only [List.mem_append, List.mem_singleton]
            constructor
            · rintro ((⟨h, k⟩ | ⟨h, k⟩) | rfl)
              · exact .inl ⟨.inl h, k⟩
              · exact .inr ⟨h, k⟩
              · exact .inl ⟨.inr rfl, hk⟩
            · rintro (⟨h | rfl, k⟩ | ⟨h, k⟩)
              · exact .inl (.inl ⟨h, k⟩)
              · exact .inr rfl
              · exact .inl (.inr ⟨h, k⟩)
          · intro f hf g hg; exact hra f hf g (by simp [hg])
          · intro f hf g hg
            rcases List.mem_append.1 hf with hf | hf
            · exact hra f hf g (by simp [hg])
            · simp at hf; subst hf; exact hxr g hg
          · exact hrb
          · intro f hf g hg k
            rcases List.mem_append.1 hf with hf | hf
            · exact hrb f hf g hg k
            · simp at hf; subst hf; exact hxb g hg k
        refine run_again ?_
        conv => enter [3, 1]; unfold r7_Join_L0
        refine Or.elim hx (fun hx => ?_) (fun hx => ?_)
        case' refine_1 =>
          subst hx
          have ck := not_lt_at (f := Fact.cells) hpb
          have ek : ((pb.length : Int) = ((b.facts.map Fact.cells).length : Int)) := by rw [hpb]; simp
          simp only [go_sem, reduceCtorEq, Nat.reduceEqDiff, Nat.reduceAdd, Nat.reduceSub, Nat.reduceMul, Nat.reduceLeDiff, Int.reduceEq, Int.reduceLT, Int.reduceLE, Int.reduceAdd, Int.reduceMul, Int.reduceSub, Int.reduceNeg, Int.reduceToNat, reduceIte, Nat.reduceLT, h2, h3, h4, h5, h6, h7, ci, ck, ek, gx]
        case' refine_2 =>
          obtain ⟨y, rb', rfl, hle⟩ := hx
          have ck := lt_at (f := Fact.cells) hpb
          have gy := map_at' (f := Fact.cells) hpb
          have ek : ¬ ((pb.length : Int) = ((b.facts.map Fact.cells).length : Int)) := by rw [hpb]; simp; omega
          simp only [go_sem, reduceCtorEq, Nat.reduceEqDiff, Nat.reduceAdd, Nat.reduceSub, Nat.reduceMul, Nat.reduceLeDiff, Int.reduceEq, Int.reduceLT, Int.reduceLE, Int.reduceAdd, Int.reduceMul, Int.reduceSub, Int.reduceNeg, Int.reduceToNat, reduceIte, Nat.reduceLT, h2, h3, h4, h5, h6, h7, ci, ck, ek, gx, gy]
          refine callW_pure (r7_Cmp_ok x.dot y.dot) ?_
          simp only [go_sem, reduceCtorEq, Nat.reduceEqDiff, Nat.reduceAdd, Nat.reduceSub, Nat.reduceMul, Nat.reduceLeDiff, Int.reduceEq, Int.reduceLT, Int.reduceLE, Int.reduceAdd, Int.reduceMul, Int.reduceSub, Int.reduceNeg, Int.reduceToNat, reduceIte, Nat.reduceLT, h2, h3, h4, h5, h6, h7, ci, ck, ek, gx, gy, hle]
        all_goals
          refine callW_pure (r7_Has_ok b.seen x.dot) ?_
          cases hh : hasDot b.seen x.dot with
          | false =>
            simp only [go_sem, reduceCtorEq, Nat.reduceEqDiff, Nat.reduceAdd, Nat.reduceSub, Nat.reduceMul, Nat.reduceLeDiff, Int.reduceEq, Int.reduceLT, Int.reduceLE, Int.reduceAdd, Int.reduceMul, Int.reduceSub, Int.reduceNeg, Int.reduceToNat, reduceIte, Nat.reduceLT, h2, h3, h4, h5, h6, h7, gx]
            refine Acc.app_h2 hacc.snoc_h2 (by simp) (by simp) (by simp; omega) fun v' H' ha' => ?_
            obtain ⟨c', rfl, _⟩ := ha'.rowsOf
            simp only [go_sem, reduceCtorEq, Nat.reduceEqDiff, Nat.reduceAdd, Nat.reduceSub, Nat.reduceMul, Nat.reduceLeDiff, Int.reduceEq, Int.reduceLT, Int.reduceLE, Int.reduceAdd, Int.reduceMul, Int.reduceSub, Int.reduceNeg, Int.reduceToNat, reduceIte, Nat.reduceLT, h2, h3, h4, h5, h6, h7, ni]
            refine go (acc ++ [x]) c' _ _ ?_ ?_ ?_ ?_ ?_ ?_ (by simp [keepA, hh]) (by simpa [Fact.cells] using ha'.set_h2_1 (by simp))
            all_goals simp only [go_sem, reduceCtorEq, Nat.reduceEqDiff, Nat.reduceAdd, Nat.reduceSub, Nat.reduceMul, Nat.reduceLeDiff, Int.reduceEq, Int.reduceLT, Int.reduceLE, Int.reduceAdd, Int.reduceMul, Int.reduceSub, Int.reduceNeg, Int.reduceToNat, reduceIte, Nat.reduceLT, ni]
          | true =>
            simp only [go_sem, reduceCtorEq, Nat.reduceEqDiff, Nat.reduceAdd, Nat.reduceSub, Nat.reduceMul, Nat.reduceLeDiff, Int.reduceEq, Int.reduceLT, Int.reduceLE, Int.reduceAdd, Int.reduceMul, Int.reduceSub, Int.reduceNeg, Int.reduceToNat, reduceIte, Nat.reduceLT, h2, h3, h4, h5, h6, h7, gx]
            refine callW_pure (r7_at_ok b x.dot) ?_
            cases hat : atD b.facts x.dot with
            | false =>
              simp only [go_sem, reduceCtorEq, Nat.reduceEqDiff, Nat.reduceAdd, Nat.reduceSub, Nat.reduceMul, Nat.reduceLeDiff, Int.reduceEq, Int.reduceLT, Int.reduceLE, Int.reduceAdd, Int.reduceMul, Int.reduceSub, Int.reduceNeg, Int.reduceToNat, reduceIte, Nat.reduceLT, h2, h3, h4, h5, h6, h7, ni]
              refine go acc c _ _ ?_ ?_ ?_ ?_ ?_ ?_ (by simp [keepA, hh, hat]) hacc.snoc_h2
              all_goals simp only [go_sem, reduceCtorEq, Nat.reduceEqDiff, Nat.reduceAdd, Nat.reduceSub, Nat.reduceMul, Nat.reduceLeDiff, Int.reduceEq, Int.reduceLT, Int.reduceLE, Int.reduceAdd, Int.reduceMul, Int.reduceSub, Int.reduceNeg, Int.reduceToNat, reduceIte, Nat.reduceLT, ni]
            | true =>
              simp only [go_sem, reduceCtorEq, Nat.reduceEqDiff, Nat.reduceAdd, Nat.reduceSub, Nat.reduceMul, Nat.reduceLeDiff, Int.reduceEq, Int.reduceLT, Int.reduceLE, Int.reduceAdd, Int.reduceMul, Int.reduceSub, Int.reduceNeg, Int.reduceToNat, reduceIte, Nat.reduceLT, h2, h3, h4, h5, h6, h7, gx]
              refine Acc.app_h2 hacc.snoc_h2 (by simp) (by simp) (by simp; omega) fun v' H' ha' => ?_
              obtain ⟨c', rfl, _⟩ := ha'.rowsOf
              simp only [go_sem, reduceCtorEq, Nat.reduceEqDiff, Nat.reduceAdd, Nat.reduceSub, Nat.reduceMul, Nat.reduceLeDiff, Int.reduceEq, Int.reduceLT, Int.reduceLE, Int.reduceAdd, Int.reduceMul, Int.reduceSub, Int.reduceNeg, Int.reduceToNat, reduceIte, Nat.reduceLT, h2, h3, h4, h5, h6, h7, ni]
              refine go (acc ++ [x]) c' _ _ ?_ ?_ ?_ ?_ ?_ ?_ (by simp [keepA, hh, hat]) (by simpa [Fact.cells] using ha'.set_h2_1 (by simp))
              all_goals simp only [go_sem, reduceCtorEq, Nat.reduceEqDiff, Nat.reduceAdd, Nat.reduceSub, Nat.reduceMul, Nat.reduceLeDiff, Int.reduceEq, Int.reduceLT, Int.reduceLE, Int.reduceAdd, Int.reduceMul, Int.reduceSub, Int.reduceNeg, Int.reduceToNat, reduceIte, Nat.reduceLT, ni]
      · -- a fact of the second one
        have ck := lt_at (f := Fact.cells) hpb
        have gy := map_at' (f := Fact.cells) hpb
        have nk := next_at hpb hlb
        have ek : ¬ ((pb.length : Int) = ((b.facts.map Fact.cells).length : Int)) := by rw [hpb]; simp; omega
        have yb : y ∈ b.facts := by rw [hpb]; simp
        have asb := hb.asc
        rw [hpb, List.pairwise_append] at asb
        have hyr := (List.pairwise_cons.1 asb.2.1).1
        have hpl : pb.length < b.facts.length := by rw [hpb]; simp
        have hpm : pa.length ≤ a.facts.length := by rw [hpa]; simp
        have hya : ∀ g ∈ ra, FLt y g := by
          intro g hg
          rcases hy with rfl | ⟨x, ra', rfl, hle⟩
          · simp at hg
          · have hyx : dotLt y.dot x.dot := by
              rw [cmpDot_le] at hle
              rcases dotLt_tri x.dot y.dot with h | h | h
              · exact (hle (.inl h)).elim
              · exact (hle (.inr h)).elim
              · exact h
            rcases List.mem_cons.1 hg with rfl | hg
            · exact hyx
            · have asa := ha.asc
              rw [hpa, List.pairwise_append] at asa
              exact dotLt.trans hyx ((List.pairwise_cons.1 asa.2.1).1 g hg)
        have go : ∀ (acc' : List Fact) (c' : Cell) (e' : Env) (H' : Heap), e' 2 = e 2 → e' 3 = e 3 → e' 4 = e 4 → e' 5 = e 5 → e' 6 = e 6 → e' 7 = iC (pb ++ [y]).length → acc' = (if keepB a y = true then acc ++ [y] else acc) →
            Acc 6 (acc'.map Fact.cells) (.c c') ({ sz := 2, rows := [[.nilS, .nilS]] } :: { sz := 2, rows := [[runsC (unionL a.seen b.seen), c']] } :: H') →
            Run (progT Tryz.prog T) ⟨[.cell 4 true 2], fun u E => viewW E u (.agg (joinL a b).cells)⟩ [.loop r7_Join_L0, .blk 0, .code r7_Join_K1] e' ({ sz := 2, rows := [[.nilS, .nilS]] } :: { sz := 2, rows := [[runsC (unionL a.seen b.seen), c']] } :: H') := by
          intro acc' c' e' H' g2 g3 g4 g5 g6 g7 he ha'
          refine ih ra rb' pa (pb ++ [y]) acc' c' e' H' (by simp at hn ⊢; omega) hpa (by rw [hpb]; simp) (by rw [g2, h2]) (by rw [g3, h3]) (by rw [g4, h4]) (by rw [g5, h5]) (by rw [g6, h6]) g7 ha' ?_ ?_ ?_ ?_ ?_
          all_goals (subst he; cases hk : keepB a y <;> simp only [if_true, if_false, Bool.false_eq_true])
          · exact hasc
          · exact List.pairwise_append.2 ⟨hasc, by simp, fun f hf g hg => by simp at hg; subst hg; exact hrb f hf _ (by simp) hk⟩
          · simp; omega
          · simp; omega
          · intro f
            rw [hmem]
            simp only [List.mem_append, List.mem_singleton]
            constructor
            · rintro (⟨h, k⟩ | ⟨h, k⟩)
              · exact .inl ⟨h, k⟩
              · exact .inr ⟨.inl h, k⟩
            · rintro (⟨h, k⟩ | ⟨h | rfl, k⟩)
              · exact .inl ⟨h, k⟩
              · exact .inr ⟨h, k⟩
              · rw [hk] at k; cases k
          · intro f
            rw [List.mem_append, hmem]
            simp only [List.mem_append, List.mem_singleton]
            constructor
            · rintro ((⟨h, k⟩ | ⟨h, k⟩) | rfl)
              · exact .inl ⟨h, k⟩
              · exact .inr ⟨.inl h, k⟩
              · exact .inr ⟨.inr rfl, hk⟩
            · rintro (⟨h, k⟩ | ⟨h | rfl, k⟩)
              · exact .inl (.inl ⟨h, k⟩)
              · exact .inl (.inr ⟨h, k⟩)
              · exact .inr rfl
          · exact hra
          · intro f hf g hg
            rcases List.mem_append.1 hf with hf | hf
            · exact hra f hf g hg
            · simp at hf; subst hf; exact hya g hg
          · intro f hf g hg k; exact hrb f hf g (by simp [hg]) k
          · intro f hf g hg k
            rcases List.mem_append.1 hf with hf | hf
            · exact hrb f hf g (by simp [hg]) k
            · simp at hf; subst hf; exact hyr g hg
        refine run_again ?_
        conv => enter [3, 1]; unfold r7_Join_L0
        refine Or.elim hy (fun hy => ?_) (fun hy => ?_)
        case' refine_1 =>
          subst hy
          have ci := not_lt_at (f := Fact.cells) hpa
          simp only [go_sem, reduceCtorEq, Nat.reduceEqDiff, Nat.reduceAdd, Nat.reduceSub, Nat.reduceMul, Nat.reduceLeDiff, Int.reduceEq, Int.reduceLT, Int.reduceLE, Int.reduceAdd, Int.reduceMul, Int.reduceSub, Int.reduceNeg, Int.reduceToNat, reduceIte, Nat.reduceLT, h2, h3, h4, h5, h6, h7, ci, ck, ek, gy]
        case' refine_2 =>
          obtain ⟨x, ra', rfl, hle⟩ := hy
          have ci := lt_at (f := Fact.cells) hpa
          have gx := map_at' (f := Fact.cells) hpa
          simp only [go_sem, reduceCtorEq, Nat.reduceEqDiff, Nat.reduceAdd, Nat.reduceSub, Nat.reduceMul, Nat.reduceLeDiff, Int.reduceEq, Int.reduceLT, Int.reduceLE, Int.reduceAdd, Int.reduceMul, Int.reduceSub, Int.reduceNeg, Int.reduceToNat, reduceIte, Nat.reduceLT, h2, h3, h4, h5, h6, h7, ci, ck, ek, gx, gy]
          refine callW_pure (r7_Cmp_ok x.dot y.dot) ?_
          simp only [go_sem, reduceCtorEq, Nat.reduceEqDiff, Nat.reduceAdd, Nat.reduceSub, Nat.reduceMul, Nat.reduceLeDiff, Int.reduceEq, Int.reduceLT, Int.reduceLE, Int.reduceAdd, Int.reduceMul, Int.reduceSub, Int.reduceNeg, Int.reduceToNat, reduceIte, Nat.reduceLT, h2, h3, h4, h5, h6, h7, ci, ck, ek, gx, gy, hle]
        all_goals
          refine callW_pure (r7_Has_ok a.seen y.dot) ?_
          cases hh : hasDot a.seen y.dot with
          | false =>
            simp only [go_sem, reduceCtorEq, Nat.reduceEqDiff, Nat.reduceAdd, Nat.reduceSub, Nat.reduceMul, Nat.reduceLeDiff, Int.reduceEq, Int.reduceLT, Int.reduceLE, Int.reduceAdd, Int.reduceMul, Int.reduceSub, Int.reduceNeg, Int.reduceToNat, reduceIte, Nat.reduceLT, h2, h3, h4, h5, h6, h7, gy]
            refine Acc.app_h2 hacc.snoc_h2 (by simp) (by simp) (by simp; omega) fun v' H' ha' => ?_
            obtain ⟨c', rfl, _⟩ := ha'.rowsOf
            simp only [go_sem, reduceCtorEq, Nat.reduceEqDiff, Nat.reduceAdd, Nat.reduceSub, Nat.reduceMul, Nat.reduceLeDiff, Int.reduceEq, Int.reduceLT, Int.reduceLE, Int.reduceAdd, Int.reduceMul, Int.reduceSub, Int.reduceNeg, Int.reduceToNat, reduceIte, Nat.reduceLT, h2, h3, h4, h5, h6, h7, nk]
            refine go (acc ++ [y]) c' _ _ ?_ ?_ ?_ ?_ ?_ ?_ (by simp [keepB, hh]) (by simpa [Fact.cells] using ha'.set_h2_1 (by simp))
            all_goals simp only [go_sem, reduceCtorEq, Nat.reduceEqDiff, Nat.reduceAdd, Nat.reduceSub, Nat.reduceMul, Nat.reduceLeDiff, Int.reduceEq, Int.reduceLT, Int.reduceLE, Int.reduceAdd, Int.reduceMul, Int.reduceSub, Int.reduceNeg, Int.reduceToNat, reduceIte, Nat.reduceLT, nk]
          | true =>
            simp only [go_sem, reduceCtorEq, Nat.reduceEqDiff, Nat.reduceAdd, Nat.reduceSub, Nat.reduceMul, Nat.reduceLeDiff, Int.reduceEq, Int.reduceLT, Int.reduceLE, Int.reduceAdd, Int.reduceMul, Int.reduceSub, Int.reduceNeg, Int.reduceToNat, reduceIte, Nat.reduceLT, h2, h3, h4, h5, h6, h7, nk]
            refine go acc c _ _ ?_ ?_ ?_ ?_ ?_ ?_ (by simp [keepB, hh]) hacc.snoc_h2
            all_goals simp only [go_sem, reduceCtorEq, Nat.reduceEqDiff, Nat.reduceAdd, Nat.reduceSub, Nat.reduceMul, Nat.reduceLeDiff, Int.reduceEq, Int.reduceLT, Int.reduceLE, Int.reduceAdd, Int.reduceMul, Int.reduceSub, Int.reduceNeg, Int.reduceToNat, reduceIte, Nat.reduceLT, nk]
  refine loop (a.facts.length + b.facts.length) a.facts b.facts [] [] [] .nilS _ _ (Nat.le_refl _) rfl rfl rfl rfl rfl rfl rfl rfl .nil .nil (by simp) (by simp) (by simp) (by simp)

end Go.Proofs.YtnccbccnjjachaaGreatDoor.Eng
