/- The law JoinDots: its call comes to true. -/
import Derived.Test.YtfbkolkkpkonfaaZLawJL0
import Derived.Test.YtfbkolkkpkonfaaZAllR
namespace Go.Proofs.Ytfbkolkkpkonfaa.Eng
open Go
set_option linter.unusedVariables false
set_option linter.unusedSimpArgs false

theorem l9_has_ok (s : State) (d : Dot) : Pr 31 [.agg s.cells, .agg d.cells] (bC (atD s.facts d)) := by
  obtain ⟨seen, l⟩ := s
  refine pure_of mixed is_l9_has (by simp [closedAs, closedA, State.closed, Dot.closed]) fun hl T => ?_
  have hlen : l.length ≤ maxLen := by simp [lenAs, lenA, lenC, State.cells, runsC, factsC] at hl; exact hl.1.2
  unfold c_l9_has
  generalize hv : atD l d = v
  simp only [go_sem, reduceCtorEq, Nat.reduceEqDiff, Nat.reduceAdd, Nat.reduceSub, Nat.reduceMul, Nat.reduceLeDiff, Int.reduceEq, Int.reduceLT, Int.reduceLE, Int.reduceAdd, Int.reduceMul, Int.reduceSub, Int.reduceNeg, Int.reduceToNat, reduceIte, Nat.reduceLT]
  have loop : ∀ (rest pre : List Fact) (e : Env) (H : Heap), l = pre ++ rest → e 2 = .c (.fp [runsC seen, factsC l] 0) → e 3 = .c (.fp d.cells 0) → e 5 = iC pre.length →
      atD rest d = v → Run (progT Try.prog T) ⟨[.tmp 4], fun u E => viewA E u = some (bC v)⟩ [.loop l9_has_L0, .blk 0, .code l9_has_K1] e H := by
    intro rest
    induction rest with
    | nil =>
      intro pre e H hp h0 h3 h5 hm
      have hc := not_lt_at (f := Fact.cells) hp
      refine run_again ?_
      conv => enter [3, 1]; unfold l9_has_L0
      simp only [go_sem, reduceCtorEq, Nat.reduceEqDiff, Nat.reduceAdd, Nat.reduceSub, Nat.reduceMul, Nat.reduceLeDiff, Int.reduceEq, Int.reduceLT, Int.reduceLE, Int.reduceAdd, Int.reduceMul, Int.reduceSub, Int.reduceNeg, Int.reduceToNat, reduceIte, Nat.reduceLT, h0, h3, h5, hc]
      unfold l9_has_K1
      simp only [go_sem, reduceCtorEq, Nat.reduceEqDiff, Nat.reduceAdd, Nat.reduceSub, Nat.reduceMul, Nat.reduceLeDiff, Int.reduceEq, Int.reduceLT, Int.reduceLE, Int.reduceAdd, Int.reduceMul, Int.reduceSub, Int.reduceNeg, Int.reduceToNat, reduceIte, Nat.reduceLT]
      simp [viewA, viewFn, viewC, viewFs, viewCs, viewAs, closedC, closedCs, ← hm, atD]
    | cons r rest ih =>
      intro pre e H hp h0 h3 h5 hm
      have hc := lt_at (f := Fact.cells) hp
      have hr := map_at' (f := Fact.cells) hp
      have hn := next_at hp hlen
      refine run_again ?_
      conv => enter [3, 1]; unfold l9_has_L0
      simp only [go_sem, reduceCtorEq, Nat.reduceEqDiff, Nat.reduceAdd, Nat.reduceSub, Nat.reduceMul, Nat.reduceLeDiff, Int.reduceEq, Int.reduceLT, Int.reduceLE, Int.reduceAdd, Int.reduceMul, Int.reduceSub, Int.reduceNeg, Int.reduceToNat, reduceIte, Nat.reduceLT, h0, h3, h5, hc, hr]
      have he : ∀ H, vEqS false [0, 0] (.agg [.int .i64 r.dev, .int .i64 r.n]) (.agg [.int .i64 d.dev, .int .i64 d.n]) H = some (bC (decide (r.dot = d)), H) := fun H => by
        have := eqS_dot (neg := false) (r := r.dot) (q := d) (H := H)
        simpa [Fact.dot] using this
      simp only [go_sem, reduceCtorEq, Nat.reduceEqDiff, Nat.reduceAdd, Nat.reduceSub, Nat.reduceMul, Nat.reduceLeDiff, Int.reduceEq, Int.reduceLT, Int.reduceLE, Int.reduceAdd, Int.reduceMul, Int.reduceSub, Int.reduceNeg, Int.reduceToNat, reduceIte, Nat.reduceLT, step_eqS, he]
      by_cases hx : r.dot = d
      · simp only [go_sem, reduceCtorEq, Nat.reduceEqDiff, Nat.reduceAdd, Nat.reduceSub, Nat.reduceMul, Nat.reduceLeDiff, Int.reduceEq, Int.reduceLT, Int.reduceLE, Int.reduceAdd, Int.reduceMul, Int.reduceSub, Int.reduceNeg, Int.reduceToNat, reduceIte, Nat.reduceLT, hx]
        simp [viewA, viewFn, viewC, viewFs, viewCs, viewAs, closedC, closedCs, ← hm, atD, hx]
      · simp only [go_sem, reduceCtorEq, Nat.reduceEqDiff, Nat.reduceAdd, Nat.reduceSub, Nat.reduceMul, Nat.reduceLeDiff, Int.reduceEq, Int.reduceLT, Int.reduceLE, Int.reduceAdd, Int.reduceMul, Int.reduceSub, Int.reduceNeg, Int.reduceToNat, reduceIte, Nat.reduceLT, hx, h5, hn]
        refine ih (pre ++ [r]) _ _ (by simp [hp]) ?_ ?_ ?_ ?_
        all_goals first | (simp only [go_sem, reduceCtorEq, Nat.reduceEqDiff, Nat.reduceAdd, Nat.reduceSub, Nat.reduceMul, Nat.reduceLeDiff, Int.reduceEq, Int.reduceLT, Int.reduceLE, Int.reduceAdd, Int.reduceMul, Int.reduceSub, Int.reduceNeg, Int.reduceToNat, reduceIte, Nat.reduceLT, h0, h3, hn]; done) | (simp [← hm, atD, hx]; done)
  exact loop l [] _ _ rfl rfl rfl rfl hv

/-- A fact's dot stays just if both have it, or one has it whose other one has not seen it. -/
theorem at_join {a b : State} (ha : Good a) (hb : Good b) (hab : Agree a b) (d : Dot) :
    atD (joinL a b).facts d = ((atD a.facts d && atD b.facts d) || (atD a.facts d && !hasDot b.seen d) || (atD b.facts d && !hasDot a.seen d)) := by
  rw [Bool.eq_iff_iff]
  simp only [Bool.or_eq_true, Bool.and_eq_true, Bool.not_eq_true']
  constructor
  · intro h
    obtain ⟨f, hf, rfl⟩ := atD_iff.1 h
    obtain ⟨h1, h2, h3⟩ := (mem_join ha hb hab).1 hf
    have ain : f ∈ a.facts → atD a.facts f.dot = true := fun h => atD_iff.2 ⟨f, h, rfl⟩
    have bin : f ∈ b.facts → atD b.facts f.dot = true := fun h => atD_iff.2 ⟨f, h, rfl⟩
    cases hx : hasDot a.seen f.dot with
    | true =>
      cases hy : hasDot b.seen f.dot with
      | true => exact .inl (.inl ⟨ain (h2 hx), bin (h3 hy)⟩)
      | false => exact .inl (.inr ⟨ain (h2 hx), rfl⟩)
    | false =>
      rcases h1 with h1 | h1
      · rw [ha.has f h1] at hx; cases hx
      · exact .inr ⟨bin h1, rfl⟩
  · rintro ((⟨h1, h2⟩ | ⟨h1, h2⟩) | ⟨h1, h2⟩)
    · obtain ⟨f, hf, rfl⟩ := atD_iff.1 h1
      obtain ⟨g, hg, e⟩ := atD_iff.1 h2
      have e2 := hab f hf g hg e.symm
      exact atD_iff.2 ⟨f, (mem_join ha hb hab).2 ⟨.inl hf, fun _ => hf, fun _ => by rw [e2]; exact hg⟩, rfl⟩
    · obtain ⟨f, hf, rfl⟩ := atD_iff.1 h1
      exact atD_iff.2 ⟨f, (mem_join ha hb hab).2 ⟨.inl hf, fun _ => hf, fun h => by rw [h2] at h; cases h⟩, rfl⟩
    · obtain ⟨f, hf, rfl⟩ := atD_iff.1 h1
      exact atD_iff.2 ⟨f, (mem_join ha hb hab).2 ⟨.inr hf, fun h => (by rw [h2] at h; cases h), fun _ => hf⟩, rfl⟩

set_option maxHeartbeats 8000000 in
theorem l9_JoinDots_ok (ns : List Nat) (hb : ∀ n ∈ ns, n < 256) : Pr 8 [.c (bytesC ns)] (bC true) := by
  refine pure_of mixed is_l9_JoinDots (by simp [closedAs, closedA, closedC, bytesC, closed_bytes]) fun hl T => ?_
  unfold c_l9_JoinDots
  simp only [go_sem, reduceCtorEq, Nat.reduceEqDiff, Nat.reduceAdd, Nat.reduceSub, Nat.reduceMul, Nat.reduceLeDiff, Int.reduceEq, Int.reduceLT, Int.reduceLE, Int.reduceAdd, Int.reduceMul, Int.reduceSub, Int.reduceNeg, Int.reduceToNat, reduceIte, Nat.reduceLT]
  refine callW_pure (l9_Apart_ok ns hb) ?_
  have hg := apartS_group ns
  obtain ⟨a, b, c, d, he⟩ := four_of hg.len
  rw [he] at hg ⊢
  have ma : a ∈ [a, b, c, d] := by simp
  have mb : b ∈ [a, b, c, d] := by simp
  have ga := hg.good ma
  have gb := hg.good mb
  have sa := hg.sizes (by omega) (by omega) ma
  have sb := hg.sizes (by omega) (by omega) mb
  have ab := hg.agree a ma b mb
  have j1 := join_Join_ok a b ga gb (by omega) (by omega)
  have hat := at_join ga gb ab
  have hsn := joinL_seen ga.norm gb.norm
  have hnA : ∀ x, hasDot a.seen x = false → atD a.facts x = false := fun x h => by
    cases h2 : atD a.facts x with
    | false => rfl
    | true => rw [ga.at h2] at h; cases h
  generalize joinL a b = j at *
  clear he hg hl ma mb
  have outer : ∀ (k d : Nat) (e : Env) (H : Heap), d + k = 4 → e 4 = .c (.ptr 0 0 0) → e 5 = .c (.ptr 1 0 0) → e 6 = .c (.ptr 2 0 0) → e 7 = iC d →
      Run (progT Try.prog T) ⟨[.tmp 2], fun u E => viewA E u = some (bC true)⟩ [.loop l9_JoinDots_L2, .blk 0, .code l9_JoinDots_K3] e ({ sz := 2, rows := [a.cells] } :: { sz := 2, rows := [b.cells] } :: { sz := 2, rows := [j.cells] } :: H) := by
    intro k
    induction k with
    | zero =>
      intro d e H hk h4 h5 h6 h7
      have hd : ¬ ((d : Int) < 4) := by omega
      refine run_again ?_
      conv => enter [3, 1]; unfold l9_JoinDots_L2
      simp only [go_sem, reduceCtorEq, Nat.reduceEqDiff, Nat.reduceAdd, Nat.reduceSub, Nat.reduceMul, Nat.reduceLeDiff, Int.reduceEq, Int.reduceLT, Int.reduceLE, Int.reduceAdd, Int.reduceMul, Int.reduceSub, Int.reduceNeg, Int.reduceToNat, reduceIte, Nat.reduceLT, h7, hd]
      unfold l9_JoinDots_K3
      simp only [go_sem, reduceCtorEq, Nat.reduceEqDiff, Nat.reduceAdd, Nat.reduceSub, Nat.reduceMul, Nat.reduceLeDiff, Int.reduceEq, Int.reduceLT, Int.reduceLE, Int.reduceAdd, Int.reduceMul, Int.reduceSub, Int.reduceNeg, Int.reduceToNat, reduceIte, Nat.reduceLT]
      refine callW_pure l9_awake_ok ?_
      simp only [go_sem, reduceCtorEq, Nat.reduceEqDiff, Nat.reduceAdd, Nat.reduceSub, Nat.reduceMul, Nat.reduceLeDiff, Int.reduceEq, Int.reduceLT, Int.reduceLE, Int.reduceAdd, Int.reduceMul, Int.reduceSub, Int.reduceNeg, Int.reduceToNat, reduceIte, Nat.reduceLT]
      rfl
    | succ k ih =>
      intro d e H hk h4 h5 h6 h7
      have hd : ((d : Int) < 4) := by omega
      have wd : IntKind.wrap .i64 ((d : Int) + 1) = ((d + 1 : Nat) : Int) := by rw [wrap64 (by omega)]; omega
      have inner : ∀ (m n : Nat) (e : Env) (H : Heap), n + m = 50 → e 4 = .c (.ptr 0 0 0) → e 5 = .c (.ptr 1 0 0) → e 6 = .c (.ptr 2 0 0) → e 7 = iC d → e 8 = iC n →
          Run (progT Try.prog T) ⟨[.tmp 2], fun u E => viewA E u = some (bC true)⟩ [.loop l9_JoinDots_L0, .blk 2, .blk 1, .code l9_JoinDots_K1, .loop l9_JoinDots_L2, .blk 0, .code l9_JoinDots_K3] e ({ sz := 2, rows := [a.cells] } :: { sz := 2, rows := [b.cells] } :: { sz := 2, rows := [j.cells] } :: H) := by
        intro m
        induction m with
        | zero =>
          intro n e H hm h4 h5 h6 h7 h8
          have hn : ¬ ((n : Int) < 50) := by omega
          refine run_again ?_
          conv => enter [3, 1]; unfold l9_JoinDots_L0
          simp only [go_sem, reduceCtorEq, Nat.reduceEqDiff, Nat.reduceAdd, Nat.reduceSub, Nat.reduceMul, Nat.reduceLeDiff, Int.reduceEq, Int.reduceLT, Int.reduceLE, Int.reduceAdd, Int.reduceMul, Int.reduceSub, Int.reduceNeg, Int.reduceToNat, reduceIte, Nat.reduceLT, h8, hn]
          unfold l9_JoinDots_K1
          simp only [go_sem, reduceCtorEq, Nat.reduceEqDiff, Nat.reduceAdd, Nat.reduceSub, Nat.reduceMul, Nat.reduceLeDiff, Int.reduceEq, Int.reduceLT, Int.reduceLE, Int.reduceAdd, Int.reduceMul, Int.reduceSub, Int.reduceNeg, Int.reduceToNat, reduceIte, Nat.reduceLT, h7, wd]
          refine ih (d + 1) _ H (by omega) ?_ ?_ ?_ ?_
          all_goals simp only [go_sem, reduceCtorEq, Nat.reduceEqDiff, Nat.reduceAdd, Nat.reduceSub, Nat.reduceMul, Nat.reduceLeDiff, Int.reduceEq, Int.reduceLT, Int.reduceLE, Int.reduceAdd, Int.reduceMul, Int.reduceSub, Int.reduceNeg, Int.reduceToNat, reduceIte, Nat.reduceLT, h4, h5, h6, wd]
        | succ m ihm =>
          intro n e H hm h4 h5 h6 h7 h8
          have hn : ((n : Int) < 50) := by omega
          have wn : IntKind.wrap .i64 ((n : Int) + 1) = ((n + 1 : Nat) : Int) := by rw [wrap64 (by omega)]; omega
          have cA := l9_has_ok a ⟨(d : Int), (n : Int)⟩
          have cB := l9_has_ok b ⟨(d : Int), (n : Int)⟩
          have cJ := l9_has_ok j ⟨(d : Int), (n : Int)⟩
          have dA := r7_Has_ok a.seen ⟨(d : Int), (n : Int)⟩
          have dB := r7_Has_ok b.seen ⟨(d : Int), (n : Int)⟩
          have dJ := r7_Has_ok j.seen ⟨(d : Int), (n : Int)⟩
          rw [hat] at cJ
          rw [hsn] at dJ
          refine run_again ?_
          conv => enter [3, 1]; unfold l9_JoinDots_L0
          simp only [go_sem, reduceCtorEq, Nat.reduceEqDiff, Nat.reduceAdd, Nat.reduceSub, Nat.reduceMul, Nat.reduceLeDiff, Int.reduceEq, Int.reduceLT, Int.reduceLE, Int.reduceAdd, Int.reduceMul, Int.reduceSub, Int.reduceNeg, Int.reduceToNat, reduceIte, Nat.reduceLT, h4, h5, h6, h7, h8, hn]
          refine callW_pure cA ?_
          simp only [go_sem, reduceCtorEq, Nat.reduceEqDiff, Nat.reduceAdd, Nat.reduceSub, Nat.reduceMul, Nat.reduceLeDiff, Int.reduceEq, Int.reduceLT, Int.reduceLE, Int.reduceAdd, Int.reduceMul, Int.reduceSub, Int.reduceNeg, Int.reduceToNat, reduceIte, Nat.reduceLT, h4, h5, h6, h7, h8]
          refine callW_pure cB ?_
          have go : ∀ (e' : Env) (H' : Heap), e' 4 = e 4 → e' 5 = e 5 → e' 6 = e 6 → e' 7 = e 7 → e' 8 = iC (n + 1 : Nat) →
              Run (progT Try.prog T) ⟨[.tmp 2], fun u E => viewA E u = some (bC true)⟩ [.loop l9_JoinDots_L0, .blk 2, .blk 1, .code l9_JoinDots_K1, .loop l9_JoinDots_L2, .blk 0, .code l9_JoinDots_K3] e' ({ sz := 2, rows := [a.cells] } :: { sz := 2, rows := [b.cells] } :: { sz := 2, rows := [j.cells] } :: H') := by
            intro e' H' g4 g5 g6 g7 g8
            exact ihm (n + 1) e' H' (by omega) (by rw [g4, h4]) (by rw [g5, h5]) (by rw [g6, h6]) (by rw [g7, h7]) g8
          clear ih ihm hat hsn hnA
          generalize atD a.facts ⟨(d : Int), (n : Int)⟩ = A at *
          generalize atD b.facts ⟨(d : Int), (n : Int)⟩ = B at *
          generalize hasDot a.seen ⟨(d : Int), (n : Int)⟩ = C at *
          generalize hasDot b.seen ⟨(d : Int), (n : Int)⟩ = D at *
          cases A <;> cases B <;> cases C <;> cases D <;> simp only [Bool.and_true, Bool.true_and, Bool.and_false, Bool.false_and, Bool.or_true, Bool.true_or, Bool.or_false, Bool.false_or, Bool.not_true, Bool.not_false, Bool.or_self, Bool.and_self] at cJ dJ
          all_goals
            simp only [go_sem, reduceCtorEq, Nat.reduceEqDiff, Nat.reduceAdd, Nat.reduceSub, Nat.reduceMul, Nat.reduceLeDiff, Int.reduceEq, Int.reduceLT, Int.reduceLE, Int.reduceAdd, Int.reduceMul, Int.reduceSub, Int.reduceNeg, Int.reduceToNat, reduceIte, Nat.reduceLT, h4, h5, h6, h7, h8]
            repeat' (first
              | (refine callW_pure dA ?_)
              | (refine callW_pure dB ?_)
              | (refine callW_pure cJ ?_)
              | (refine callW_pure dJ ?_)
              | (simp only [go_sem, reduceCtorEq, Nat.reduceEqDiff, Nat.reduceAdd, Nat.reduceSub, Nat.reduceMul, Nat.reduceLeDiff, Int.reduceEq, Int.reduceLT, Int.reduceLE, Int.reduceAdd, Int.reduceMul, Int.reduceSub, Int.reduceNeg, Int.reduceToNat, reduceIte, Nat.reduceLT, h4, h5, h6, h7, h8, wn, bne_self_eq_false, beq_self_eq_true]))
            refine go _ _ ?_ ?_ ?_ ?_ ?_
            all_goals simp only [go_sem, reduceCtorEq, Nat.reduceEqDiff, Nat.reduceAdd, Nat.reduceSub, Nat.reduceMul, Nat.reduceLeDiff, Int.reduceEq, Int.reduceLT, Int.reduceLE, Int.reduceAdd, Int.reduceMul, Int.reduceSub, Int.reduceNeg, Int.reduceToNat, reduceIte, Nat.reduceLT, wn]
      refine run_again ?_
      conv => enter [3, 1]; unfold l9_JoinDots_L2
      simp only [go_sem, reduceCtorEq, Nat.reduceEqDiff, Nat.reduceAdd, Nat.reduceSub, Nat.reduceMul, Nat.reduceLeDiff, Int.reduceEq, Int.reduceLT, Int.reduceLE, Int.reduceAdd, Int.reduceMul, Int.reduceSub, Int.reduceNeg, Int.reduceToNat, reduceIte, Nat.reduceLT, h7, hd]
      refine inner 49 1 _ H rfl ?_ ?_ ?_ ?_ ?_
      · simp only [go_sem, reduceCtorEq, Nat.reduceEqDiff, Nat.reduceAdd, Nat.reduceSub, Nat.reduceMul, Nat.reduceLeDiff, Int.reduceEq, Int.reduceLT, Int.reduceLE, Int.reduceAdd, Int.reduceMul, Int.reduceSub, Int.reduceNeg, Int.reduceToNat, reduceIte, Nat.reduceLT, h4]
      · simp only [go_sem, reduceCtorEq, Nat.reduceEqDiff, Nat.reduceAdd, Nat.reduceSub, Nat.reduceMul, Nat.reduceLeDiff, Int.reduceEq, Int.reduceLT, Int.reduceLE, Int.reduceAdd, Int.reduceMul, Int.reduceSub, Int.reduceNeg, Int.reduceToNat, reduceIte, Nat.reduceLT, h5]
      · simp only [go_sem, reduceCtorEq, Nat.reduceEqDiff, Nat.reduceAdd, Nat.reduceSub, Nat.reduceMul, Nat.reduceLeDiff, Int.reduceEq, Int.reduceLT, Int.reduceLE, Int.reduceAdd, Int.reduceMul, Int.reduceSub, Int.reduceNeg, Int.reduceToNat, reduceIte, Nat.reduceLT, h6]
      · simp only [go_sem, reduceCtorEq, Nat.reduceEqDiff, Nat.reduceAdd, Nat.reduceSub, Nat.reduceMul, Nat.reduceLeDiff, Int.reduceEq, Int.reduceLT, Int.reduceLE, Int.reduceAdd, Int.reduceMul, Int.reduceSub, Int.reduceNeg, Int.reduceToNat, reduceIte, Nat.reduceLT, h7]
      · simp only [go_sem, reduceCtorEq, Nat.reduceEqDiff, Nat.reduceAdd, Nat.reduceSub, Nat.reduceMul, Nat.reduceLeDiff, Int.reduceEq, Int.reduceLT, Int.reduceLE, Int.reduceAdd, Int.reduceMul, Int.reduceSub, Int.reduceNeg, Int.reduceToNat, reduceIte, Nat.reduceLT]; rfl
  simp only [go_sem, reduceCtorEq, Nat.reduceEqDiff, Nat.reduceAdd, Nat.reduceSub, Nat.reduceMul, Nat.reduceLeDiff, Int.reduceEq, Int.reduceLT, Int.reduceLE, Int.reduceAdd, Int.reduceMul, Int.reduceSub, Int.reduceNeg, Int.reduceToNat, reduceIte, Nat.reduceLT, ixs0, ixs1]
  refine callW_pure j1 ?_
  simp only [go_sem, reduceCtorEq, Nat.reduceEqDiff, Nat.reduceAdd, Nat.reduceSub, Nat.reduceMul, Nat.reduceLeDiff, Int.reduceEq, Int.reduceLT, Int.reduceLE, Int.reduceAdd, Int.reduceMul, Int.reduceSub, Int.reduceNeg, Int.reduceToNat, reduceIte, Nat.reduceLT]
  refine outer 4 0 _ [] rfl ?_ ?_ ?_ ?_
  all_goals simp only [go_sem, reduceCtorEq, Nat.reduceEqDiff, Nat.reduceAdd, Nat.reduceSub, Nat.reduceMul, Nat.reduceLeDiff, Int.reduceEq, Int.reduceLT, Int.reduceLE, Int.reduceAdd, Int.reduceMul, Int.reduceSub, Int.reduceNeg, Int.reduceToNat, reduceIte, Nat.reduceLT, Int.natCast_zero]

theorem l9_JoinDots_law (a : List Nat) (_ : a.length ≤ maxLen) (ha : ∀ n ∈ a, n < 256) : Pr 8 [.c (bytesC a)] (bC true) := l9_JoinDots_ok a ha

end Go.Proofs.Ytfbkolkkpkonfaa.Eng
