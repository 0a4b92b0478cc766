/- The law WindowApart: its call. No statement of the seat is proved here. -/
import Derived.Test.YtmdblemjlmfbbaaZLawW0
namespace Go.Proofs.Ytmdblemjlmfbbaa.Eng
open Go
set_option linter.unusedVariables false
set_option linter.unusedSimpArgs false

theorem addedG_has {l : List Got} {h : Hdr} (k : h.May) (hl : MayG l) (i : Hdr) : hasG (addedG l h) i = (hasG l i || decide (h = i)) := by
  unfold addedG
  cases hh : hasG l h with
  | false =>
    rw [if_neg (by simp)]
    exact addG_has k hl i
  | true =>
    rw [if_pos rfl]
    by_cases e : h = i
    · subst e; simp [hh]
    · simp [e]
theorem addedG_may {l : List Got} {h : Hdr} (k : h.May) (hl : MayG l) : MayG (addedG l h) := by
  unfold addedG
  split
  · exact hl
  · exact addG_may k hl
theorem addedG_len {l : List Got} {h : Hdr} : (addedG l h).length ≤ l.length + 1 := by
  unfold addedG
  split
  · omega
  · exact addG_len
theorem addedG_runs {h : Hdr} {l : List Got} {N : Nat} (hl : ∀ g ∈ l, g.runs.length ≤ N) : ∀ g ∈ addedG l h, g.runs.length ≤ N + 1 := fun g hg => by
  unfold addedG at hg
  split at hg
  · have := hl g hg; omega
  · exact addG_runs hl g hg

theorem eqS_hdr {neg : Bool} {r q : Hdr} {H : Heap} : vEqS neg [0, 0, 0] (.agg [.int .i64 r.epoch, .int .i64 r.frm, .int .i64 r.seq]) (.agg [.int .i64 q.epoch, .int .i64 q.frm, .int .i64 q.seq]) H = some (bC (neg != decide (r = q)), H) := by
  obtain ⟨a, b, c⟩ := r
  obtain ⟨a', b', c'⟩ := q
  simp [vEqS, evEqCells, evEqCell, Bool.and_assoc, Bool.decide_and]

def hdrA (n : Nat) : Hdr := ⟨1 + ((n % 5 : Nat) : Int), ((n / 5 % 8 : Nat) : Int), 1 + ((n / 40 : Nat) : Int)⟩
theorem hdrA_may {n : Nat} (h : n < 65536) : (hdrA n).May := ⟨by simp only [hdrA]; omega, by simp only [hdrA]; omega, by simp only [hdrA]; omega, by simp only [hdrA]; omega, by simp only [hdrA]; omega⟩
def listA (ns : List Nat) : List Got := ns.foldl (fun l n => addedG l (hdrA n)) []

set_option maxHeartbeats 4000000 in
theorem l19_WindowApart_law (h : Hdr) (ho : h.ok) (i : Hdr) (hi : i.ok) (ns : List Nat) (hl0 : ns.length ≤ maxLen) (hb : ∀ n ∈ ns, n < 65536) : Pr 5 [.agg h.cells, .agg i.cells, .c (u16sC ns)] (bC true) := by
  refine pure_of mixed is_l19_WindowApart (by simp [closedAs, closedA, closedC, closed_u16sC, Hdr.closed]) fun hl' T => ?_
  unfold c_l19_WindowApart
  have hm1 := r14_MayHeader_ok h
  have hm2 := r14_MayHeader_ok i
  have hmh := @mayH_may h
  have hmi := @mayH_may i
  have hadd := fun L => window_Add_ok L h
  have hgh := fun L => r14_HasGot_ok L h
  have hwh := fun L => window_Has_ok L h
  have hwi := fun L => window_Has_ok L i
  have hah := fun L => @addedG_has L h
  have hmay := @addedG_may
  have heq : ∀ H : Heap, vEqS false [0, 0, 0] (.agg h.cells) (.agg i.cells) H = some (bC (decide (h = i)), H) := fun H => by
    have := eqS_hdr (neg := false) (r := h) (q := i) (H := H)
    rw [Bool.false_bne] at this
    exact this
  have hee : ∀ L, hasG L h = true → h = i → hasG L i = true := fun L hh e => by rw [← e]; exact hh
  have hgc : ∀ l : List Got, gotsC l = .lst 2 (l.map Got.cells) := fun _ => rfl
  have huc : u16sC ns = .lst 1 (ns.map u16C) := rfl
  rw [huc]
  have hul : (ns.map u16C).length = ns.length := by simp
  obtain ⟨hc1, hhc⟩ : ∃ hc1, hc1 = h.cells := ⟨_, rfl⟩
  obtain ⟨ic1, hic⟩ : ∃ ic1, ic1 = i.cells := ⟨_, rfl⟩
  have hl3 : hc1.length = 3 := by rw [hhc]; rfl
  have il3 : ic1.length = 3 := by rw [hic]; rfl
  have ht3 : hc1.take 3 = hc1 := List.take_of_length_le (by omega)
  have it3 : ic1.take 3 = ic1 := List.take_of_length_le (by omega)
  have hcc : closedCs hc1 = true := by rw [hhc]; rfl
  have icc : closedCs ic1 = true := by rw [hic]; rfl
  rw [← hhc] at hm1 heq ⊢
  rw [← hic] at hm2 heq ⊢
  simp only [← hhc] at hadd hgh hwh
  simp only [← hic] at hwi
  -- behind the loop
  have fin : ∀ (L : List Got) (x : Cell) (e : Env) (H : Heap), MayG L → h.May → i.May → L.length ≤ 40 → (∀ g ∈ L, g.runs.length ≤ 40) → WkC x (gotsC L) → e 3 = .c (.fp hc1 0) → e 4 = .c (.fp ic1 0) → e 7 = .c x →
      Run (progT Try.prog T) ⟨[.tmp 6], fun u E => viewA E u = some (bC true)⟩ [.code l19_WindowApart_K1] e H := by
    intro L x e H hL hH hI hlen hrl hx h3 h4 h7
    have hz : ∀ g ∈ L, g.runs.length ≤ 100000 := fun g hg => by have := hrl g hg; omega
    have k1 := (r14_MayGot_ok L).wk (args := [.c x]) (.cons (.c hx) .nil)
    have k2 := (hwi L hL (by omega)).wk (args := [.c x, .agg ic1]) (.cons (.c hx) (.cons (.same _) .nil))
    have k3 := (hadd L hL hH (by omega) hz).wk (args := [.c x, .agg hc1]) (.cons (.c hx) (.cons (.same _) .nil))
    have k4 := (hgh L).wk (args := [.c x, .agg hc1]) (.cons (.c hx) (.cons (.same _) .nil))
    have hM := hmay hH hL
    have hMl := addedG_len (l := L) (h := h)
    have k5 := hwh (addedG L h) hM (by omega)
    have k6 := hwi (addedG L h) hM (by omega)
    have k7 := window_May_ok (addedG L h)
    have e1 : mayG L = true := mayG_iff.2 hL
    have e2 : mayG (addedG L h) = true := mayG_iff.2 hM
    have e3 : hasG (addedG L h) h = true := by rw [hah L hH hL]; simp
    have e4 := hah L hH hL i
    have e5 := hee L
    rw [e1] at k1
    rw [e2] at k7
    rw [e3] at k5
    rw [e4] at k6
    generalize addedG L h = m at k3 k5 k6 k7
    rw [hgc] at k3 k5 k6 k7
    unfold l19_WindowApart_K1
    simp only [go_sem, reduceCtorEq, Nat.reduceEqDiff, Nat.reduceAdd, Nat.reduceSub, Nat.reduceMul, Nat.reduceLeDiff, Int.reduceEq, Int.reduceLT, Int.reduceLE, Int.reduceAdd, Int.reduceMul, Int.reduceSub, Int.reduceNeg, Int.reduceToNat, reduceIte, Nat.reduceLT, h7]
    refine callW_pure k1 ?_
    simp only [go_sem, reduceCtorEq, Nat.reduceEqDiff, Nat.reduceAdd, Nat.reduceSub, Nat.reduceMul, Nat.reduceLeDiff, Int.reduceEq, Int.reduceLT, Int.reduceLE, Int.reduceAdd, Int.reduceMul, Int.reduceSub, Int.reduceNeg, Int.reduceToNat, reduceIte, Nat.reduceLT, h4, h7, il3, it3]
    refine callW_pure k2 ?_
    simp only [go_sem, reduceCtorEq, Nat.reduceEqDiff, Nat.reduceAdd, Nat.reduceSub, Nat.reduceMul, Nat.reduceLeDiff, Int.reduceEq, Int.reduceLT, Int.reduceLE, Int.reduceAdd, Int.reduceMul, Int.reduceSub, Int.reduceNeg, Int.reduceToNat, reduceIte, Nat.reduceLT, h3, h7, hl3, ht3]
    refine callW_pure k3 ?_
    simp only [go_sem, reduceCtorEq, Nat.reduceEqDiff, Nat.reduceAdd, Nat.reduceSub, Nat.reduceMul, Nat.reduceLeDiff, Int.reduceEq, Int.reduceLT, Int.reduceLE, Int.reduceAdd, Int.reduceMul, Int.reduceSub, Int.reduceNeg, Int.reduceToNat, reduceIte, Nat.reduceLT, h3, h7, hl3, ht3]
    refine callW_pure k4 ?_
    cases hh : hasG L h with
    | true =>
      simp only [go_sem, reduceCtorEq, Nat.reduceEqDiff, Nat.reduceAdd, Nat.reduceSub, Nat.reduceMul, Nat.reduceLeDiff, Int.reduceEq, Int.reduceLT, Int.reduceLE, Int.reduceAdd, Int.reduceMul, Int.reduceSub, Int.reduceNeg, Int.reduceToNat, reduceIte, Nat.reduceLT, h3, h7, hl3, ht3]
      refine callW_pure k5 ?_
      simp only [go_sem, reduceCtorEq, Nat.reduceEqDiff, Nat.reduceAdd, Nat.reduceSub, Nat.reduceMul, Nat.reduceLeDiff, Int.reduceEq, Int.reduceLT, Int.reduceLE, Int.reduceAdd, Int.reduceMul, Int.reduceSub, Int.reduceNeg, Int.reduceToNat, reduceIte, Nat.reduceLT, h4, il3, it3]
      refine callW_pure k6 ?_
      cases hi' : hasG L i with
      | true =>
        simp only [go_sem, reduceCtorEq, Nat.reduceEqDiff, Nat.reduceAdd, Nat.reduceSub, Nat.reduceMul, Nat.reduceLeDiff, Int.reduceEq, Int.reduceLT, Int.reduceLE, Int.reduceAdd, Int.reduceMul, Int.reduceSub, Int.reduceNeg, Int.reduceToNat, reduceIte, Nat.reduceLT, Bool.true_or]
        refine callW_pure k7 ?_
        simp only [go_sem, reduceCtorEq, Nat.reduceEqDiff, Nat.reduceAdd, Nat.reduceSub, Nat.reduceMul, Nat.reduceLeDiff, Int.reduceEq, Int.reduceLT, Int.reduceLE, Int.reduceAdd, Int.reduceMul, Int.reduceSub, Int.reduceNeg, Int.reduceToNat, reduceIte, Nat.reduceLT]
        refine callW_pure l19_awake_ok ?_
        simp only [go_sem, reduceCtorEq, Nat.reduceEqDiff, Nat.reduceAdd, Nat.reduceSub, Nat.reduceMul, Nat.reduceLeDiff, Int.reduceEq, Int.reduceLT, Int.reduceLE, Int.reduceAdd, Int.reduceMul, Int.reduceSub, Int.reduceNeg, Int.reduceToNat, reduceIte, Nat.reduceLT]
        simp [viewA, viewFn, viewC, viewFs, viewCs, viewAs, closedC, closedCs]
      | false =>
        have hne : ¬ h = i := fun e => by rw [e5 hh e] at hi'; cases hi'
        simp only [go_sem, reduceCtorEq, Nat.reduceEqDiff, Nat.reduceAdd, Nat.reduceSub, Nat.reduceMul, Nat.reduceLeDiff, Int.reduceEq, Int.reduceLT, Int.reduceLE, Int.reduceAdd, Int.reduceMul, Int.reduceSub, Int.reduceNeg, Int.reduceToNat, reduceIte, Nat.reduceLT, h3, h4, hl3, ht3, il3, it3, heq, hne, Bool.false_or]
        refine callW_pure k7 ?_
        simp only [go_sem, reduceCtorEq, Nat.reduceEqDiff, Nat.reduceAdd, Nat.reduceSub, Nat.reduceMul, Nat.reduceLeDiff, Int.reduceEq, Int.reduceLT, Int.reduceLE, Int.reduceAdd, Int.reduceMul, Int.reduceSub, Int.reduceNeg, Int.reduceToNat, reduceIte, Nat.reduceLT]
        refine callW_pure l19_awake_ok ?_
        simp only [go_sem, reduceCtorEq, Nat.reduceEqDiff, Nat.reduceAdd, Nat.reduceSub, Nat.reduceMul, Nat.reduceLeDiff, Int.reduceEq, Int.reduceLT, Int.reduceLE, Int.reduceAdd, Int.reduceMul, Int.reduceSub, Int.reduceNeg, Int.reduceToNat, reduceIte, Nat.reduceLT]
        simp [viewA, viewFn, viewC, viewFs, viewCs, viewAs, closedC, closedCs]
    | false =>
      simp only [go_sem, reduceCtorEq, Nat.reduceEqDiff, Nat.reduceAdd, Nat.reduceSub, Nat.reduceMul, Nat.reduceLeDiff, Int.reduceEq, Int.reduceLT, Int.reduceLE, Int.reduceAdd, Int.reduceMul, Int.reduceSub, Int.reduceNeg, Int.reduceToNat, reduceIte, Nat.reduceLT, h3, h7, hl3, ht3]
      refine callW_pure k5 ?_
      simp only [go_sem, reduceCtorEq, Nat.reduceEqDiff, Nat.reduceAdd, Nat.reduceSub, Nat.reduceMul, Nat.reduceLeDiff, Int.reduceEq, Int.reduceLT, Int.reduceLE, Int.reduceAdd, Int.reduceMul, Int.reduceSub, Int.reduceNeg, Int.reduceToNat, reduceIte, Nat.reduceLT, h4, il3, it3]
      refine callW_pure k6 ?_
      cases hi' : hasG L i with
      | true =>
        simp only [go_sem, reduceCtorEq, Nat.reduceEqDiff, Nat.reduceAdd, Nat.reduceSub, Nat.reduceMul, Nat.reduceLeDiff, Int.reduceEq, Int.reduceLT, Int.reduceLE, Int.reduceAdd, Int.reduceMul, Int.reduceSub, Int.reduceNeg, Int.reduceToNat, reduceIte, Nat.reduceLT, Bool.true_or]
        refine callW_pure k7 ?_
        simp only [go_sem, reduceCtorEq, Nat.reduceEqDiff, Nat.reduceAdd, Nat.reduceSub, Nat.reduceMul, Nat.reduceLeDiff, Int.reduceEq, Int.reduceLT, Int.reduceLE, Int.reduceAdd, Int.reduceMul, Int.reduceSub, Int.reduceNeg, Int.reduceToNat, reduceIte, Nat.reduceLT]
        refine callW_pure l19_awake_ok ?_
        simp only [go_sem, reduceCtorEq, Nat.reduceEqDiff, Nat.reduceAdd, Nat.reduceSub, Nat.reduceMul, Nat.reduceLeDiff, Int.reduceEq, Int.reduceLT, Int.reduceLE, Int.reduceAdd, Int.reduceMul, Int.reduceSub, Int.reduceNeg, Int.reduceToNat, reduceIte, Nat.reduceLT]
        simp [viewA, viewFn, viewC, viewFs, viewCs, viewAs, closedC, closedCs]
      | false =>
        cases hd : decide (h = i)
        all_goals
          simp only [go_sem, reduceCtorEq, Nat.reduceEqDiff, Nat.reduceAdd, Nat.reduceSub, Nat.reduceMul, Nat.reduceLeDiff, Int.reduceEq, Int.reduceLT, Int.reduceLE, Int.reduceAdd, Int.reduceMul, Int.reduceSub, Int.reduceNeg, Int.reduceToNat, reduceIte, Nat.reduceLT, h3, h4, hl3, ht3, il3, it3, heq, hd, Bool.false_or]
          refine callW_pure k7 ?_
          simp only [go_sem, reduceCtorEq, Nat.reduceEqDiff, Nat.reduceAdd, Nat.reduceSub, Nat.reduceMul, Nat.reduceLeDiff, Int.reduceEq, Int.reduceLT, Int.reduceLE, Int.reduceAdd, Int.reduceMul, Int.reduceSub, Int.reduceNeg, Int.reduceToNat, reduceIte, Nat.reduceLT]
          refine callW_pure l19_awake_ok ?_
          simp only [go_sem, reduceCtorEq, Nat.reduceEqDiff, Nat.reduceAdd, Nat.reduceSub, Nat.reduceMul, Nat.reduceLeDiff, Int.reduceEq, Int.reduceLT, Int.reduceLE, Int.reduceAdd, Int.reduceMul, Int.reduceSub, Int.reduceNeg, Int.reduceToNat, reduceIte, Nat.reduceLT]
          simp [viewA, viewFn, viewC, viewFs, viewCs, viewAs, closedC, closedCs]
  have loop : ∀ (rest pre : List Nat) (L : List Got) (x : Cell) (e : Env) (H : Heap), ns = pre ++ rest → ns.length ≤ 40 → h.May → i.May → MayG L → L.length ≤ pre.length → (∀ g ∈ L, g.runs.length ≤ pre.length) → WkC x (gotsC L) → e 2 = .c (.lst 1 (ns.map u16C)) → e 3 = .c (.fp hc1 0) → e 4 = .c (.fp ic1 0) → e 7 = .c x → e 8 = iC pre.length →
      Run (progT Try.prog T) ⟨[.tmp 6], fun u E => viewA E u = some (bC true)⟩ [.loop l19_WindowApart_L0, .blk 0, .code l19_WindowApart_K1] e H := by
    intro rest
    induction rest with
    | nil =>
      intro pre L x e H hp h40 hH hI hL hlen hrl hx h2 h3 h4 h7 h8
      have hc := not_lt_at (f := u16C) hp
      have hpl : pre.length = ns.length := by rw [hp]; simp
      refine run_again ?_
      conv => enter [3, 1]; unfold l19_WindowApart_L0
      simp only [go_sem, reduceCtorEq, Nat.reduceEqDiff, Nat.reduceAdd, Nat.reduceSub, Nat.reduceMul, Nat.reduceLeDiff, Int.reduceEq, Int.reduceLT, Int.reduceLE, Int.reduceAdd, Int.reduceMul, Int.reduceSub, Int.reduceNeg, Int.reduceToNat, reduceIte, Nat.reduceLT, h2, h8, hc]
      refine fin L x _ H hL hH hI (by omega) (fun g hg => by have := hrl g hg; omega) hx ?_ ?_ ?_
      · simp only [go_sem, reduceCtorEq, Nat.reduceEqDiff, Nat.reduceAdd, Nat.reduceSub, Nat.reduceMul, Nat.reduceLeDiff, Int.reduceEq, Int.reduceLT, Int.reduceLE, Int.reduceAdd, Int.reduceMul, Int.reduceSub, Int.reduceNeg, Int.reduceToNat, reduceIte, Nat.reduceLT, h3]
      · simp only [go_sem, reduceCtorEq, Nat.reduceEqDiff, Nat.reduceAdd, Nat.reduceSub, Nat.reduceMul, Nat.reduceLeDiff, Int.reduceEq, Int.reduceLT, Int.reduceLE, Int.reduceAdd, Int.reduceMul, Int.reduceSub, Int.reduceNeg, Int.reduceToNat, reduceIte, Nat.reduceLT, h4]
      · simp only [go_sem, reduceCtorEq, Nat.reduceEqDiff, Nat.reduceAdd, Nat.reduceSub, Nat.reduceMul, Nat.reduceLeDiff, Int.reduceEq, Int.reduceLT, Int.reduceLE, Int.reduceAdd, Int.reduceMul, Int.reduceSub, Int.reduceNeg, Int.reduceToNat, reduceIte, Nat.reduceLT, h7]
    | cons n rest ih =>
      intro pre L x e H hp h40 hH hI hL hlen hrl hx h2 h3 h4 h7 h8
      have hc := lt_at (f := u16C) hp
      have hat := map_at' (f := u16C) hp
      have hn := next_at hp hl0
      have hpl : pre.length < ns.length := by rw [hp]; simp
      have hnb := hb n (by rw [hp]; simp)
      have hA := hdrA_may hnb
      have w1 : IntKind.wrap .i64 (n : Int) = (n : Int) := wrap64 (by omega)
      have r5 : (n : Int).tmod 5 = ((n % 5 : Nat) : Int) := by rw [Int.tmod_eq_emod_of_nonneg (by omega)]; omega
      have q5 : IntKind.wrap .i64 ((n : Int).tdiv 5) = ((n / 5 : Nat) : Int) := by rw [Int.tdiv_eq_ediv_of_nonneg (by omega), wrap64 (by omega)]; omega
      have r8 : ((n / 5 : Nat) : Int).tmod 8 = ((n / 5 % 8 : Nat) : Int) := by rw [Int.tmod_eq_emod_of_nonneg (by omega)]; omega
      have q40 : IntKind.wrap .i64 ((n : Int).tdiv 40) = ((n / 40 : Nat) : Int) := by rw [Int.tdiv_eq_ediv_of_nonneg (by omega), wrap64 (by omega)]; omega
      have w2 : IntKind.wrap .i64 (1 + ((n % 5 : Nat) : Int)) = 1 + ((n % 5 : Nat) : Int) := wrap64 (by omega)
      have w3 : IntKind.wrap .i64 (1 + ((n / 40 : Nat) : Int)) = 1 + ((n / 40 : Nat) : Int) := wrap64 (by omega)
      have k := (window_Add_ok L (hdrA n) hL hA (by omega) (fun g hg => by have := hrl g hg; omega)).wk (args := [.c x, .agg (hdrA n).cells]) (.cons (.c hx) (.cons (.same _) .nil))
      have hL2 := hmay hA hL
      have hlen2 := addedG_len (l := L) (h := hdrA n)
      have hrl2 := addedG_runs (h := hdrA n) hrl
      dsimp only [u16C] at hat
      dsimp only [hdrA, Hdr.cells] at k
      generalize hL' : addedG L _ = L' at k
      have hL'' : addedG L (hdrA n) = L' := hL'
      rw [hL''] at hL2 hlen2 hrl2
      refine run_again ?_
      conv => enter [3, 1]; unfold l19_WindowApart_L0
      simp only [go_sem, reduceCtorEq, Nat.reduceEqDiff, Nat.reduceAdd, Nat.reduceSub, Nat.reduceMul, Nat.reduceLeDiff, Int.reduceEq, Int.reduceLT, Int.reduceLE, Int.reduceAdd, Int.reduceMul, Int.reduceSub, Int.reduceNeg, Int.reduceToNat, reduceIte, Nat.reduceLT, h2, h7, h8, hc, hat, w1, vBin_rem, vBin_quo, r5, q5, r8, q40, w2, w3]
      refine callW_pure k ?_
      simp only [go_sem, reduceCtorEq, Nat.reduceEqDiff, Nat.reduceAdd, Nat.reduceSub, Nat.reduceMul, Nat.reduceLeDiff, Int.reduceEq, Int.reduceLT, Int.reduceLE, Int.reduceAdd, Int.reduceMul, Int.reduceSub, Int.reduceNeg, Int.reduceToNat, reduceIte, Nat.reduceLT, h8, hn]
      refine ih (pre ++ [n]) L' (gotsC L') _ _ (by simp [hp]) h40 hH hI hL2 (by simp; omega) (fun g hg => by have := hrl2 g hg; simp; omega) (.same _) ?_ ?_ ?_ ?_ ?_
      · simp only [go_sem, reduceCtorEq, Nat.reduceEqDiff, Nat.reduceAdd, Nat.reduceSub, Nat.reduceMul, Nat.reduceLeDiff, Int.reduceEq, Int.reduceLT, Int.reduceLE, Int.reduceAdd, Int.reduceMul, Int.reduceSub, Int.reduceNeg, Int.reduceToNat, reduceIte, Nat.reduceLT, h2]
      · simp only [go_sem, reduceCtorEq, Nat.reduceEqDiff, Nat.reduceAdd, Nat.reduceSub, Nat.reduceMul, Nat.reduceLeDiff, Int.reduceEq, Int.reduceLT, Int.reduceLE, Int.reduceAdd, Int.reduceMul, Int.reduceSub, Int.reduceNeg, Int.reduceToNat, reduceIte, Nat.reduceLT, h3]
      · simp only [go_sem, reduceCtorEq, Nat.reduceEqDiff, Nat.reduceAdd, Nat.reduceSub, Nat.reduceMul, Nat.reduceLeDiff, Int.reduceEq, Int.reduceLT, Int.reduceLE, Int.reduceAdd, Int.reduceMul, Int.reduceSub, Int.reduceNeg, Int.reduceToNat, reduceIte, Nat.reduceLT, h4]
      · simp only [go_sem, reduceCtorEq, Nat.reduceEqDiff, Nat.reduceAdd, Nat.reduceSub, Nat.reduceMul, Nat.reduceLeDiff, Int.reduceEq, Int.reduceLT, Int.reduceLE, Int.reduceAdd, Int.reduceMul, Int.reduceSub, Int.reduceNeg, Int.reduceToNat, reduceIte, Nat.reduceLT]
      · simp only [go_sem, reduceCtorEq, Nat.reduceEqDiff, Nat.reduceAdd, Nat.reduceSub, Nat.reduceMul, Nat.reduceLeDiff, Int.reduceEq, Int.reduceLT, Int.reduceLE, Int.reduceAdd, Int.reduceMul, Int.reduceSub, Int.reduceNeg, Int.reduceToNat, reduceIte, Nat.reduceLT, hn]
  simp only [go_sem, reduceCtorEq, Nat.reduceEqDiff, Nat.reduceAdd, Nat.reduceSub, Nat.reduceMul, Nat.reduceLeDiff, Int.reduceEq, Int.reduceLT, Int.reduceLE, Int.reduceAdd, Int.reduceMul, Int.reduceSub, Int.reduceNeg, Int.reduceToNat, reduceIte, Nat.reduceLT, hcc, icc, hl3, il3, ht3, it3]
  refine callW_pure hm1 ?_
  cases hmy : mayH h with
  | false =>
    simp only [go_sem, reduceCtorEq, Nat.reduceEqDiff, Nat.reduceAdd, Nat.reduceSub, Nat.reduceMul, Nat.reduceLeDiff, Int.reduceEq, Int.reduceLT, Int.reduceLE, Int.reduceAdd, Int.reduceMul, Int.reduceSub, Int.reduceNeg, Int.reduceToNat, reduceIte, Nat.reduceLT]
    refine callW_pure l19_awake_ok ?_
    simp only [go_sem, reduceCtorEq, Nat.reduceEqDiff, Nat.reduceAdd, Nat.reduceSub, Nat.reduceMul, Nat.reduceLeDiff, Int.reduceEq, Int.reduceLT, Int.reduceLE, Int.reduceAdd, Int.reduceMul, Int.reduceSub, Int.reduceNeg, Int.reduceToNat, reduceIte, Nat.reduceLT]
    simp [viewA, viewFn, viewC, viewFs, viewCs, viewAs, closedC, closedCs]
  | true =>
    simp only [go_sem, reduceCtorEq, Nat.reduceEqDiff, Nat.reduceAdd, Nat.reduceSub, Nat.reduceMul, Nat.reduceLeDiff, Int.reduceEq, Int.reduceLT, Int.reduceLE, Int.reduceAdd, Int.reduceMul, Int.reduceSub, Int.reduceNeg, Int.reduceToNat, reduceIte, Nat.reduceLT, il3, it3]
    refine callW_pure hm2 ?_
    cases hmy2 : mayH i with
    | false =>
      simp only [go_sem, reduceCtorEq, Nat.reduceEqDiff, Nat.reduceAdd, Nat.reduceSub, Nat.reduceMul, Nat.reduceLeDiff, Int.reduceEq, Int.reduceLT, Int.reduceLE, Int.reduceAdd, Int.reduceMul, Int.reduceSub, Int.reduceNeg, Int.reduceToNat, reduceIte, Nat.reduceLT]
      refine callW_pure l19_awake_ok ?_
      simp only [go_sem, reduceCtorEq, Nat.reduceEqDiff, Nat.reduceAdd, Nat.reduceSub, Nat.reduceMul, Nat.reduceLeDiff, Int.reduceEq, Int.reduceLT, Int.reduceLE, Int.reduceAdd, Int.reduceMul, Int.reduceSub, Int.reduceNeg, Int.reduceToNat, reduceIte, Nat.reduceLT]
      simp [viewA, viewFn, viewC, viewFs, viewCs, viewAs, closedC, closedCs]
    | true =>
      by_cases h40 : (40 : Int) < (ns.length : Int)
      · simp only [go_sem, reduceCtorEq, Nat.reduceEqDiff, Nat.reduceAdd, Nat.reduceSub, Nat.reduceMul, Nat.reduceLeDiff, Int.reduceEq, Int.reduceLT, Int.reduceLE, Int.reduceAdd, Int.reduceMul, Int.reduceSub, Int.reduceNeg, Int.reduceToNat, reduceIte, Nat.reduceLT, hul, h40]
        refine callW_pure l19_awake_ok ?_
        simp only [go_sem, reduceCtorEq, Nat.reduceEqDiff, Nat.reduceAdd, Nat.reduceSub, Nat.reduceMul, Nat.reduceLeDiff, Int.reduceEq, Int.reduceLT, Int.reduceLE, Int.reduceAdd, Int.reduceMul, Int.reduceSub, Int.reduceNeg, Int.reduceToNat, reduceIte, Nat.reduceLT]
        simp [viewA, viewFn, viewC, viewFs, viewCs, viewAs, closedC, closedCs]
      · simp only [go_sem, reduceCtorEq, Nat.reduceEqDiff, Nat.reduceAdd, Nat.reduceSub, Nat.reduceMul, Nat.reduceLeDiff, Int.reduceEq, Int.reduceLT, Int.reduceLE, Int.reduceAdd, Int.reduceMul, Int.reduceSub, Int.reduceNeg, Int.reduceToNat, reduceIte, Nat.reduceLT, hul, h40]
        refine loop ns [] [] .nilS _ _ rfl (by omega) (hmh hmy) (hmi hmy2) .nil (by simp) (by simp) (.nilS 2) ?_ ?_ ?_ ?_ ?_
        · simp only [go_sem, reduceCtorEq, Nat.reduceEqDiff, Nat.reduceAdd, Nat.reduceSub, Nat.reduceMul, Nat.reduceLeDiff, Int.reduceEq, Int.reduceLT, Int.reduceLE, Int.reduceAdd, Int.reduceMul, Int.reduceSub, Int.reduceNeg, Int.reduceToNat, reduceIte, Nat.reduceLT]
        · simp only [go_sem, reduceCtorEq, Nat.reduceEqDiff, Nat.reduceAdd, Nat.reduceSub, Nat.reduceMul, Nat.reduceLeDiff, Int.reduceEq, Int.reduceLT, Int.reduceLE, Int.reduceAdd, Int.reduceMul, Int.reduceSub, Int.reduceNeg, Int.reduceToNat, reduceIte, Nat.reduceLT]
        · simp only [go_sem, reduceCtorEq, Nat.reduceEqDiff, Nat.reduceAdd, Nat.reduceSub, Nat.reduceMul, Nat.reduceLeDiff, Int.reduceEq, Int.reduceLT, Int.reduceLE, Int.reduceAdd, Int.reduceMul, Int.reduceSub, Int.reduceNeg, Int.reduceToNat, reduceIte, Nat.reduceLT]
        · simp only [go_sem, reduceCtorEq, Nat.reduceEqDiff, Nat.reduceAdd, Nat.reduceSub, Nat.reduceMul, Nat.reduceLeDiff, Int.reduceEq, Int.reduceLT, Int.reduceLE, Int.reduceAdd, Int.reduceMul, Int.reduceSub, Int.reduceNeg, Int.reduceToNat, reduceIte, Nat.reduceLT]
        · first | (simp only [go_sem, reduceCtorEq, Nat.reduceEqDiff, Nat.reduceAdd, Nat.reduceSub, Nat.reduceMul, Nat.reduceLeDiff, Int.reduceEq, Int.reduceLT, Int.reduceLE, Int.reduceAdd, Int.reduceMul, Int.reduceSub, Int.reduceNeg, Int.reduceToNat, reduceIte, Nat.reduceLT]; done) | (simp only [go_sem, reduceCtorEq, Nat.reduceEqDiff, Nat.reduceAdd, Nat.reduceSub, Nat.reduceMul, Nat.reduceLeDiff, Int.reduceEq, Int.reduceLT, Int.reduceLE, Int.reduceAdd, Int.reduceMul, Int.reduceSub, Int.reduceNeg, Int.reduceToNat, reduceIte, Nat.reduceLT]; rfl)

end Go.Proofs.Ytmdblemjlmfbbaa.Eng
