/- The law WindowOnce: its call. No statement of the seat is proved here. -/
import Derived.Test.YtmdblemjlmfbbaaZLawW1
namespace Go.Proofs.Ytmdblemjlmfbbaa.Eng
open Go
set_option linter.unusedVariables false
set_option linter.unusedSimpArgs false

def hdrO (e f s : Nat) : Hdr := ⟨1 + (e : Int), (f : Int), 1 + (s : Int)⟩
theorem hdrO_may {e f s : Nat} (he : e < 4) (hf : f < 4) (hs : s < 20) : (hdrO e f s).May := ⟨by simp only [hdrO]; omega, by simp only [hdrO]; omega, by simp only [hdrO]; omega, by simp only [hdrO]; omega, by simp only [hdrO]; omega⟩
def bRow (b : Bool) : List Cell := [.bool b]
/-- Which headers came: told by a list of bools. -/
def Came (B : List Bool) (L : List Got) : Prop := B.length = 320 ∧ ∀ e f s : Nat, e < 4 → f < 4 → s < 20 → B[(e * 4 + f) * 20 + s]? = some (hasG L (hdrO e f s))
theorem Came.nil : Came (List.replicate 320 false) [] := ⟨List.length_replicate, fun e f s he hf hs => by
  rw [List.getElem?_replicate, if_pos (by omega)]; rfl⟩
theorem Came.add {B : List Bool} {L : List Got} (h : Came B L) (hL : MayG L) {e f s : Nat} (he : e < 4) (hf : f < 4) (hs : s < 20) : Came (B.set ((e * 4 + f) * 20 + s) true) (addedG L (hdrO e f s)) := by
  refine ⟨by rw [List.length_set]; exact h.1, fun e' f' s' he' hf' hs' => ?_⟩
  rw [addedG_has (hdrO_may he hf hs) hL, List.getElem?_set]
  by_cases hk : (e * 4 + f) * 20 + s = (e' * 4 + f') * 20 + s'
  · have e1 : s = s' := by omega
    have e2 : f = f' := by omega
    have e3 : e = e' := by omega
    subst e1; subst e2; subst e3
    rw [if_pos rfl, if_pos (by rw [h.1]; omega)]
    simp
  · rw [if_neg hk, h.2 e' f' s' he' hf' hs']
    have : ¬ hdrO e f s = hdrO e' f' s' := fun hh => by
      simp only [hdrO, Hdr.mk.injEq] at hh
      omega
    simp [this]
theorem sumR_nonneg : ∀ {l : List Rn}, (∀ r ∈ l, r.Right) → 0 ≤ sumR l
  | [], _ => Int.le_refl _
  | y :: m, hm => by
    have h1 := sumR_nonneg (l := m) fun x hx => hm x (by simp [hx])
    have h2 := (hm y (by simp)).ft
    have h3 : sumR (y :: m) = (y.to - y.frm + 1) + sumR m := rfl
    omega
theorem cntG_nonneg : ∀ {l : List Got}, (∀ g ∈ l, Norm g.runs) → 0 ≤ cntG l
  | [], _ => Int.le_refl _
  | y :: m, hm => by
    have h1 := cntG_nonneg (l := m) fun x hx => hm x (by simp [hx])
    have h2 := sumR_nonneg (hm y (by simp)).right
    have h3 : cntG (y :: m) = sumR y.runs + cntG m := rfl
    omega
theorem added_cnt {L : List Got} {h : Hdr} (k : h.May) (hl : MayG L) (hf : ∀ g ∈ L, FewR g.runs) (h4 : h.frm < 4) (h20 : h.seq ≤ 20) : cntG (addedG L h) = cntG L + (if hasG L h then 0 else 1) ∧ ∀ g ∈ addedG L h, FewR g.runs := by
  unfold addedG
  cases hh : hasG L h with
  | true => simp; exact hf
  | false =>
    simp only [Bool.false_eq_true, if_false]
    exact ⟨cnt_add k hl hf h4 h20 hh, few_add k hl hf h4 h20⟩

set_option maxHeartbeats 8000000 in
theorem l19_WindowOnce_law (ns : List Nat) (hl0 : ns.length ≤ maxLen) (hb : ∀ n ∈ ns, n < 65536) : Pr 4 [.c (u16sC ns)] (bC true) := by
  refine pure_of mixed is_l19_WindowOnce (by simp [closedAs, closedA, closedC, closed_u16sC]) fun hl' T => ?_
  unfold c_l19_WindowOnce
  have huc : u16sC ns = .lst 1 (ns.map u16C) := rfl
  rw [huc]
  have hul : (ns.map u16C).length = ns.length := by simp
  have hgc : ∀ l : List Got, gotsC l = .lst 2 (l.map Got.cells) := fun _ => rfl
  have last : ∀ (e : Env) (H : Heap), e 5 = iC 0 → Run (progT Try.prog T) ⟨[.tmp 2], fun u E => viewA E u = some (bC true)⟩ [.code l19_WindowOnce_K4] e H := by
    intro e H h5
    unfold l19_WindowOnce_K4
    simp only [go_sem, reduceCtorEq, Nat.reduceEqDiff, Nat.reduceAdd, Nat.reduceSub, Nat.reduceMul, Nat.reduceLeDiff, Int.reduceEq, Int.reduceLT, Int.reduceLE, Int.reduceAdd, Int.reduceMul, Int.reduceSub, Int.reduceNeg, Int.reduceToNat, reduceIte, Nat.reduceLT, h5]
    refine callW_pure l19_awake_ok ?_
    simp only [go_sem, reduceCtorEq, Nat.reduceEqDiff, Nat.reduceAdd, Nat.reduceSub, Nat.reduceMul, Nat.reduceLeDiff, Int.reduceEq, Int.reduceLT, Int.reduceLE, Int.reduceAdd, Int.reduceMul, Int.reduceSub, Int.reduceNeg, Int.reduceToNat, reduceIte, Nat.reduceLT]
    simp [viewA, viewFn, viewC, viewFs, viewCs, viewAs, closedC, closedCs]
  -- the sums
  have sums : ∀ (L : List Got), MayG L → L.length ≤ 100 → (∀ g ∈ L, g.runs.length ≤ 100) → ∀ (rest pre : List Got) (e : Env) (H : Heap), L = pre ++ rest → e 3 = .c (.lst 2 (L.map Got.cells)) → e 5 = iC (cntG rest) → e 15 = iC pre.length → cntG rest ≤ 1000 →
      Run (progT Try.prog T) ⟨[.tmp 2], fun u E => viewA E u = some (bC true)⟩ [.loop l19_WindowOnce_L3, .blk 2, .code l19_WindowOnce_K4] e H := by
    intro L hL hLl hLr rest
    have hlm : L.length ≤ maxLen := by unfold maxLen; omega
    induction rest with
    | nil =>
      intro pre e H hp h3 h5 h15 h9
      have hc := not_lt_at (f := Got.cells) hp
      refine run_again ?_
      conv => enter [3, 1]; unfold l19_WindowOnce_L3
      simp only [go_sem, reduceCtorEq, Nat.reduceEqDiff, Nat.reduceAdd, Nat.reduceSub, Nat.reduceMul, Nat.reduceLeDiff, Int.reduceEq, Int.reduceLT, Int.reduceLE, Int.reduceAdd, Int.reduceMul, Int.reduceSub, Int.reduceNeg, Int.reduceToNat, reduceIte, Nat.reduceLT, h3, h15, hc]
      refine last _ _ ?_
      simp only [go_sem, reduceCtorEq, Nat.reduceEqDiff, Nat.reduceAdd, Nat.reduceSub, Nat.reduceMul, Nat.reduceLeDiff, Int.reduceEq, Int.reduceLT, Int.reduceLE, Int.reduceAdd, Int.reduceMul, Int.reduceSub, Int.reduceNeg, Int.reduceToNat, reduceIte, Nat.reduceLT, h5]
      rfl
    | cons g rest ih =>
      intro pre e H hp h3 h5 h15 h9
      have hc := lt_at (f := Got.cells) hp
      have hat := map_at' (f := Got.cells) hp
      have hnx := next_at hp hlm
      have hgm : g ∈ L := by rw [hp]; simp
      have hgn := (hL.one g hgm).2.2
      have hgr := hLr g hgm
      have hrn := cntG_nonneg (l := rest) fun x hx => (hL.one x (by rw [hp]; simp [hx])).2.2
      have hcg : cntG (g :: rest) = sumR g.runs + cntG rest := rfl
      obtain ⟨ge, gr⟩ := g
      dsimp only [Got.cells, runsC] at hat
      simp only at hgn hgr hcg
      have hgm : gr.length ≤ maxLen := by unfold maxLen; omega
      rw [hcg] at h5 h9
      have inner : ∀ (rr rp : List Rn) (e : Env) (H : Heap), gr = rp ++ rr → e 3 = .c (.lst 2 (L.map Got.cells)) → e 5 = iC (sumR rr + cntG rest) → e 15 = iC pre.length → e 16 = iC rp.length → sumR rr + cntG rest ≤ 1000 →
          Run (progT Try.prog T) ⟨[.tmp 2], fun u E => viewA E u = some (bC true)⟩ [.loop l19_WindowOnce_L1, .blk 4, .blk 3, .code l19_WindowOnce_K2, .loop l19_WindowOnce_L3, .blk 2, .code l19_WindowOnce_K4] e H := by
        intro rr
        induction rr with
        | nil =>
          intro rp e H hp' h3 h5 h15 h16 h9
          have hc' := not_lt_at (f := Rn.cells) hp'
          refine run_again ?_
          conv => enter [3, 1]; unfold l19_WindowOnce_L1
          simp only [go_sem, reduceCtorEq, Nat.reduceEqDiff, Nat.reduceAdd, Nat.reduceSub, Nat.reduceMul, Nat.reduceLeDiff, Int.reduceEq, Int.reduceLT, Int.reduceLE, Int.reduceAdd, Int.reduceMul, Int.reduceSub, Int.reduceNeg, Int.reduceToNat, reduceIte, Nat.reduceLT, h3, h15, h16, hat, hc']
          unfold l19_WindowOnce_K2
          simp only [go_sem, reduceCtorEq, Nat.reduceEqDiff, Nat.reduceAdd, Nat.reduceSub, Nat.reduceMul, Nat.reduceLeDiff, Int.reduceEq, Int.reduceLT, Int.reduceLE, Int.reduceAdd, Int.reduceMul, Int.reduceSub, Int.reduceNeg, Int.reduceToNat, reduceIte, Nat.reduceLT, h15, hnx]
          have h5' : e 5 = iC (cntG rest) := by rw [h5]; simp [sumR]
          refine ih (pre ++ [⟨ge, gr⟩]) _ _ (by simp [hp]) ?_ ?_ ?_ (by simpa [sumR] using h9)
          · simp only [go_sem, reduceCtorEq, Nat.reduceEqDiff, Nat.reduceAdd, Nat.reduceSub, Nat.reduceMul, Nat.reduceLeDiff, Int.reduceEq, Int.reduceLT, Int.reduceLE, Int.reduceAdd, Int.reduceMul, Int.reduceSub, Int.reduceNeg, Int.reduceToNat, reduceIte, Nat.reduceLT, h3]
          · simp only [go_sem, reduceCtorEq, Nat.reduceEqDiff, Nat.reduceAdd, Nat.reduceSub, Nat.reduceMul, Nat.reduceLeDiff, Int.reduceEq, Int.reduceLT, Int.reduceLE, Int.reduceAdd, Int.reduceMul, Int.reduceSub, Int.reduceNeg, Int.reduceToNat, reduceIte, Nat.reduceLT, h5']
          · simp only [go_sem, reduceCtorEq, Nat.reduceEqDiff, Nat.reduceAdd, Nat.reduceSub, Nat.reduceMul, Nat.reduceLeDiff, Int.reduceEq, Int.reduceLT, Int.reduceLE, Int.reduceAdd, Int.reduceMul, Int.reduceSub, Int.reduceNeg, Int.reduceToNat, reduceIte, Nat.reduceLT, hnx]
        | cons r rr ihr =>
          intro rp e H hp' h3 h5 h15 h16 h9
          have hc' := lt_at (f := Rn.cells) hp'
          have hr' := map_at' (f := Rn.cells) hp'
          have hnx' := next_at hp' hgm
          have hR := hgn.right r (by rw [hp']; simp)
          have q1 := hR.f1
          have q2 := hR.ft
          have q3 := hR.tm
          have hs : sumR (r :: rr) = (r.to - r.frm + 1) + sumR rr := rfl
          have hrr := sumR_nonneg (l := rr) fun x hx => hgn.right x (by rw [hp']; simp [hx])
          have w1 : IntKind.wrap .i64 (r.to - r.frm) = r.to - r.frm := wrap64 (by omega)
          have w2 : IntKind.wrap .i64 (r.to - r.frm + 1) = r.to - r.frm + 1 := wrap64 (by omega)
          have w3 : IntKind.wrap .i64 (sumR (r :: rr) + cntG rest - (r.to - r.frm + 1)) = sumR rr + cntG rest := by rw [hs, wrap64 (by omega)]; omega
          refine run_again ?_
          conv => enter [3, 1]; unfold l19_WindowOnce_L1
          simp only [go_sem, reduceCtorEq, Nat.reduceEqDiff, Nat.reduceAdd, Nat.reduceSub, Nat.reduceMul, Nat.reduceLeDiff, Int.reduceEq, Int.reduceLT, Int.reduceLE, Int.reduceAdd, Int.reduceMul, Int.reduceSub, Int.reduceNeg, Int.reduceToNat, reduceIte, Nat.reduceLT, h3, h15, h16, hat, hc', hr', h5, w1, w2, w3, hnx']
          refine ihr (rp ++ [r]) _ _ (by rw [hp']; simp) ?_ ?_ ?_ ?_ (by omega)
          · simp only [go_sem, reduceCtorEq, Nat.reduceEqDiff, Nat.reduceAdd, Nat.reduceSub, Nat.reduceMul, Nat.reduceLeDiff, Int.reduceEq, Int.reduceLT, Int.reduceLE, Int.reduceAdd, Int.reduceMul, Int.reduceSub, Int.reduceNeg, Int.reduceToNat, reduceIte, Nat.reduceLT, h3]
          · simp only [go_sem, reduceCtorEq, Nat.reduceEqDiff, Nat.reduceAdd, Nat.reduceSub, Nat.reduceMul, Nat.reduceLeDiff, Int.reduceEq, Int.reduceLT, Int.reduceLE, Int.reduceAdd, Int.reduceMul, Int.reduceSub, Int.reduceNeg, Int.reduceToNat, reduceIte, Nat.reduceLT]
          · simp only [go_sem, reduceCtorEq, Nat.reduceEqDiff, Nat.reduceAdd, Nat.reduceSub, Nat.reduceMul, Nat.reduceLeDiff, Int.reduceEq, Int.reduceLT, Int.reduceLE, Int.reduceAdd, Int.reduceMul, Int.reduceSub, Int.reduceNeg, Int.reduceToNat, reduceIte, Nat.reduceLT, h15]
          · simp only [go_sem, reduceCtorEq, Nat.reduceEqDiff, Nat.reduceAdd, Nat.reduceSub, Nat.reduceMul, Nat.reduceLeDiff, Int.reduceEq, Int.reduceLT, Int.reduceLE, Int.reduceAdd, Int.reduceMul, Int.reduceSub, Int.reduceNeg, Int.reduceToNat, reduceIte, Nat.reduceLT, hnx']
      refine run_again ?_
      conv => enter [3, 1]; unfold l19_WindowOnce_L3
      simp only [go_sem, reduceCtorEq, Nat.reduceEqDiff, Nat.reduceAdd, Nat.reduceSub, Nat.reduceMul, Nat.reduceLeDiff, Int.reduceEq, Int.reduceLT, Int.reduceLE, Int.reduceAdd, Int.reduceMul, Int.reduceSub, Int.reduceNeg, Int.reduceToNat, reduceIte, Nat.reduceLT, h3, h15, hc]
      refine inner gr [] _ _ rfl ?_ ?_ ?_ ?_ h9
      · simp only [go_sem, reduceCtorEq, Nat.reduceEqDiff, Nat.reduceAdd, Nat.reduceSub, Nat.reduceMul, Nat.reduceLeDiff, Int.reduceEq, Int.reduceLT, Int.reduceLE, Int.reduceAdd, Int.reduceMul, Int.reduceSub, Int.reduceNeg, Int.reduceToNat, reduceIte, Nat.reduceLT, h3]
      · simp only [go_sem, reduceCtorEq, Nat.reduceEqDiff, Nat.reduceAdd, Nat.reduceSub, Nat.reduceMul, Nat.reduceLeDiff, Int.reduceEq, Int.reduceLT, Int.reduceLE, Int.reduceAdd, Int.reduceMul, Int.reduceSub, Int.reduceNeg, Int.reduceToNat, reduceIte, Nat.reduceLT, h5]
      · simp only [go_sem, reduceCtorEq, Nat.reduceEqDiff, Nat.reduceAdd, Nat.reduceSub, Nat.reduceMul, Nat.reduceLeDiff, Int.reduceEq, Int.reduceLT, Int.reduceLE, Int.reduceAdd, Int.reduceMul, Int.reduceSub, Int.reduceNeg, Int.reduceToNat, reduceIte, Nat.reduceLT, h15]
      · first | (simp only [go_sem, reduceCtorEq, Nat.reduceEqDiff, Nat.reduceAdd, Nat.reduceSub, Nat.reduceMul, Nat.reduceLeDiff, Int.reduceEq, Int.reduceLT, Int.reduceLE, Int.reduceAdd, Int.reduceMul, Int.reduceSub, Int.reduceNeg, Int.reduceToNat, reduceIte, Nat.reduceLT]; done) | (simp only [go_sem, reduceCtorEq, Nat.reduceEqDiff, Nat.reduceAdd, Nat.reduceSub, Nat.reduceMul, Nat.reduceLeDiff, Int.reduceEq, Int.reduceLT, Int.reduceLE, Int.reduceAdd, Int.reduceMul, Int.reduceSub, Int.reduceNeg, Int.reduceToNat, reduceIte, Nat.reduceLT]; rfl)
  -- the headers
  have loop : ∀ (rest pre : List Nat) (L : List Got) (x : Cell) (B : List Bool) (e : Env) (H : Heap), ns = pre ++ rest → ns.length ≤ 80 → MayG L → L.length ≤ pre.length → (∀ g ∈ L, g.runs.length ≤ pre.length) → (∀ g ∈ L, FewR g.runs) → cntG L ≤ pre.length → Came B L → WkC x (gotsC L) →
      e 0 = .c (.lst 1 (ns.map u16C)) → e 3 = .c x → e 4 = .c (.slc 0 0 320 1 false) → e 5 = iC (cntG L) → e 6 = iC pre.length → H[0]? = some { sz := 1, rows := B.map bRow, own := true, live := true } →
      Run (progT Try.prog T) ⟨[.tmp 2], fun u E => viewA E u = some (bC true)⟩ [.loop l19_WindowOnce_L0, .blk 0, .code l19_WindowOnce_K5] e H := by
    intro rest
    induction rest with
    | nil =>
      intro pre L x B e H hp h80 hL hlen hrl hfew hcnt hB hx h0 h3 h4 h5 h6 hH
      have hc := not_lt_at (f := u16C) hp
      have hpl : pre.length = ns.length := by rw [hp]; simp
      refine run_again ?_
      conv => enter [3, 1]; unfold l19_WindowOnce_L0
      simp only [go_sem, reduceCtorEq, Nat.reduceEqDiff, Nat.reduceAdd, Nat.reduceSub, Nat.reduceMul, Nat.reduceLeDiff, Int.reduceEq, Int.reduceLT, Int.reduceLE, Int.reduceAdd, Int.reduceMul, Int.reduceSub, Int.reduceNeg, Int.reduceToNat, reduceIte, Nat.reduceLT, h0, h6, hc]
      unfold l19_WindowOnce_K5
      generalize hgx : gotsC L = y at hx
      cases hx with
      | same =>
        subst hgx
        simp only [go_sem, reduceCtorEq, Nat.reduceEqDiff, Nat.reduceAdd, Nat.reduceSub, Nat.reduceMul, Nat.reduceLeDiff, Int.reduceEq, Int.reduceLT, Int.reduceLE, Int.reduceAdd, Int.reduceMul, Int.reduceSub, Int.reduceNeg, Int.reduceToNat, reduceIte, Nat.reduceLT]
        refine sums L hL (by omega) (fun g hg => by have := hrl g hg; omega) L [] _ _ rfl ?_ ?_ ?_ (by omega)
        · simp only [go_sem, reduceCtorEq, Nat.reduceEqDiff, Nat.reduceAdd, Nat.reduceSub, Nat.reduceMul, Nat.reduceLeDiff, Int.reduceEq, Int.reduceLT, Int.reduceLE, Int.reduceAdd, Int.reduceMul, Int.reduceSub, Int.reduceNeg, Int.reduceToNat, reduceIte, Nat.reduceLT, h3]
        · simp only [go_sem, reduceCtorEq, Nat.reduceEqDiff, Nat.reduceAdd, Nat.reduceSub, Nat.reduceMul, Nat.reduceLeDiff, Int.reduceEq, Int.reduceLT, Int.reduceLE, Int.reduceAdd, Int.reduceMul, Int.reduceSub, Int.reduceNeg, Int.reduceToNat, reduceIte, Nat.reduceLT, h5]
        · first | (simp only [go_sem, reduceCtorEq, Nat.reduceEqDiff, Nat.reduceAdd, Nat.reduceSub, Nat.reduceMul, Nat.reduceLeDiff, Int.reduceEq, Int.reduceLT, Int.reduceLE, Int.reduceAdd, Int.reduceMul, Int.reduceSub, Int.reduceNeg, Int.reduceToNat, reduceIte, Nat.reduceLT]; done) | (simp only [go_sem, reduceCtorEq, Nat.reduceEqDiff, Nat.reduceAdd, Nat.reduceSub, Nat.reduceMul, Nat.reduceLeDiff, Int.reduceEq, Int.reduceLT, Int.reduceLE, Int.reduceAdd, Int.reduceMul, Int.reduceSub, Int.reduceNeg, Int.reduceToNat, reduceIte, Nat.reduceLT]; rfl)
      | nilS sz =>
        have hL0 : L = [] := by
          simp only [gotsC] at hgx
          injection hgx with _ hgx
          simpa using hgx
        subst hL0
        simp only [go_sem, reduceCtorEq, Nat.reduceEqDiff, Nat.reduceAdd, Nat.reduceSub, Nat.reduceMul, Nat.reduceLeDiff, Int.reduceEq, Int.reduceLT, Int.reduceLE, Int.reduceAdd, Int.reduceMul, Int.reduceSub, Int.reduceNeg, Int.reduceToNat, reduceIte, Nat.reduceLT]
        refine run_again ?_
        conv => enter [3, 1]; unfold l19_WindowOnce_L3
        simp only [go_sem, reduceCtorEq, Nat.reduceEqDiff, Nat.reduceAdd, Nat.reduceSub, Nat.reduceMul, Nat.reduceLeDiff, Int.reduceEq, Int.reduceLT, Int.reduceLE, Int.reduceAdd, Int.reduceMul, Int.reduceSub, Int.reduceNeg, Int.reduceToNat, reduceIte, Nat.reduceLT, h3]
        refine last _ _ ?_
        simp only [go_sem, reduceCtorEq, Nat.reduceEqDiff, Nat.reduceAdd, Nat.reduceSub, Nat.reduceMul, Nat.reduceLeDiff, Int.reduceEq, Int.reduceLT, Int.reduceLE, Int.reduceAdd, Int.reduceMul, Int.reduceSub, Int.reduceNeg, Int.reduceToNat, reduceIte, Nat.reduceLT, h5]
        rfl
      | zer sz =>
        have hL0 : L = [] := by
          simp only [gotsC] at hgx
          injection hgx with _ hgx
          simpa using hgx
        subst hL0
        simp only [go_sem, reduceCtorEq, Nat.reduceEqDiff, Nat.reduceAdd, Nat.reduceSub, Nat.reduceMul, Nat.reduceLeDiff, Int.reduceEq, Int.reduceLT, Int.reduceLE, Int.reduceAdd, Int.reduceMul, Int.reduceSub, Int.reduceNeg, Int.reduceToNat, reduceIte, Nat.reduceLT]
        refine run_again ?_
        conv => enter [3, 1]; unfold l19_WindowOnce_L3
        simp only [go_sem, reduceCtorEq, Nat.reduceEqDiff, Nat.reduceAdd, Nat.reduceSub, Nat.reduceMul, Nat.reduceLeDiff, Int.reduceEq, Int.reduceLT, Int.reduceLE, Int.reduceAdd, Int.reduceMul, Int.reduceSub, Int.reduceNeg, Int.reduceToNat, reduceIte, Nat.reduceLT, h3]
        refine last _ _ ?_
        simp only [go_sem, reduceCtorEq, Nat.reduceEqDiff, Nat.reduceAdd, Nat.reduceSub, Nat.reduceMul, Nat.reduceLeDiff, Int.reduceEq, Int.reduceLT, Int.reduceLE, Int.reduceAdd, Int.reduceMul, Int.reduceSub, Int.reduceNeg, Int.reduceToNat, reduceIte, Nat.reduceLT, h5]
        rfl
      | emp sz =>
        have hL0 : L = [] := by
          simp only [gotsC] at hgx
          injection hgx with _ hgx
          simpa using hgx
        subst hL0
        simp only [go_sem, reduceCtorEq, Nat.reduceEqDiff, Nat.reduceAdd, Nat.reduceSub, Nat.reduceMul, Nat.reduceLeDiff, Int.reduceEq, Int.reduceLT, Int.reduceLE, Int.reduceAdd, Int.reduceMul, Int.reduceSub, Int.reduceNeg, Int.reduceToNat, reduceIte, Nat.reduceLT]
        refine run_again ?_
        conv => enter [3, 1]; unfold l19_WindowOnce_L3
        simp only [go_sem, reduceCtorEq, Nat.reduceEqDiff, Nat.reduceAdd, Nat.reduceSub, Nat.reduceMul, Nat.reduceLeDiff, Int.reduceEq, Int.reduceLT, Int.reduceLE, Int.reduceAdd, Int.reduceMul, Int.reduceSub, Int.reduceNeg, Int.reduceToNat, reduceIte, Nat.reduceLT, h3]
        refine last _ _ ?_
        simp only [go_sem, reduceCtorEq, Nat.reduceEqDiff, Nat.reduceAdd, Nat.reduceSub, Nat.reduceMul, Nat.reduceLeDiff, Int.reduceEq, Int.reduceLT, Int.reduceLE, Int.reduceAdd, Int.reduceMul, Int.reduceSub, Int.reduceNeg, Int.reduceToNat, reduceIte, Nat.reduceLT, h5]
        rfl
      | nilZ sz => simp [gotsC] at hgx
    | cons n rest ih =>
      intro pre L x B e H hp h80 hL hlen hrl hfew hcnt hB hx h0 h3 h4 h5 h6 hH
      have hc := lt_at (f := u16C) hp
      have hat := map_at' (f := u16C) hp
      have hn := next_at hp hl0
      have hpl : pre.length < ns.length := by rw [hp]; simp
      have hnb := hb n (by rw [hp]; simp)
      have he4 : n % 4 < 4 := by omega
      have hf4 : n / 4 % 4 < 4 := by omega
      have hs20 : n / 16 % 20 < 20 := by omega
      have hA := hdrO_may he4 hf4 hs20
      have w1 : IntKind.wrap .i64 (n : Int) = (n : Int) := wrap64 (by omega)
      have r4 : (n : Int).tmod 4 = ((n % 4 : Nat) : Int) := by rw [Int.tmod_eq_emod_of_nonneg (by omega)]; omega
      have q4 : IntKind.wrap .i64 ((n : Int).tdiv 4) = ((n / 4 : Nat) : Int) := by rw [Int.tdiv_eq_ediv_of_nonneg (by omega), wrap64 (by omega)]; omega
      have r44 : ((n / 4 : Nat) : Int).tmod 4 = ((n / 4 % 4 : Nat) : Int) := by rw [Int.tmod_eq_emod_of_nonneg (by omega)]; omega
      have q16 : IntKind.wrap .i64 ((n : Int).tdiv 16) = ((n / 16 : Nat) : Int) := by rw [Int.tdiv_eq_ediv_of_nonneg (by omega), wrap64 (by omega)]; omega
      have r20 : ((n / 16 : Nat) : Int).tmod 20 = ((n / 16 % 20 : Nat) : Int) := by rw [Int.tmod_eq_emod_of_nonneg (by omega)]; omega
      have k1 := hB.2 _ _ _ he4 hf4 hs20
      have hB2 := hB.add hL he4 hf4 hs20
      have kA := (window_Add_ok L _ hL hA (by omega) (fun g hg => by have := hrl g hg; omega)).wk (args := [.c x, .agg (hdrO (n % 4) (n / 4 % 4) (n / 16 % 20)).cells]) (.cons (.c hx) (.cons (.same _) .nil))
      have kH := (window_Has_ok L (hdrO (n % 4) (n / 4 % 4) (n / 16 % 20)) hL (by omega)).wk (args := [.c x, .agg (hdrO (n % 4) (n / 4 % 4) (n / 16 % 20)).cells]) (.cons (.c hx) (.cons (.same _) .nil))
      have hL2 := addedG_may hA hL
      have hlen2 := addedG_len (l := L) (h := hdrO (n % 4) (n / 4 % 4) (n / 16 % 20))
      have hrl2 := addedG_runs (h := hdrO (n % 4) (n / 4 % 4) (n / 16 % 20)) hrl
      obtain ⟨hcnt2, hfew2⟩ := added_cnt hA hL hfew (by simp only [hdrO]; omega) (by simp only [hdrO]; omega)
      have kM := window_May_ok (addedG L (hdrO (n % 4) (n / 4 % 4) (n / 16 % 20)))
      have kH2 := window_Has_ok (addedG L (hdrO (n % 4) (n / 4 % 4) (n / 16 % 20))) (hdrO (n % 4) (n / 4 % 4) (n / 16 % 20)) hL2 (by omega)
      have e1 : mayG (addedG L (hdrO (n % 4) (n / 4 % 4) (n / 16 % 20))) = true := mayG_iff.2 hL2
      have e2 : hasG (addedG L (hdrO (n % 4) (n / 4 % 4) (n / 16 % 20))) (hdrO (n % 4) (n / 4 % 4) (n / 16 % 20)) = true := by rw [addedG_has hA hL]; simp
      have kS := (r14_SameGot_ok (addedG L (hdrO (n % 4) (n / 4 % 4) (n / 16 % 20))) L).wk (args := [.c (gotsC (addedG L (hdrO (n % 4) (n / 4 % 4) (n / 16 % 20)))), .c x]) (.cons (.same _) (.cons (.c hx) .nil))
      have e3 : hasG L (hdrO (n % 4) (n / 4 % 4) (n / 16 % 20)) = true → addedG L (hdrO (n % 4) (n / 4 % 4) (n / 16 % 20)) = L := fun hh => by unfold addedG; rw [hh]; rfl
      rw [e1] at kM
      rw [e2] at kH2
      generalize hee : n % 4 = ee at *
      generalize hff : n / 4 % 4 = ff at *
      generalize hss : n / 16 % 20 = ss at *
      have w2 : IntKind.wrap .i64 ((ee : Int) * 4) = ((ee * 4 : Nat) : Int) := by rw [wrap64 (by omega)]; omega
      have w3 : IntKind.wrap .i64 (((ee * 4 : Nat) : Int) + (ff : Int)) = ((ee * 4 + ff : Nat) : Int) := by rw [wrap64 (by omega)]; omega
      have w4 : IntKind.wrap .i64 (((ee * 4 + ff : Nat) : Int) * 20) = (((ee * 4 + ff) * 20 : Nat) : Int) := by rw [wrap64 (by omega)]; omega
      have w5 : IntKind.wrap .i64 ((((ee * 4 + ff) * 20 : Nat) : Int) + (ss : Int)) = (((ee * 4 + ff) * 20 + ss : Nat) : Int) := by rw [wrap64 (by omega)]; omega
      have w6 : IntKind.wrap .i64 (1 + (ee : Int)) = 1 + (ee : Int) := wrap64 (by omega)
      have w7 : IntKind.wrap .i64 (1 + (ss : Int)) = 1 + (ss : Int) := wrap64 (by omega)
      have hkk : (ee * 4 + ff) * 20 + ss < 320 := by omega
      generalize hkd : (ee * 4 + ff) * 20 + ss = kk at *
      have hix : ∀ H : Heap, vIx 1 (.c (.slc 0 0 320 1 false)) (iC kk) H = some (.c (.ptr 0 kk 0), H) := fun H => vIx_slc hkk
      have hrow : Heap.row H 0 kk = some [.bool (hasG L (hdrO ee ff ss))] := by rw [row_of hH rfl]; simp [k1, bRow]
      have hmine : Heap.mine H 0 = true := mine_of hH rfl rfl
      have hput : Heap.put H 0 kk [.bool true] = H.set 0 { sz := 1, rows := (B.set kk true).map bRow, own := true, live := true } := by
        rw [put_of hH]
        congr 2
        rw [List.map_set]; rfl
      have hHl : 0 < H.length := (List.getElem?_eq_some_iff.1 hH).1
      have hHs : ∀ K : Blk, (H.set 0 { sz := 1, rows := (B.set kk true).map bRow, own := true, live := true } ++ [K])[0]? = some { sz := 1, rows := (B.set kk true).map bRow, own := true, live := true } := fun K => by
        rw [get_prev (by simpa using hHl)]; exact set_get hH
      have wn : IntKind.wrap .i64 (cntG L + 1) = cntG L + 1 := wrap64 (by have := cntG_nonneg (l := L) fun g hg => (hL.one g hg).2.2; omega)
      obtain ⟨L', hL'⟩ : ∃ L', addedG L (hdrO ee ff ss) = L' := ⟨_, rfl⟩
      rw [hL'] at kA kM kH2 kS hL2 hlen2 hrl2 hcnt2 hfew2 hB2 e3
      obtain ⟨b, hbb⟩ : ∃ b, hasG L (hdrO ee ff ss) = b := ⟨_, rfl⟩
      rw [hbb] at kA kH hrow hcnt2 e3
      rw [hgc] at kM kH2 kS
      have kA' : Pr 10 [.c x, .agg (hdrO ee ff ss).cells] (.tup [.c (.lst 2 (L'.map Got.cells)), bC (!b)]) := kA
      dsimp only [u16C] at hat
      dsimp only [hdrO, Hdr.cells] at kA' kH kH2
      have hn' : ns.length ≤ 80 := h80
      have hih := fun (e' : Env) (H' : Heap) (g0 : e' 0 = e 0) (g3 : e' 3 = .c (.lst 2 (L'.map Got.cells))) (g4 : e' 4 = e 4) (g5 : e' 5 = iC (cntG L')) (g6 : e' 6 = iC (pre ++ [n]).length) (gH : H'[0]? = some { sz := 1, rows := (B.set kk true).map bRow, own := true, live := true }) =>
        ih (pre ++ [n]) L' (gotsC L') (B.set kk true) e' H' (by simp [hp]) h80 hL2 (by simp; omega) (fun g hg => by have := hrl2 g hg; simp; omega) hfew2 (by rw [hcnt2]; simp; split <;> omega) hB2 (.same _) (by rw [g0, h0]) g3 (by rw [g4, h4]) g5 g6 gH
      clear ih
      refine run_again ?_
      conv => enter [3, 1]; unfold l19_WindowOnce_L0
      simp only [go_sem, reduceCtorEq, Nat.reduceEqDiff, Nat.reduceAdd, Nat.reduceSub, Nat.reduceMul, Nat.reduceLeDiff, Int.reduceEq, Int.reduceLT, Int.reduceLE, Int.reduceAdd, Int.reduceMul, Int.reduceSub, Int.reduceNeg, Int.reduceToNat, reduceIte, Nat.reduceLT, h0, h6, hc, hat, w1, vBin_rem, vBin_quo, r4, q4, r44, q16, r20, w2, w3, w4, w5, w6, w7, h3]
      refine callW_pure kH ?_
      simp only [go_sem, reduceCtorEq, Nat.reduceEqDiff, Nat.reduceAdd, Nat.reduceSub, Nat.reduceMul, Nat.reduceLeDiff, Int.reduceEq, Int.reduceLT, Int.reduceLE, Int.reduceAdd, Int.reduceMul, Int.reduceSub, Int.reduceNeg, Int.reduceToNat, reduceIte, Nat.reduceLT, h3]
      refine callW_pure kA' ?_
      cases b with
      | true =>
        have e3' := e3 rfl
        subst e3'
        have kS' := kS
        simp only [decide_true] at kS'
        simp only [go_sem, reduceCtorEq, Nat.reduceEqDiff, Nat.reduceAdd, Nat.reduceSub, Nat.reduceMul, Nat.reduceLeDiff, Int.reduceEq, Int.reduceLT, Int.reduceLE, Int.reduceAdd, Int.reduceMul, Int.reduceSub, Int.reduceNeg, Int.reduceToNat, reduceIte, Nat.reduceLT, h4, hix, hrow, hHl]
        refine callW_pure kM ?_
        simp only [go_sem, reduceCtorEq, Nat.reduceEqDiff, Nat.reduceAdd, Nat.reduceSub, Nat.reduceMul, Nat.reduceLeDiff, Int.reduceEq, Int.reduceLT, Int.reduceLE, Int.reduceAdd, Int.reduceMul, Int.reduceSub, Int.reduceNeg, Int.reduceToNat, reduceIte, Nat.reduceLT]
        refine callW_pure kH2 ?_
        simp only [go_sem, reduceCtorEq, Nat.reduceEqDiff, Nat.reduceAdd, Nat.reduceSub, Nat.reduceMul, Nat.reduceLeDiff, Int.reduceEq, Int.reduceLT, Int.reduceLE, Int.reduceAdd, Int.reduceMul, Int.reduceSub, Int.reduceNeg, Int.reduceToNat, reduceIte, Nat.reduceLT, h3]
        refine callW_pure kS' ?_
        simp only [go_sem, reduceCtorEq, Nat.reduceEqDiff, Nat.reduceAdd, Nat.reduceSub, Nat.reduceMul, Nat.reduceLeDiff, Int.reduceEq, Int.reduceLT, Int.reduceLE, Int.reduceAdd, Int.reduceMul, Int.reduceSub, Int.reduceNeg, Int.reduceToNat, reduceIte, Nat.reduceLT, h4, hix, hrow, hHl, hmine, hput, h6, hn]
        refine hih _ _ ?_ ?_ ?_ ?_ ?_ (hHs _)
        · simp only [go_sem, reduceCtorEq, Nat.reduceEqDiff, Nat.reduceAdd, Nat.reduceSub, Nat.reduceMul, Nat.reduceLeDiff, Int.reduceEq, Int.reduceLT, Int.reduceLE, Int.reduceAdd, Int.reduceMul, Int.reduceSub, Int.reduceNeg, Int.reduceToNat, reduceIte, Nat.reduceLT]
        · simp only [go_sem, reduceCtorEq, Nat.reduceEqDiff, Nat.reduceAdd, Nat.reduceSub, Nat.reduceMul, Nat.reduceLeDiff, Int.reduceEq, Int.reduceLT, Int.reduceLE, Int.reduceAdd, Int.reduceMul, Int.reduceSub, Int.reduceNeg, Int.reduceToNat, reduceIte, Nat.reduceLT]
        · simp only [go_sem, reduceCtorEq, Nat.reduceEqDiff, Nat.reduceAdd, Nat.reduceSub, Nat.reduceMul, Nat.reduceLeDiff, Int.reduceEq, Int.reduceLT, Int.reduceLE, Int.reduceAdd, Int.reduceMul, Int.reduceSub, Int.reduceNeg, Int.reduceToNat, reduceIte, Nat.reduceLT]
        · simp only [go_sem, reduceCtorEq, Nat.reduceEqDiff, Nat.reduceAdd, Nat.reduceSub, Nat.reduceMul, Nat.reduceLeDiff, Int.reduceEq, Int.reduceLT, Int.reduceLE, Int.reduceAdd, Int.reduceMul, Int.reduceSub, Int.reduceNeg, Int.reduceToNat, reduceIte, Nat.reduceLT, h5]
        · simp only [go_sem, reduceCtorEq, Nat.reduceEqDiff, Nat.reduceAdd, Nat.reduceSub, Nat.reduceMul, Nat.reduceLeDiff, Int.reduceEq, Int.reduceLT, Int.reduceLE, Int.reduceAdd, Int.reduceMul, Int.reduceSub, Int.reduceNeg, Int.reduceToNat, reduceIte, Nat.reduceLT, hn]
      | false =>
        simp only [go_sem, reduceCtorEq, Nat.reduceEqDiff, Nat.reduceAdd, Nat.reduceSub, Nat.reduceMul, Nat.reduceLeDiff, Int.reduceEq, Int.reduceLT, Int.reduceLE, Int.reduceAdd, Int.reduceMul, Int.reduceSub, Int.reduceNeg, Int.reduceToNat, reduceIte, Nat.reduceLT, h4, hix, hrow, hHl]
        refine callW_pure kM ?_
        simp only [go_sem, reduceCtorEq, Nat.reduceEqDiff, Nat.reduceAdd, Nat.reduceSub, Nat.reduceMul, Nat.reduceLeDiff, Int.reduceEq, Int.reduceLT, Int.reduceLE, Int.reduceAdd, Int.reduceMul, Int.reduceSub, Int.reduceNeg, Int.reduceToNat, reduceIte, Nat.reduceLT]
        refine callW_pure kH2 ?_
        simp only [go_sem, reduceCtorEq, Nat.reduceEqDiff, Nat.reduceAdd, Nat.reduceSub, Nat.reduceMul, Nat.reduceLeDiff, Int.reduceEq, Int.reduceLT, Int.reduceLE, Int.reduceAdd, Int.reduceMul, Int.reduceSub, Int.reduceNeg, Int.reduceToNat, reduceIte, Nat.reduceLT, h4, h5, hix, hrow, hHl, hmine, hput, h6, hn, wn]
        refine hih _ _ ?_ ?_ ?_ ?_ ?_ (hHs _)
        · simp only [go_sem, reduceCtorEq, Nat.reduceEqDiff, Nat.reduceAdd, Nat.reduceSub, Nat.reduceMul, Nat.reduceLeDiff, Int.reduceEq, Int.reduceLT, Int.reduceLE, Int.reduceAdd, Int.reduceMul, Int.reduceSub, Int.reduceNeg, Int.reduceToNat, reduceIte, Nat.reduceLT]
        · simp only [go_sem, reduceCtorEq, Nat.reduceEqDiff, Nat.reduceAdd, Nat.reduceSub, Nat.reduceMul, Nat.reduceLeDiff, Int.reduceEq, Int.reduceLT, Int.reduceLE, Int.reduceAdd, Int.reduceMul, Int.reduceSub, Int.reduceNeg, Int.reduceToNat, reduceIte, Nat.reduceLT]
        · simp only [go_sem, reduceCtorEq, Nat.reduceEqDiff, Nat.reduceAdd, Nat.reduceSub, Nat.reduceMul, Nat.reduceLeDiff, Int.reduceEq, Int.reduceLT, Int.reduceLE, Int.reduceAdd, Int.reduceMul, Int.reduceSub, Int.reduceNeg, Int.reduceToNat, reduceIte, Nat.reduceLT]
        · simp only [go_sem, reduceCtorEq, Nat.reduceEqDiff, Nat.reduceAdd, Nat.reduceSub, Nat.reduceMul, Nat.reduceLeDiff, Int.reduceEq, Int.reduceLT, Int.reduceLE, Int.reduceAdd, Int.reduceMul, Int.reduceSub, Int.reduceNeg, Int.reduceToNat, reduceIte, Nat.reduceLT]; rw [hcnt2]; rfl
        · simp only [go_sem, reduceCtorEq, Nat.reduceEqDiff, Nat.reduceAdd, Nat.reduceSub, Nat.reduceMul, Nat.reduceLeDiff, Int.reduceEq, Int.reduceLT, Int.reduceLE, Int.reduceAdd, Int.reduceMul, Int.reduceSub, Int.reduceNeg, Int.reduceToNat, reduceIte, Nat.reduceLT, hn]
  by_cases h80 : (80 : Int) < (ns.length : Int)
  · simp only [go_sem, reduceCtorEq, Nat.reduceEqDiff, Nat.reduceAdd, Nat.reduceSub, Nat.reduceMul, Nat.reduceLeDiff, Int.reduceEq, Int.reduceLT, Int.reduceLE, Int.reduceAdd, Int.reduceMul, Int.reduceSub, Int.reduceNeg, Int.reduceToNat, reduceIte, Nat.reduceLT, hul, h80]
    refine callW_pure l19_awake_ok ?_
    simp only [go_sem, reduceCtorEq, Nat.reduceEqDiff, Nat.reduceAdd, Nat.reduceSub, Nat.reduceMul, Nat.reduceLeDiff, Int.reduceEq, Int.reduceLT, Int.reduceLE, Int.reduceAdd, Int.reduceMul, Int.reduceSub, Int.reduceNeg, Int.reduceToNat, reduceIte, Nat.reduceLT]
    simp [viewA, viewFn, viewC, viewFs, viewCs, viewAs, closedC, closedCs]
  · have hmk : ∀ H : Heap, vMake 1 1 [.bool false] (iC 320) (iC 320) H = some (.c (.slc H.length 0 320 1 false), H ++ [{ sz := 1, rows := (List.replicate 320 false).map bRow }]) := fun H => by
      rw [List.map_replicate]; rfl
    have hS := Came.nil
    generalize List.replicate 320 false = Z at hmk hS
    simp only [go_sem, reduceCtorEq, Nat.reduceEqDiff, Nat.reduceAdd, Nat.reduceSub, Nat.reduceMul, Nat.reduceLeDiff, Int.reduceEq, Int.reduceLT, Int.reduceLE, Int.reduceAdd, Int.reduceMul, Int.reduceSub, Int.reduceNeg, Int.reduceToNat, reduceIte, Nat.reduceLT, hul, h80, hmk]
    refine loop ns [] [] .nilS Z _ _ rfl (by omega) .nil (by simp) (by simp) (by simp) (by simp [cntG]) hS (.nilS 2) ?_ ?_ ?_ ?_ ?_ rfl
    · simp only [go_sem, reduceCtorEq, Nat.reduceEqDiff, Nat.reduceAdd, Nat.reduceSub, Nat.reduceMul, Nat.reduceLeDiff, Int.reduceEq, Int.reduceLT, Int.reduceLE, Int.reduceAdd, Int.reduceMul, Int.reduceSub, Int.reduceNeg, Int.reduceToNat, reduceIte, Nat.reduceLT]
    · simp only [go_sem, reduceCtorEq, Nat.reduceEqDiff, Nat.reduceAdd, Nat.reduceSub, Nat.reduceMul, Nat.reduceLeDiff, Int.reduceEq, Int.reduceLT, Int.reduceLE, Int.reduceAdd, Int.reduceMul, Int.reduceSub, Int.reduceNeg, Int.reduceToNat, reduceIte, Nat.reduceLT]
    · simp only [go_sem, reduceCtorEq, Nat.reduceEqDiff, Nat.reduceAdd, Nat.reduceSub, Nat.reduceMul, Nat.reduceLeDiff, Int.reduceEq, Int.reduceLT, Int.reduceLE, Int.reduceAdd, Int.reduceMul, Int.reduceSub, Int.reduceNeg, Int.reduceToNat, reduceIte, Nat.reduceLT]
    · first | (simp only [go_sem, reduceCtorEq, Nat.reduceEqDiff, Nat.reduceAdd, Nat.reduceSub, Nat.reduceMul, Nat.reduceLeDiff, Int.reduceEq, Int.reduceLT, Int.reduceLE, Int.reduceAdd, Int.reduceMul, Int.reduceSub, Int.reduceNeg, Int.reduceToNat, reduceIte, Nat.reduceLT]; done) | (simp only [go_sem, reduceCtorEq, Nat.reduceEqDiff, Nat.reduceAdd, Nat.reduceSub, Nat.reduceMul, Nat.reduceLeDiff, Int.reduceEq, Int.reduceLT, Int.reduceLE, Int.reduceAdd, Int.reduceMul, Int.reduceSub, Int.reduceNeg, Int.reduceToNat, reduceIte, Nat.reduceLT]; rfl)
    · first | (simp only [go_sem, reduceCtorEq, Nat.reduceEqDiff, Nat.reduceAdd, Nat.reduceSub, Nat.reduceMul, Nat.reduceLeDiff, Int.reduceEq, Int.reduceLT, Int.reduceLE, Int.reduceAdd, Int.reduceMul, Int.reduceSub, Int.reduceNeg, Int.reduceToNat, reduceIte, Nat.reduceLT]; done) | (simp only [go_sem, reduceCtorEq, Nat.reduceEqDiff, Nat.reduceAdd, Nat.reduceSub, Nat.reduceMul, Nat.reduceLeDiff, Int.reduceEq, Int.reduceLT, Int.reduceLE, Int.reduceAdd, Int.reduceMul, Int.reduceSub, Int.reduceNeg, Int.reduceToNat, reduceIte, Nat.reduceLT]; rfl)

end Go.Proofs.Ytmdblemjlmfbbaa.Eng
