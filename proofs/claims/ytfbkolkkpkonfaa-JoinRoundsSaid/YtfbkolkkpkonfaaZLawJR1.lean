/- The law JoinRounds: its call comes to true. -/
import Derived.Test.YtfbkolkkpkonfaaZLawJR0
namespace Go.Proofs.Ytfbkolkkpkonfaa.Eng
open Go
set_option linter.unusedVariables false
set_option linter.unusedSimpArgs false

def turnsR : Nat → Nat → List State → List State
  | 0, _, r => r
  | m + 1, i, r => turnsR m (i + 1) (turnR r i)

theorem Rounds.turn {k : Int} {l r : List State} (g : Group k l) (h : Rounds l r) {i : Nat} (hi : i < 4) : Rounds l (turnR r i) :=
  h.set g (getD_some h.len ((i + 1) % 4) (Nat.mod_lt _ (by omega))) (getD_some h.len i hi)
theorem Rounds.turns {k : Int} {l : List State} (g : Group k l) : ∀ {m i : Nat} {r : List State}, i + m = 4 → Rounds l r → Rounds l (turnsR m i r)
  | 0, i, r, _, h => h
  | m + 1, i, r, e, h => Rounds.turns g (m := m) (i := i + 1) (r := turnR r i) (by omega) (h.turn g (by omega))

set_option maxHeartbeats 4000000 in
theorem l9_JoinRounds_ok (ns : List Nat) (hb : ∀ n ∈ ns, n < 256) (os : List Nat) (hbo : ∀ n ∈ os, n < 256) : Pr 14 [.c (bytesC ns), .c (bytesC os)] (bC true) := by
  refine pure_of mixed is_l9_JoinRounds (by simp [closedAs, closedA, closedC, bytesC, closed_bytes]) fun hl T => ?_
  unfold c_l9_JoinRounds
  simp only [go_sem, reduceCtorEq, Nat.reduceEqDiff, Nat.reduceAdd, Nat.reduceSub, Nat.reduceMul, Nat.reduceLeDiff, Int.reduceEq, Int.reduceLT, Int.reduceLE, Int.reduceAdd, Int.reduceMul, Int.reduceSub, Int.reduceNeg, Int.reduceToNat, reduceIte, Nat.reduceLT]
  by_cases h40 : (40 : Int) < ((os.map byteC).length : Int)
  · simp only [go_sem, reduceCtorEq, Nat.reduceEqDiff, Nat.reduceAdd, Nat.reduceSub, Nat.reduceMul, Nat.reduceLeDiff, Int.reduceEq, Int.reduceLT, Int.reduceLE, Int.reduceAdd, Int.reduceMul, Int.reduceSub, Int.reduceNeg, Int.reduceToNat, reduceIte, Nat.reduceLT, h40]
    refine callW_pure l9_awake_ok ?_
    simp only [go_sem, reduceCtorEq, Nat.reduceEqDiff, Nat.reduceAdd, Nat.reduceSub, Nat.reduceMul, Nat.reduceLeDiff, Int.reduceEq, Int.reduceLT, Int.reduceLE, Int.reduceAdd, Int.reduceMul, Int.reduceSub, Int.reduceNeg, Int.reduceToNat, reduceIte, Nat.reduceLT]
    rfl
  have hos : os.length ≤ 40 := by simp at h40; omega
  have hlen : os.length ≤ maxLen := by unfold maxLen; omega
  simp only [go_sem, reduceCtorEq, Nat.reduceEqDiff, Nat.reduceAdd, Nat.reduceSub, Nat.reduceMul, Nat.reduceLeDiff, Int.reduceEq, Int.reduceLT, Int.reduceLE, Int.reduceAdd, Int.reduceMul, Int.reduceSub, Int.reduceNeg, Int.reduceToNat, reduceIte, Nat.reduceLT, h40]
  obtain ⟨H1, rows, hap, hrows⟩ := l9_Apart_own ns hb
  have hg := apartS_group ns
  obtain ⟨a, b, c, d, he⟩ := four_of hg.len
  rw [he] at hg hrows
  refine callW_at hap (fun h => by cases h) ?_
  simp only [go_sem, reduceCtorEq, Nat.reduceEqDiff, Nat.reduceAdd, Nat.reduceSub, Nat.reduceMul, Nat.reduceLeDiff, Int.reduceEq, Int.reduceLT, Int.reduceLE, Int.reduceAdd, Int.reduceMul, Int.reduceSub, Int.reduceNeg, Int.reduceToNat, reduceIte, Nat.reduceLT]
  obtain ⟨v, H2, hall, hpre, c0, d0, rfl, hsc⟩ := r7_All_own (b := 0) (H := { sz := 2, rows := rows } :: H1) hrows rfl (fun s hs => hg.good hs) (fun s hs => by obtain ⟨h1, h2⟩ := hg.sizes (by omega) (by omega) hs; omega) (by simp)
  refine callW_at hall (fun h => by cases h) ?_
  -- what lies behind the row
  obtain ⟨H3, rfl⟩ : ∃ H3, H2 = { sz := 2, rows := rows } :: H3 := by
    rw [List.prefix_iff_getElem?] at hpre
    have := hpre 0 (by simp)
    cases H2 with
    | nil => simp at this
    | cons x H3 => simp at this; exact ⟨H3, by rw [this]⟩
  have hfirst := Rounds.refl hg
  have hall' := all_of hg
  generalize hw : allL [a, b, c, d] = w at *
  have gw := hall'.1.good
  have sw := hall'.1.sizes hg (by omega) (by omega)
  have sz : ∀ {r : List State}, Rounds [a, b, c, d] r → ∀ s ∈ r, s.seen.length ≤ 804 ∧ s.facts.length ≤ 804 := fun hr s hs => (hr.of s hs).sizes hg (by omega) (by omega)
  have ix : ∀ (q : Nat) (ik : IntKind) (H : Heap), q < 4 → vIx 2 (.c (.slc 0 0 4 2 false)) (.c (.int ik (q : Int))) H = some (.c (.ptr 0 q 0), H) := fun q ik H hq => vIx_slc hq
  -- the end
  have last : ∀ (m i : Nat) (rows : List (List Cell)) (e : Env), i + m = 4 → e 5 = .c (.slc 0 0 4 2 false) → e 6 = .c (.ptr (H3.length + 1) 0 0) → e 10 = iC i → RowsOf rows [w, w, w, w] →
      Run (progT Try.prog T) ⟨[.tmp 4], fun u E => viewA E u = some (bC true)⟩ [.loop l9_JoinRounds_L4, .blk 6, .code l9_JoinRounds_K5] e ({ sz := 2, rows := rows } :: (H3 ++ [{ sz := 2, rows := [[c0, d0]] }])) := by
    intro m
    induction m with
    | zero =>
      intro i rows e hm h5 h6 h10 hr
      have hc : ¬ ((i : Int) < 4) := by omega
      refine run_again ?_
      conv => enter [3, 1]; unfold l9_JoinRounds_L4
      simp only [go_sem, reduceCtorEq, Nat.reduceEqDiff, Nat.reduceAdd, Nat.reduceSub, Nat.reduceMul, Nat.reduceLeDiff, Int.reduceEq, Int.reduceLT, Int.reduceLE, Int.reduceAdd, Int.reduceMul, Int.reduceSub, Int.reduceNeg, Int.reduceToNat, reduceIte, Nat.reduceLT, h5, h6, h10, hc]
      unfold l9_JoinRounds_K5
      simp only [go_sem, reduceCtorEq, Nat.reduceEqDiff, Nat.reduceAdd, Nat.reduceSub, Nat.reduceMul, Nat.reduceLeDiff, Int.reduceEq, Int.reduceLT, Int.reduceLE, Int.reduceAdd, Int.reduceMul, Int.reduceSub, Int.reduceNeg, Int.reduceToNat, reduceIte, Nat.reduceLT]
      refine callW_pure l9_awake_ok ?_
      simp only [go_sem, reduceCtorEq, Nat.reduceEqDiff, Nat.reduceAdd, Nat.reduceSub, Nat.reduceMul, Nat.reduceLeDiff, Int.reduceEq, Int.reduceLT, Int.reduceLE, Int.reduceAdd, Int.reduceMul, Int.reduceSub, Int.reduceNeg, Int.reduceToNat, reduceIte, Nat.reduceLT]
      rfl
    | succ m ih =>
      intro i rows e hm h5 h6 h10 hr
      have hc : ((i : Int) < 4) := by omega
      have hi : i < 4 := by omega
      have wi : IntKind.wrap .i64 ((i : Int) + 1) = ((i + 1 : Nat) : Int) := by rw [wrap64 (by omega)]; omega
      have hwi : ([w, w, w, w] : List State)[i]? = some w := by
        match i, hi with
        | 0, _ => rfl
        | 1, _ => rfl
        | 2, _ => rfl
        | 3, _ => rfl
      obtain ⟨c1, d1, hrow, hsc1⟩ := hr.get hwi
      have hsame := (r7_Same_ok w w).wk (.cons hsc1.wk (.cons hsc.wk .nil))
      have hle1 := (join_Le_ok w w gw gw (by omega) (by omega)).wk (.cons hsc1.wk (.cons hsc.wk .nil))
      have hle2 := (join_Le_ok w w gw gw (by omega) (by omega)).wk (.cons hsc.wk (.cons hsc1.wk .nil))
      rw [join_idem gw] at hle1 hle2
      refine run_again ?_
      conv => enter [3, 1]; unfold l9_JoinRounds_L4
      simp only [go_sem, reduceCtorEq, Nat.reduceEqDiff, Nat.reduceAdd, Nat.reduceSub, Nat.reduceMul, Nat.reduceLeDiff, Int.reduceEq, Int.reduceLT, Int.reduceLE, Int.reduceAdd, Int.reduceMul, Int.reduceSub, Int.reduceNeg, Int.reduceToNat, reduceIte, Nat.reduceLT, h5, h6, h10, hc, ix _ _ _ hi, row_c0, hrow]
      refine callW_pure hsame ?_
      simp only [go_sem, reduceCtorEq, Nat.reduceEqDiff, Nat.reduceAdd, Nat.reduceSub, Nat.reduceMul, Nat.reduceLeDiff, Int.reduceEq, Int.reduceLT, Int.reduceLE, Int.reduceAdd, Int.reduceMul, Int.reduceSub, Int.reduceNeg, Int.reduceToNat, reduceIte, Nat.reduceLT, h5, h6, h10, ix _ _ _ hi, row_c0, hrow]
      refine callW_pure hle1 ?_
      simp only [go_sem, reduceCtorEq, Nat.reduceEqDiff, Nat.reduceAdd, Nat.reduceSub, Nat.reduceMul, Nat.reduceLeDiff, Int.reduceEq, Int.reduceLT, Int.reduceLE, Int.reduceAdd, Int.reduceMul, Int.reduceSub, Int.reduceNeg, Int.reduceToNat, reduceIte, Nat.reduceLT, h5, h6, h10, ix _ _ _ hi, row_c0, hrow]
      refine callW_pure hle2 ?_
      simp only [go_sem, reduceCtorEq, Nat.reduceEqDiff, Nat.reduceAdd, Nat.reduceSub, Nat.reduceMul, Nat.reduceLeDiff, Int.reduceEq, Int.reduceLT, Int.reduceLE, Int.reduceAdd, Int.reduceMul, Int.reduceSub, Int.reduceNeg, Int.reduceToNat, reduceIte, Nat.reduceLT, h10, wi]
      refine ih (i + 1) rows _ (by omega) ?_ ?_ ?_ hr
      all_goals simp only [go_sem, reduceCtorEq, Nat.reduceEqDiff, Nat.reduceAdd, Nat.reduceSub, Nat.reduceMul, Nat.reduceLeDiff, Int.reduceEq, Int.reduceLT, Int.reduceLE, Int.reduceAdd, Int.reduceMul, Int.reduceSub, Int.reduceNeg, Int.reduceToNat, reduceIte, Nat.reduceLT, h5, h6, wi]
  -- one round
  have inner : ∀ (K : List Itm) (m i : Nat) (r : List State) (rows : List (List Cell)) (e : Env), i + m = 4 → e 5 = .c (.slc 0 0 4 2 false) → e 6 = .c (.ptr (H3.length + 1) 0 0) → e 9 = iC i → Rounds [a, b, c, d] r → RowsOf rows r →
      (∀ (e' : Env) (rows' : List (List Cell)), e' 5 = e 5 → e' 6 = e 6 → e' 8 = e 8 → RowsOf rows' (turnsR m i r) → Run (progT Try.prog T) ⟨[.tmp 4], fun u E => viewA E u = some (bC true)⟩ K e' ({ sz := 2, rows := rows' } :: (H3 ++ [{ sz := 2, rows := [[c0, d0]] }]))) →
      Run (progT Try.prog T) ⟨[.tmp 4], fun u E => viewA E u = some (bC true)⟩ (.loop l9_JoinRounds_L1 :: .blk 4 :: K) e ({ sz := 2, rows := rows } :: (H3 ++ [{ sz := 2, rows := [[c0, d0]] }])) := by
    intro K m
    induction m with
    | zero =>
      intro i r rows e hm h5 h6 h9 hR hr hK
      have hc : ¬ ((i : Int) < 4) := by omega
      refine run_again ?_
      conv => enter [3, 1]; unfold l9_JoinRounds_L1
      simp only [go_sem, reduceCtorEq, Nat.reduceEqDiff, Nat.reduceAdd, Nat.reduceSub, Nat.reduceMul, Nat.reduceLeDiff, Int.reduceEq, Int.reduceLT, Int.reduceLE, Int.reduceAdd, Int.reduceMul, Int.reduceSub, Int.reduceNeg, Int.reduceToNat, reduceIte, Nat.reduceLT, h5, h6, h9, hc]
      refine hK _ rows ?_ ?_ ?_ hr
      all_goals simp only [go_sem, reduceCtorEq, Nat.reduceEqDiff, Nat.reduceAdd, Nat.reduceSub, Nat.reduceMul, Nat.reduceLeDiff, Int.reduceEq, Int.reduceLT, Int.reduceLE, Int.reduceAdd, Int.reduceMul, Int.reduceSub, Int.reduceNeg, Int.reduceToNat, reduceIte, Nat.reduceLT]
    | succ m ih =>
      intro i r rows e hm h5 h6 h9 hR hr hK
      have hc : ((i : Int) < 4) := by omega
      have hi : i < 4 := by omega
      have hj : (i + 1) % 4 < 4 := Nat.mod_lt _ (by omega)
      have wi : IntKind.wrap .i64 ((i : Int) + 1) = ((i + 1 : Nat) : Int) := by rw [wrap64 (by omega)]; omega
      have ri : ((i + 1 : Nat) : Int).tmod 4 = (((i + 1) % 4 : Nat) : Int) := by rw [Int.tmod_eq_emod_of_nonneg (by omega)]; omega
      have hR' := hR.turn hg hi
      have si := getD_some hR.len i hi
      have sj := getD_some hR.len ((i + 1) % 4) hj
      have hK' : ∀ (e' : Env) (rows' : List (List Cell)), e' 5 = e 5 → e' 6 = e 6 → e' 8 = e 8 → RowsOf rows' (turnsR m (i + 1) (turnR r i)) → Run (progT Try.prog T) ⟨[.tmp 4], fun u E => viewA E u = some (bC true)⟩ K e' ({ sz := 2, rows := rows' } :: (H3 ++ [{ sz := 2, rows := [[c0, d0]] }])) := hK
      have ht : turnR r i = r.set ((i + 1) % 4) (joinL ((r[(i + 1) % 4]?).getD ⟨[], []⟩) ((r[i]?).getD ⟨[], []⟩)) := rfl
      rw [ht] at hR' hK'
      generalize (r[i]?).getD ⟨[], []⟩ = s at *
      generalize (r[(i + 1) % 4]?).getD ⟨[], []⟩ = t at *
      have os' := hR.of s (List.mem_of_getElem? si)
      have ot' := hR.of t (List.mem_of_getElem? sj)
      have zs := sz hR s (List.mem_of_getElem? si)
      have zt := sz hR t (List.mem_of_getElem? sj)
      obtain ⟨c1, d1, hrow1, hsc1⟩ := hr.get si
      obtain ⟨c2, d2, hrow2, hsc2⟩ := hr.get sj
      refine run_again ?_
      conv => enter [3, 1]; unfold l9_JoinRounds_L1
      simp only [go_sem, reduceCtorEq, Nat.reduceEqDiff, Nat.reduceAdd, Nat.reduceSub, Nat.reduceMul, Nat.reduceLeDiff, Int.reduceEq, Int.reduceLT, Int.reduceLE, Int.reduceAdd, Int.reduceMul, Int.reduceSub, Int.reduceNeg, Int.reduceToNat, reduceIte, Nat.reduceLT, h5, h6, h9, hc, wi, vBin_rem, ri, ix _ _ _ hi, ix _ _ _ hj, row_c0, hrow1, hrow2]
      refine callW_pure ((join_Join_ok t s ot'.good os'.good (by omega) (by omega)).wk (.cons hsc2.wk (.cons hsc1.wk .nil))) ?_
      simp only [go_sem, reduceCtorEq, Nat.reduceEqDiff, Nat.reduceAdd, Nat.reduceSub, Nat.reduceMul, Nat.reduceLeDiff, Int.reduceEq, Int.reduceLT, Int.reduceLE, Int.reduceAdd, Int.reduceMul, Int.reduceSub, Int.reduceNeg, Int.reduceToNat, reduceIte, Nat.reduceLT, h5, h6, h9, wi, ix _ _ _ hi, ix _ _ _ hj, row_c0, mine_c0, put_c0, hrow1, hrow2]
      refine ih (i + 1) _ _ _ (by omega) ?_ ?_ ?_ hR' (hr.set ((i + 1) % 4) (joinL t s)) fun e' rows' g5 g6 g8 hr' => hK' e' rows' ?_ ?_ ?_ hr'
      · simp only [go_sem, reduceCtorEq, Nat.reduceEqDiff, Nat.reduceAdd, Nat.reduceSub, Nat.reduceMul, Nat.reduceLeDiff, Int.reduceEq, Int.reduceLT, Int.reduceLE, Int.reduceAdd, Int.reduceMul, Int.reduceSub, Int.reduceNeg, Int.reduceToNat, reduceIte, Nat.reduceLT, h5]
      · simp only [go_sem, reduceCtorEq, Nat.reduceEqDiff, Nat.reduceAdd, Nat.reduceSub, Nat.reduceMul, Nat.reduceLeDiff, Int.reduceEq, Int.reduceLT, Int.reduceLE, Int.reduceAdd, Int.reduceMul, Int.reduceSub, Int.reduceNeg, Int.reduceToNat, reduceIte, Nat.reduceLT, h6]
      · simp only [go_sem, reduceCtorEq, Nat.reduceEqDiff, Nat.reduceAdd, Nat.reduceSub, Nat.reduceMul, Nat.reduceLeDiff, Int.reduceEq, Int.reduceLT, Int.reduceLE, Int.reduceAdd, Int.reduceMul, Int.reduceSub, Int.reduceNeg, Int.reduceToNat, reduceIte, Nat.reduceLT, wi]
      · rw [g5]; simp only [go_sem, reduceCtorEq, Nat.reduceEqDiff, Nat.reduceAdd, Nat.reduceSub, Nat.reduceMul, Nat.reduceLeDiff, Int.reduceEq, Int.reduceLT, Int.reduceLE, Int.reduceAdd, Int.reduceMul, Int.reduceSub, Int.reduceNeg, Int.reduceToNat, reduceIte, Nat.reduceLT]
      · rw [g6]; simp only [go_sem, reduceCtorEq, Nat.reduceEqDiff, Nat.reduceAdd, Nat.reduceSub, Nat.reduceMul, Nat.reduceLeDiff, Int.reduceEq, Int.reduceLT, Int.reduceLE, Int.reduceAdd, Int.reduceMul, Int.reduceSub, Int.reduceNeg, Int.reduceToNat, reduceIte, Nat.reduceLT]
      · rw [g8]; simp only [go_sem, reduceCtorEq, Nat.reduceEqDiff, Nat.reduceAdd, Nat.reduceSub, Nat.reduceMul, Nat.reduceLeDiff, Int.reduceEq, Int.reduceLT, Int.reduceLE, Int.reduceAdd, Int.reduceMul, Int.reduceSub, Int.reduceNeg, Int.reduceToNat, reduceIte, Nat.reduceLT]
  -- both rounds
  have rounds : ∀ (r : List State) (rows : List (List Cell)) (e : Env), e 5 = .c (.slc 0 0 4 2 false) → e 6 = .c (.ptr (H3.length + 1) 0 0) → Rounds [a, b, c, d] r → RowsOf rows r →
      Run (progT Try.prog T) ⟨[.tmp 4], fun u E => viewA E u = some (bC true)⟩ [.code l9_JoinRounds_K7] e ({ sz := 2, rows := rows } :: (H3 ++ [{ sz := 2, rows := [[c0, d0]] }])) := by
    intro r rows e h5 h6 hR hr
    have z1 : IntKind.wrap .i64 1 = 1 := by decide
    have z2 : IntKind.wrap .i64 2 = 2 := by decide
    have hR1 := hR.turns hg (m := 4) (i := 0) rfl
    have hend : turnsR 4 0 (turnsR 4 0 r) = [w, w, w, w] := by
      obtain ⟨p, q, x, y, rfl⟩ := four_of hR.len
      have := two_rounds hg hR
      rw [hw] at this
      exact this
    unfold l9_JoinRounds_K7
    simp only [go_sem, reduceCtorEq, Nat.reduceEqDiff, Nat.reduceAdd, Nat.reduceSub, Nat.reduceMul, Nat.reduceLeDiff, Int.reduceEq, Int.reduceLT, Int.reduceLE, Int.reduceAdd, Int.reduceMul, Int.reduceSub, Int.reduceNeg, Int.reduceToNat, reduceIte, Nat.reduceLT]
    refine run_again ?_
    conv => enter [3, 1]; unfold l9_JoinRounds_L3
    simp only [go_sem, reduceCtorEq, Nat.reduceEqDiff, Nat.reduceAdd, Nat.reduceSub, Nat.reduceMul, Nat.reduceLeDiff, Int.reduceEq, Int.reduceLT, Int.reduceLE, Int.reduceAdd, Int.reduceMul, Int.reduceSub, Int.reduceNeg, Int.reduceToNat, reduceIte, Nat.reduceLT]
    refine inner _ 4 0 r rows _ rfl ?_ ?_ ?_ hR hr fun e1 rows1 g5 g6 g8 hr1 => ?_
    · simp only [go_sem, reduceCtorEq, Nat.reduceEqDiff, Nat.reduceAdd, Nat.reduceSub, Nat.reduceMul, Nat.reduceLeDiff, Int.reduceEq, Int.reduceLT, Int.reduceLE, Int.reduceAdd, Int.reduceMul, Int.reduceSub, Int.reduceNeg, Int.reduceToNat, reduceIte, Nat.reduceLT, h5]
    · simp only [go_sem, reduceCtorEq, Nat.reduceEqDiff, Nat.reduceAdd, Nat.reduceSub, Nat.reduceMul, Nat.reduceLeDiff, Int.reduceEq, Int.reduceLT, Int.reduceLE, Int.reduceAdd, Int.reduceMul, Int.reduceSub, Int.reduceNeg, Int.reduceToNat, reduceIte, Nat.reduceLT, h6]
    · simp only [go_sem, reduceCtorEq, Nat.reduceEqDiff, Nat.reduceAdd, Nat.reduceSub, Nat.reduceMul, Nat.reduceLeDiff, Int.reduceEq, Int.reduceLT, Int.reduceLE, Int.reduceAdd, Int.reduceMul, Int.reduceSub, Int.reduceNeg, Int.reduceToNat, reduceIte, Nat.reduceLT, Int.natCast_zero]
    simp only [go_sem, reduceCtorEq, Nat.reduceEqDiff, Nat.reduceAdd, Nat.reduceSub, Nat.reduceMul, Nat.reduceLeDiff, Int.reduceEq, Int.reduceLT, Int.reduceLE, Int.reduceAdd, Int.reduceMul, Int.reduceSub, Int.reduceNeg, Int.reduceToNat, reduceIte, Nat.reduceLT] at g5 g6 g8
    unfold l9_JoinRounds_K2
    simp only [go_sem, reduceCtorEq, Nat.reduceEqDiff, Nat.reduceAdd, Nat.reduceSub, Nat.reduceMul, Nat.reduceLeDiff, Int.reduceEq, Int.reduceLT, Int.reduceLE, Int.reduceAdd, Int.reduceMul, Int.reduceSub, Int.reduceNeg, Int.reduceToNat, reduceIte, Nat.reduceLT, g8, z1]
    refine run_again ?_
    conv => enter [3, 1]; unfold l9_JoinRounds_L3
    simp only [go_sem, reduceCtorEq, Nat.reduceEqDiff, Nat.reduceAdd, Nat.reduceSub, Nat.reduceMul, Nat.reduceLeDiff, Int.reduceEq, Int.reduceLT, Int.reduceLE, Int.reduceAdd, Int.reduceMul, Int.reduceSub, Int.reduceNeg, Int.reduceToNat, reduceIte, Nat.reduceLT]
    refine inner _ 4 0 (turnsR 4 0 r) rows1 _ rfl ?_ ?_ ?_ hR1 hr1 fun e2 rows2 k5 k6 k8 hr2 => ?_
    · simp only [go_sem, reduceCtorEq, Nat.reduceEqDiff, Nat.reduceAdd, Nat.reduceSub, Nat.reduceMul, Nat.reduceLeDiff, Int.reduceEq, Int.reduceLT, Int.reduceLE, Int.reduceAdd, Int.reduceMul, Int.reduceSub, Int.reduceNeg, Int.reduceToNat, reduceIte, Nat.reduceLT, g5, h5]
    · simp only [go_sem, reduceCtorEq, Nat.reduceEqDiff, Nat.reduceAdd, Nat.reduceSub, Nat.reduceMul, Nat.reduceLeDiff, Int.reduceEq, Int.reduceLT, Int.reduceLE, Int.reduceAdd, Int.reduceMul, Int.reduceSub, Int.reduceNeg, Int.reduceToNat, reduceIte, Nat.reduceLT, g6, h6]
    · simp only [go_sem, reduceCtorEq, Nat.reduceEqDiff, Nat.reduceAdd, Nat.reduceSub, Nat.reduceMul, Nat.reduceLeDiff, Int.reduceEq, Int.reduceLT, Int.reduceLE, Int.reduceAdd, Int.reduceMul, Int.reduceSub, Int.reduceNeg, Int.reduceToNat, reduceIte, Nat.reduceLT, Int.natCast_zero]
    simp only [go_sem, reduceCtorEq, Nat.reduceEqDiff, Nat.reduceAdd, Nat.reduceSub, Nat.reduceMul, Nat.reduceLeDiff, Int.reduceEq, Int.reduceLT, Int.reduceLE, Int.reduceAdd, Int.reduceMul, Int.reduceSub, Int.reduceNeg, Int.reduceToNat, reduceIte, Nat.reduceLT] at k5 k6 k8
    unfold l9_JoinRounds_K2
    simp only [go_sem, reduceCtorEq, Nat.reduceEqDiff, Nat.reduceAdd, Nat.reduceSub, Nat.reduceMul, Nat.reduceLeDiff, Int.reduceEq, Int.reduceLT, Int.reduceLE, Int.reduceAdd, Int.reduceMul, Int.reduceSub, Int.reduceNeg, Int.reduceToNat, reduceIte, Nat.reduceLT, k8, z2]
    refine run_again ?_
    conv => enter [3, 1]; unfold l9_JoinRounds_L3
    simp only [go_sem, reduceCtorEq, Nat.reduceEqDiff, Nat.reduceAdd, Nat.reduceSub, Nat.reduceMul, Nat.reduceLeDiff, Int.reduceEq, Int.reduceLT, Int.reduceLE, Int.reduceAdd, Int.reduceMul, Int.reduceSub, Int.reduceNeg, Int.reduceToNat, reduceIte, Nat.reduceLT]
    rw [hend] at hr2
    unfold l9_JoinRounds_K6
    simp only [go_sem, reduceCtorEq, Nat.reduceEqDiff, Nat.reduceAdd, Nat.reduceSub, Nat.reduceMul, Nat.reduceLeDiff, Int.reduceEq, Int.reduceLT, Int.reduceLE, Int.reduceAdd, Int.reduceMul, Int.reduceSub, Int.reduceNeg, Int.reduceToNat, reduceIte, Nat.reduceLT]
    refine last 4 0 rows2 _ rfl ?_ ?_ ?_ hr2
    · simp only [go_sem, reduceCtorEq, Nat.reduceEqDiff, Nat.reduceAdd, Nat.reduceSub, Nat.reduceMul, Nat.reduceLeDiff, Int.reduceEq, Int.reduceLT, Int.reduceLE, Int.reduceAdd, Int.reduceMul, Int.reduceSub, Int.reduceNeg, Int.reduceToNat, reduceIte, Nat.reduceLT, k5, g5, h5]
    · simp only [go_sem, reduceCtorEq, Nat.reduceEqDiff, Nat.reduceAdd, Nat.reduceSub, Nat.reduceMul, Nat.reduceLeDiff, Int.reduceEq, Int.reduceLT, Int.reduceLE, Int.reduceAdd, Int.reduceMul, Int.reduceSub, Int.reduceNeg, Int.reduceToNat, reduceIte, Nat.reduceLT, k6, g6, h6]
    · simp only [go_sem, reduceCtorEq, Nat.reduceEqDiff, Nat.reduceAdd, Nat.reduceSub, Nat.reduceMul, Nat.reduceLeDiff, Int.reduceEq, Int.reduceLT, Int.reduceLE, Int.reduceAdd, Int.reduceMul, Int.reduceSub, Int.reduceNeg, Int.reduceToNat, reduceIte, Nat.reduceLT, Int.natCast_zero]
  -- in any order ahead of them
  have loop : ∀ (rest pre : List Nat) (r : List State) (rows : List (List Cell)) (e : Env), os = pre ++ rest → e 1 = .c (.lst 1 (os.map byteC)) → e 5 = .c (.slc 0 0 4 2 false) → e 6 = .c (.ptr (H3.length + 1) 0 0) → e 7 = iC pre.length → Rounds [a, b, c, d] r → RowsOf rows r →
      Run (progT Try.prog T) ⟨[.tmp 4], fun u E => viewA E u = some (bC true)⟩ [.loop l9_JoinRounds_L0, .blk 0, .code l9_JoinRounds_K7] e ({ sz := 2, rows := rows } :: (H3 ++ [{ sz := 2, rows := [[c0, d0]] }])) := by
    intro rest
    induction rest with
    | nil =>
      intro pre r rows e hp h1 h5 h6 h7 hR hr
      have hc := not_lt_at (f := byteC) hp
      refine run_again ?_
      conv => enter [3, 1]; unfold l9_JoinRounds_L0
      simp only [go_sem, reduceCtorEq, Nat.reduceEqDiff, Nat.reduceAdd, Nat.reduceSub, Nat.reduceMul, Nat.reduceLeDiff, Int.reduceEq, Int.reduceLT, Int.reduceLE, Int.reduceAdd, Int.reduceMul, Int.reduceSub, Int.reduceNeg, Int.reduceToNat, reduceIte, Nat.reduceLT, h1, h5, h6, h7, hc]
      refine rounds r rows _ ?_ ?_ hR hr
      · simp only [go_sem, reduceCtorEq, Nat.reduceEqDiff, Nat.reduceAdd, Nat.reduceSub, Nat.reduceMul, Nat.reduceLeDiff, Int.reduceEq, Int.reduceLT, Int.reduceLE, Int.reduceAdd, Int.reduceMul, Int.reduceSub, Int.reduceNeg, Int.reduceToNat, reduceIte, Nat.reduceLT, h5]
      · simp only [go_sem, reduceCtorEq, Nat.reduceEqDiff, Nat.reduceAdd, Nat.reduceSub, Nat.reduceMul, Nat.reduceLeDiff, Int.reduceEq, Int.reduceLT, Int.reduceLE, Int.reduceAdd, Int.reduceMul, Int.reduceSub, Int.reduceNeg, Int.reduceToNat, reduceIte, Nat.reduceLT, h6]
    | cons o rest ih =>
      intro pre r rows e hp h1 h5 h6 h7 hR hr
      have hc := lt_at (f := byteC) hp
      have hgo := map_at' (f := byteC) hp
      have hn := next_at hp hlen
      have ho : o < 256 := hbo o (by rw [hp]; simp)
      have hi : o % 4 < 4 := Nat.mod_lt _ (by omega)
      have hj : o / 4 % 4 < 4 := Nat.mod_lt _ (by omega)
      have ri : (o : Int).tmod 4 = ((o % 4 : Nat) : Int) := by rw [Int.tmod_eq_emod_of_nonneg (by omega)]; omega
      have wq : IntKind.wrap .u8 ((o : Int).tdiv 4) = ((o / 4 : Nat) : Int) := by
        have : (o : Int).tdiv 4 = ((o / 4 : Nat) : Int) := by rw [Int.tdiv_eq_ediv_of_nonneg (by omega)]; omega
        rw [this, wrap8 (by omega)]
      have rj : ((o / 4 : Nat) : Int).tmod 4 = ((o / 4 % 4 : Nat) : Int) := by rw [Int.tmod_eq_emod_of_nonneg (by omega)]; omega
      have si := getD_some hR.len (o % 4) hi
      have sj := getD_some hR.len (o / 4 % 4) hj
      have hR' := hR.set hg si sj
      generalize (r[o % 4]?).getD ⟨[], []⟩ = s at *
      generalize (r[o / 4 % 4]?).getD ⟨[], []⟩ = t at *
      have os' := hR.of s (List.mem_of_getElem? si)
      have ot' := hR.of t (List.mem_of_getElem? sj)
      have zs := sz hR s (List.mem_of_getElem? si)
      have zt := sz hR t (List.mem_of_getElem? sj)
      obtain ⟨c1, d1, hrow1, hsc1⟩ := hr.get si
      obtain ⟨c2, d2, hrow2, hsc2⟩ := hr.get sj
      refine run_again ?_
      conv => enter [3, 1]; unfold l9_JoinRounds_L0
      simp only [go_sem, reduceCtorEq, Nat.reduceEqDiff, Nat.reduceAdd, Nat.reduceSub, Nat.reduceMul, Nat.reduceLeDiff, Int.reduceEq, Int.reduceLT, Int.reduceLE, Int.reduceAdd, Int.reduceMul, Int.reduceSub, Int.reduceNeg, Int.reduceToNat, reduceIte, Nat.reduceLT, h1, h5, h6, h7, hc, hgo, vBin_rem, vBin_quo, ri, wq, rj, ix _ _ _ hi, ix _ _ _ hj, row_c0, hrow1, hrow2]
      refine callW_pure ((join_Join_ok s t os'.good ot'.good (by omega) (by omega)).wk (.cons hsc1.wk (.cons hsc2.wk .nil))) ?_
      simp only [go_sem, reduceCtorEq, Nat.reduceEqDiff, Nat.reduceAdd, Nat.reduceSub, Nat.reduceMul, Nat.reduceLeDiff, Int.reduceEq, Int.reduceLT, Int.reduceLE, Int.reduceAdd, Int.reduceMul, Int.reduceSub, Int.reduceNeg, Int.reduceToNat, reduceIte, Nat.reduceLT, h5, h6, h7, hn, ix _ _ _ hi, ix _ _ _ hj, row_c0, mine_c0, put_c0, hrow1, hrow2]
      refine ih (pre ++ [o]) _ _ _ (by rw [hp]; simp) ?_ ?_ ?_ ?_ hR' (hr.set (o % 4) (joinL s t))
      all_goals simp only [go_sem, reduceCtorEq, Nat.reduceEqDiff, Nat.reduceAdd, Nat.reduceSub, Nat.reduceMul, Nat.reduceLeDiff, Int.reduceEq, Int.reduceLT, Int.reduceLE, Int.reduceAdd, Int.reduceMul, Int.reduceSub, Int.reduceNeg, Int.reduceToNat, reduceIte, Nat.reduceLT, h1, h5, h6, hn]
  simp only [go_sem, reduceCtorEq, Nat.reduceEqDiff, Nat.reduceAdd, Nat.reduceSub, Nat.reduceMul, Nat.reduceLeDiff, Int.reduceEq, Int.reduceLT, Int.reduceLE, Int.reduceAdd, Int.reduceMul, Int.reduceSub, Int.reduceNeg, Int.reduceToNat, reduceIte, Nat.reduceLT]
  refine loop os [] [a, b, c, d] rows _ rfl ?_ ?_ ?_ ?_ hfirst hrows
  all_goals simp only [go_sem, reduceCtorEq, Nat.reduceEqDiff, Nat.reduceAdd, Nat.reduceSub, Nat.reduceMul, Nat.reduceLeDiff, Int.reduceEq, Int.reduceLT, Int.reduceLE, Int.reduceAdd, Int.reduceMul, Int.reduceSub, Int.reduceNeg, Int.reduceToNat, reduceIte, Nat.reduceLT, List.length_nil, Int.natCast_zero]

theorem l9_JoinRounds_law (ns : List Nat) (_ : ns.length ≤ maxLen) (hb : ∀ n ∈ ns, n < 256) (os : List Nat) (_ : os.length ≤ maxLen) (hbo : ∀ n ∈ os, n < 256) : Pr 14 [.c (bytesC ns), .c (bytesC os)] (bC true) := l9_JoinRounds_ok ns hb os hbo

end Go.Proofs.Ytfbkolkkpkonfaa.Eng
