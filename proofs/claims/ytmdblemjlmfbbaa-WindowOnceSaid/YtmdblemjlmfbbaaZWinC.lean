/- Contracts of the package window: copied, Add. No statement of the seat is proved here. -/
import Derived.Test.YtmdblemjlmfbbaaZWinB
import Derived.Test.YtmdblemjlmfbbaaZInsR
import Derived.Test.YtmdblemjlmfbbaaZPartG
import Derived.Test.YtmdblemjlmfbbaaZJoinV
namespace Go.Proofs.Ytmdblemjlmfbbaa.Eng
open Go
set_option linter.unusedVariables false
set_option linter.unusedSimpArgs false

theorem got_not_nil {rows : List (List Cell)} (h : rows ≠ []) : evNil true (.lst 2 rows) .nilS = some false := by
  cases rows with
  | nil => exact absurd rfl h
  | cons => rfl
theorem view_gots {G : Heap} {b : Nat} {l : List Got} (h0 : l ≠ []) (h : G[b]? = some { sz := 2, rows := l.map Got.cells, own := true, live := true }) : viewC G (.slc b 0 l.length 2 false) = some (gotsC l) := by
  have hl : l.length ≠ 0 := fun e => h0 (List.eq_nil_of_length_eq_zero e)
  have hc : closedR (l.map Got.cells) = true := closed_gots l
  have ht : (l.map Got.cells).take l.length = l.map Got.cells := List.take_of_length_le (by simp)
  simp [viewC, hl, h, ht, hc, gotsC]

theorem slices_Clone_Got_at {l : List Got} {H : Heap} (h0 : l ≠ []) (hs : l.length ≤ 1000000) :
    CallSound Try.prog 31 [.c (gotsC l)] H (.c (.slc H.length 0 l.length 2 false)) (H ++ [{ sz := 2, rows := l.map Got.cells, own := true, live := true }]) := by
  refine sound_of mixed is_slices_Clone_Got fun T => ?_
  unfold c_slices_Clone_Got
  have hne : l.map Got.cells ≠ [] := by simpa using h0
  have hn : (l.map Got.cells).length = l.length := by simp
  dsimp only [gotsC]
  rw [← hn] at hs ⊢
  generalize l.map Got.cells = rows at hne hs
  cases rows with
  | nil => exact absurd rfl hne
  | cons x rows =>
    have ha : vAppZ 2 32 (.c (.zer 2)) (.c (.lst 2 (x :: rows))) H = some (.c (.slc H.length 0 (x :: rows).length 2 false), H ++ [{ sz := 2, rows := x :: rows }]) := by
      simp only [vAppZ, evApp, Heap.rowsOf, fitsSz, beq_self_eq_true, if_true]
      rw [if_neg (by simp), if_pos (by omega)]
    simp only [go_sem, reduceCtorEq, Nat.reduceEqDiff, Nat.reduceAdd, Nat.reduceSub, Nat.reduceMul, Nat.reduceLeDiff, Int.reduceEq, Int.reduceLT, Int.reduceLE, Int.reduceAdd, Int.reduceMul, Int.reduceSub, Int.reduceNeg, Int.reduceToNat, reduceIte, Nat.reduceLT, bne_self_eq_false, ha]

theorem slices_Clone_Got_nil : Pr 31 [.c .nilS] (.c .nilS) := by
  refine pure_of mixed is_slices_Clone_Got rfl fun hl T => ?_
  unfold c_slices_Clone_Got
  simp only [go_sem, reduceCtorEq, Nat.reduceEqDiff, Nat.reduceAdd, Nat.reduceSub, Nat.reduceMul, Nat.reduceLeDiff, Int.reduceEq, Int.reduceLT, Int.reduceLE, Int.reduceAdd, Int.reduceMul, Int.reduceSub, Int.reduceNeg, Int.reduceToNat, reduceIte, Nat.reduceLT, bne_self_eq_false]
  refine condW_true ?_
  simp only [go_sem, reduceCtorEq, Nat.reduceEqDiff, Nat.reduceAdd, Nat.reduceSub, Nat.reduceMul, Nat.reduceLeDiff, Int.reduceEq, Int.reduceLT, Int.reduceLE, Int.reduceAdd, Int.reduceMul, Int.reduceSub, Int.reduceNeg, Int.reduceToNat, reduceIte, Nat.reduceLT]
  simp [viewA, viewFn, viewC, viewFs, viewCs, viewAs, closedC, closedCs]
theorem slices_Clone_Got_emp : Pr 31 [.c (.emp 2)] (.c (.zer 2)) := by
  refine pure_of mixed is_slices_Clone_Got rfl fun hl T => ?_
  unfold c_slices_Clone_Got
  have ha : vAppZ 2 32 (.c (.zer 2)) (.c (.emp 2)) [] = some (.c (.zer 2), []) := rfl
  simp only [go_sem, reduceCtorEq, Nat.reduceEqDiff, Nat.reduceAdd, Nat.reduceSub, Nat.reduceMul, Nat.reduceLeDiff, Int.reduceEq, Int.reduceLT, Int.reduceLE, Int.reduceAdd, Int.reduceMul, Int.reduceSub, Int.reduceNeg, Int.reduceToNat, reduceIte, Nat.reduceLT, bne_self_eq_false, ha]
  simp [viewA, viewFn, viewC, viewFs, viewCs, viewAs, closedC, closedCs]

theorem window_copied_none : Pr 17 [.c (.lst 2 [])] (.c (.zer 2)) := fun H => by
  refine CallSound.empty (pre := []) (post := []) ?_ ?_
  · refine Pure.wkr (v := .c .nilS) (pure_of mixed is_window_copied rfl fun hl T => ?_) (.c (.nilZ _)) H
    unfold c_window_copied
    simp only [go_sem, reduceCtorEq, Nat.reduceEqDiff, Nat.reduceAdd, Nat.reduceSub, Nat.reduceMul, Nat.reduceLeDiff, Int.reduceEq, Int.reduceLT, Int.reduceLE, Int.reduceAdd, Int.reduceMul, Int.reduceSub, Int.reduceNeg, Int.reduceToNat, reduceIte, Nat.reduceLT]
    refine callW_pure slices_Clone_Got_nil ?_
    simp only [go_sem, reduceCtorEq, Nat.reduceEqDiff, Nat.reduceAdd, Nat.reduceSub, Nat.reduceMul, Nat.reduceLeDiff, Int.reduceEq, Int.reduceLT, Int.reduceLE, Int.reduceAdd, Int.reduceMul, Int.reduceSub, Int.reduceNeg, Int.reduceToNat, reduceIte, Nat.reduceLT]
    refine run_again ?_
    conv => enter [3, 1]; unfold window_copied_L0
    simp only [go_sem, reduceCtorEq, Nat.reduceEqDiff, Nat.reduceAdd, Nat.reduceSub, Nat.reduceMul, Nat.reduceLeDiff, Int.reduceEq, Int.reduceLT, Int.reduceLE, Int.reduceAdd, Int.reduceMul, Int.reduceSub, Int.reduceNeg, Int.reduceToNat, reduceIte, Nat.reduceLT]
    unfold window_copied_K1
    simp only [go_sem, reduceCtorEq, Nat.reduceEqDiff, Nat.reduceAdd, Nat.reduceSub, Nat.reduceMul, Nat.reduceLeDiff, Int.reduceEq, Int.reduceLT, Int.reduceLE, Int.reduceAdd, Int.reduceMul, Int.reduceSub, Int.reduceNeg, Int.reduceToNat, reduceIte, Nat.reduceLT]
    simp [viewA, viewFn, viewC, viewFs, viewCs, viewAs, closedC, closedCs]
  · refine (pure_of mixed is_window_copied rfl fun hl T => ?_) H
    unfold c_window_copied
    simp only [go_sem, reduceCtorEq, Nat.reduceEqDiff, Nat.reduceAdd, Nat.reduceSub, Nat.reduceMul, Nat.reduceLeDiff, Int.reduceEq, Int.reduceLT, Int.reduceLE, Int.reduceAdd, Int.reduceMul, Int.reduceSub, Int.reduceNeg, Int.reduceToNat, reduceIte, Nat.reduceLT]
    refine callW_pure slices_Clone_Got_emp ?_
    simp only [go_sem, reduceCtorEq, Nat.reduceEqDiff, Nat.reduceAdd, Nat.reduceSub, Nat.reduceMul, Nat.reduceLeDiff, Int.reduceEq, Int.reduceLT, Int.reduceLE, Int.reduceAdd, Int.reduceMul, Int.reduceSub, Int.reduceNeg, Int.reduceToNat, reduceIte, Nat.reduceLT]
    refine run_again ?_
    conv => enter [3, 1]; unfold window_copied_L0
    simp only [go_sem, reduceCtorEq, Nat.reduceEqDiff, Nat.reduceAdd, Nat.reduceSub, Nat.reduceMul, Nat.reduceLeDiff, Int.reduceEq, Int.reduceLT, Int.reduceLE, Int.reduceAdd, Int.reduceMul, Int.reduceSub, Int.reduceNeg, Int.reduceToNat, reduceIte, Nat.reduceLT]
    unfold window_copied_K1
    simp only [go_sem, reduceCtorEq, Nat.reduceEqDiff, Nat.reduceAdd, Nat.reduceSub, Nat.reduceMul, Nat.reduceLeDiff, Int.reduceEq, Int.reduceLT, Int.reduceLE, Int.reduceAdd, Int.reduceMul, Int.reduceSub, Int.reduceNeg, Int.reduceToNat, reduceIte, Nat.reduceLT]
    simp [viewA, viewFn, viewC, viewFs, viewCs, viewAs, closedC, closedCs]

theorem window_copied_run {l : List Got} {H : Heap} (h0 : l ≠ []) (hs : Sm l) (hz : ∀ g ∈ l, Sm g.runs)
    (T : Nat → Option AFun) (p : AVal → Heap → Prop)
    (hp : ∀ G, H <+: G → G[H.length]? = some { sz := 2, rows := l.map Got.cells, own := true, live := true } → p (.c (.slc H.length 0 l.length 2 false)) G) :
    Run (progT Try.prog T) ⟨c_window_copied.res, p⟩ [.code c_window_copied.body] (initEnv [.c (gotsC l)]) H := by
  have hmax : l.length ≤ maxLen := by unfold maxLen; unfold Sm at hs; omega
  have hcl := slices_Clone_Got_at (H := H) h0 hs
  unfold c_window_copied
  simp only [go_sem, reduceCtorEq, Nat.reduceEqDiff, Nat.reduceAdd, Nat.reduceSub, Nat.reduceMul, Nat.reduceLeDiff, Int.reduceEq, Int.reduceLT, Int.reduceLE, Int.reduceAdd, Int.reduceMul, Int.reduceSub, Int.reduceNeg, Int.reduceToNat, reduceIte, Nat.reduceLT]
  refine callW_at hcl (fun h => by cases h) ?_
  simp only [go_sem, reduceCtorEq, Nat.reduceEqDiff, Nat.reduceAdd, Nat.reduceSub, Nat.reduceMul, Nat.reduceLeDiff, Int.reduceEq, Int.reduceLT, Int.reduceLE, Int.reduceAdd, Int.reduceMul, Int.reduceSub, Int.reduceNeg, Int.reduceToNat, reduceIte, Nat.reduceLT]
  have hG0 : (H ++ [{ sz := 2, rows := l.map Got.cells, own := true, live := true }] : Heap)[H.length]? = some { sz := 2, rows := l.map Got.cells, own := true, live := true } := by simp
  have hP0 : H <+: (H ++ [{ sz := 2, rows := l.map Got.cells, own := true, live := true }] : Heap) := List.prefix_append _ _
  generalize (H ++ [{ sz := 2, rows := l.map Got.cells, own := true, live := true }] : Heap) = G at hG0 hP0 ⊢
  have loop : ∀ (rest pre : List Got) (e : Env) (G : Heap), l = pre ++ rest → H <+: G → G[H.length]? = some { sz := 2, rows := l.map Got.cells, own := true, live := true } → e 0 = .c (.slc H.length 0 l.length 2 false) → e 7 = iC l.length → e 8 = iC pre.length →
      Run (progT Try.prog T) ⟨[.tmp 2], p⟩ [.loop window_copied_L0, .blk 0, .code window_copied_K1] e G := by
    intro rest
    induction rest with
    | nil =>
      intro pre e G hl hP hG h0 h7 h8
      have hc : ¬ ((pre.length : Int) < (l.length : Int)) := by rw [hl]; simp
      refine run_again ?_
      conv => enter [3, 1]; unfold window_copied_L0
      simp only [go_sem, reduceCtorEq, Nat.reduceEqDiff, Nat.reduceAdd, Nat.reduceSub, Nat.reduceMul, Nat.reduceLeDiff, Int.reduceEq, Int.reduceLT, Int.reduceLE, Int.reduceAdd, Int.reduceMul, Int.reduceSub, Int.reduceNeg, Int.reduceToNat, reduceIte, Nat.reduceLT, h0, h7, h8, hc]
      unfold window_copied_K1
      simp only [go_sem, reduceCtorEq, Nat.reduceEqDiff, Nat.reduceAdd, Nat.reduceSub, Nat.reduceMul, Nat.reduceLeDiff, Int.reduceEq, Int.reduceLT, Int.reduceLE, Int.reduceAdd, Int.reduceMul, Int.reduceSub, Int.reduceNeg, Int.reduceToNat, reduceIte, Nat.reduceLT, h0]
      exact hp G hP hG
    | cons s rest ih =>
      intro pre e G hl hP hG h0 h7 h8
      have hpl : pre.length < l.length := by rw [hl]; simp
      have hc : ((pre.length : Int) < (l.length : Int)) := by omega
      have hx : ∀ G : Heap, vIx 2 (.c (.slc H.length 0 l.length 2 false)) (iC pre.length) G = some (.c (.ptr H.length pre.length 0), G) := fun G => vIx_slc hpl
      have hbl : H.length < G.length := (List.getElem?_eq_some_iff.1 hG).1
      have hat : (l.map Got.cells)[pre.length]? = some s.cells := by rw [hl]; simp
      have hrow : Heap.row G H.length pre.length = some s.cells := by rw [row_of hG rfl]; exact hat
      have hmine : Heap.mine G H.length = true := mine_of hG rfl rfl
      have hset : (l.map Got.cells).set pre.length s.cells = l.map Got.cells := by
        obtain ⟨h1, h2⟩ := List.getElem?_eq_some_iff.1 hat
        rw [← h2]; exact List.set_getElem_self h1
      have hput : Heap.put G H.length pre.length s.cells = G := by
        rw [put_of hG]
        simp only [hset]
        obtain ⟨h1, h2⟩ := List.getElem?_eq_some_iff.1 hG
        rw [← h2]; exact List.set_getElem_self h1
      have hsm : s ∈ l := by rw [hl]; simp
      have z1 := hz s hsm
      have hn' := next_at hl hmax
      obtain ⟨ge, gr⟩ := s
      have hcr := slices_Clone_Run_ok gr z1
      simp only [Got.cells, runsC] at hrow hput hcr
      refine run_again ?_
      conv => enter [3, 1]; unfold window_copied_L0
      simp only [go_sem, reduceCtorEq, Nat.reduceEqDiff, Nat.reduceAdd, Nat.reduceSub, Nat.reduceMul, Nat.reduceLeDiff, Int.reduceEq, Int.reduceLT, Int.reduceLE, Int.reduceAdd, Int.reduceMul, Int.reduceSub, Int.reduceNeg, Int.reduceToNat, reduceIte, Nat.reduceLT, h0, h7, h8, hc, hx, hrow]
      refine callW_pure hcr ?_
      simp only [go_sem, reduceCtorEq, Nat.reduceEqDiff, Nat.reduceAdd, Nat.reduceSub, Nat.reduceMul, Nat.reduceLeDiff, Int.reduceEq, Int.reduceLT, Int.reduceLE, Int.reduceAdd, Int.reduceMul, Int.reduceSub, Int.reduceNeg, Int.reduceToNat, reduceIte, Nat.reduceLT, h0, h7, h8, hx, hrow, hbl, hmine, hput, hn']
      refine ih (pre ++ [⟨ge, gr⟩]) _ _ (by simp [hl]) hP hG ?_ ?_ ?_
      all_goals simp only [go_sem, reduceCtorEq, Nat.reduceEqDiff, Nat.reduceAdd, Nat.reduceSub, Nat.reduceMul, Nat.reduceLeDiff, Int.reduceEq, Int.reduceLT, Int.reduceLE, Int.reduceAdd, Int.reduceMul, Int.reduceSub, Int.reduceNeg, Int.reduceToNat, reduceIte, Nat.reduceLT, h0, h7, h8, hn']
  refine loop l [] _ G rfl hP0 hG0 ?_ ?_ ?_
  all_goals simp only [go_sem, reduceCtorEq, Nat.reduceEqDiff, Nat.reduceAdd, Nat.reduceSub, Nat.reduceMul, Nat.reduceLeDiff, Int.reduceEq, Int.reduceLT, Int.reduceLE, Int.reduceAdd, Int.reduceMul, Int.reduceSub, Int.reduceNeg, Int.reduceToNat, reduceIte, Nat.reduceLT, List.length_nil, Int.natCast_zero]

theorem window_copied_at {l : List Got} {H : Heap} (h0 : l ≠ []) (hs : Sm l) (hz : ∀ g ∈ l, Sm g.runs) :
    ∃ G, CallSound Try.prog 17 [.c (gotsC l)] H (.c (.slc H.length 0 l.length 2 false)) G ∧ H <+: G ∧ G[H.length]? = some { sz := 2, rows := l.map Got.cells, own := true, live := true } := by
  obtain ⟨v, G, h1, h2, h3, h4⟩ := sound_ex mixed is_window_copied (R := fun u G => u = .c (.slc H.length 0 l.length 2 false) ∧ H <+: G ∧ G[H.length]? = some { sz := 2, rows := l.map Got.cells, own := true, live := true }) fun T => window_copied_run h0 hs hz T _ fun G h1 h2 => ⟨rfl, h1, h2⟩
  subst h2
  exact ⟨G, h1, h3, h4⟩

/-- Behind the last one. -/
theorem slices_Insert_Got_zer {H : Heap} {b' : Nat} {row : List Cell} (hv : H[b']? = some { sz := 2, rows := [row], own := true, live := true }) :
    CallSound Try.prog 21 [.c (.zer 2), iC 0, .c (.slc b' 0 1 2 false)] H (.c (.slc H.length 0 1 2 false)) (H ++ [{ sz := 2, rows := [row], own := true, live := true }]) := by
  refine sound_of mixed is_slices_Insert_Got fun T => ?_
  unfold c_slices_Insert_Got
  have hsl : ∀ e : Env, e 11 = iC 0 → vSl 2 (.c (.zer 2)) e (some (.t 11)) none none H = some (.c (.zer 2), H) := fun e h => by
    simp [vSl, fitsSz, evSl, boundO, bound, Opd.ev, h, vPure]
  have hr : Heap.rowsOf H (.slc b' 0 1 2 false) = some [row] := by simp [Heap.rowsOf, hv]
  have ha : vApp 2 32 (.c (.zer 2)) (.c (.slc b' 0 1 2 false)) H = some (.c (.slc H.length 0 1 2 false), H ++ [{ sz := 2, rows := [row] }]) := by
    simp only [vApp, evApp, hr, fitsSz, beq_self_eq_true, if_true]
    rfl
  have h10 : ¬ ((1 : Nat) : Int) = 0 := by omega
  have h01 : ((1 : Nat) : Int) = 1 := rfl
  simp only [go_sem, reduceCtorEq, Nat.reduceEqDiff, Nat.reduceAdd, Nat.reduceSub, Nat.reduceMul, Nat.reduceLeDiff, Int.reduceEq, Int.reduceLT, Int.reduceLE, Int.reduceAdd, Int.reduceMul, Int.reduceSub, Int.reduceNeg, Int.reduceToNat, reduceIte, Nat.reduceLT, hsl, h10, h01, ha]

theorem slices_Insert_Got_end {H : Heap} {b b' : Nat} {rows : List (List Cell)} {row : List Cell} (hk : H[b]? = some { sz := 2, rows := rows, own := true, live := true }) (hv : H[b']? = some { sz := 2, rows := [row], own := true, live := true }) (hbig : rows.length ≤ 1000000) :
    CallSound Try.prog 21 [.c (.slc b 0 rows.length 2 false), iC rows.length, .c (.slc b' 0 1 2 false)] H (.c (.slc H.length 0 (rows.length + 1) 2 false)) ((H.set b { sz := 2, rows := rows, own := true, live := false }) ++ [{ sz := 2, rows := rows ++ [row], own := true, live := true }]) := by
  refine sound_of mixed is_slices_Insert_Got fun T => ?_
  unfold c_slices_Insert_Got
  have hsl : ∀ e : Env, e 11 = iC rows.length → vSl 2 (.c (.slc b 0 rows.length 2 false)) e (some (.t 11)) none none H = some (.c (.slc b rows.length 0 2 false), H) := fun e h => by
    simp [vSl, fitsSz, evSl, boundO, bound, Opd.ev, h, vPure]
  have hr : Heap.rowsOf H (.slc b' 0 1 2 false) = some [row] := by simp [Heap.rowsOf, hv]
  have ha : vApp 2 32 (.c (.slc b 0 rows.length 2 false)) (.c (.slc b' 0 1 2 false)) H = some (.c (.slc H.length 0 (rows.length + 1) 2 false), (H.set b { sz := 2, rows := rows, own := true, live := false }) ++ [{ sz := 2, rows := rows ++ [row] }]) := by
    simp only [vApp, evApp, hr, fitsSz, beq_self_eq_true, if_true, hk]
    rw [if_neg (by simp), if_pos ⟨trivial, by simp; omega⟩]
    simp
  have h10 : ¬ ((1 : Nat) : Int) = 0 := by omega
  have h01 : ((1 : Nat) : Int) = 1 := rfl
  simp only [go_sem, reduceCtorEq, Nat.reduceEqDiff, Nat.reduceAdd, Nat.reduceSub, Nat.reduceMul, Nat.reduceLeDiff, Int.reduceEq, Int.reduceLT, Int.reduceLE, Int.reduceAdd, Int.reduceMul, Int.reduceSub, Int.reduceNeg, Int.reduceToNat, reduceIte, Nat.reduceLT, hsl, h10, h01, ha]

theorem slices_Insert_Got_at {H : Heap} {b b' i : Nat} {rows : List (List Cell)} {row : List Cell} (hk : H[b]? = some { sz := 2, rows := rows, own := true, live := true }) (hv : H[b']? = some { sz := 2, rows := [row], own := true, live := true }) (hne : b' ≠ b)
    (hi : i ≤ rows.length) (hbig : rows.length ≤ 1000000) :
    CallSound Try.prog 21 [.c (.slc b 0 rows.length 2 false), iC i, .c (.slc b' 0 1 2 false)] H (.c (.slc H.length 0 (rows.length + 1) 2 false)) ((H.set b { sz := 2, rows := rows, own := true, live := false }) ++ [{ sz := 2, rows := rows.take i ++ [row] ++ rows.drop i, own := true, live := true }]) := by
  by_cases h : i < rows.length
  · exact slices_Insert_Got_mid hk hv hne h hbig
  · have : i = rows.length := by omega
    subst this
    rw [List.take_length, List.drop_length, List.append_nil]
    exact slices_Insert_Got_end hk hv hbig

end Go.Proofs.Ytmdblemjlmfbbaa.Eng
