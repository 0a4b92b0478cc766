/- The law MutateFull: its call comes to true. -/
import Derived.Test.YtpjbjdicdjlmeaaGreatDoorZLawM0
import Derived.Test.YtpjbjdicdjlmeaaGreatDoorZItemF
import Derived.Test.YtpjbjdicdjlmeaaGreatDoorZDots1
namespace Go.Proofs.YtpjbjdicdjlmeaaGreatDoor.Eng
open Go
set_option linter.unusedVariables false
set_option linter.unusedSimpArgs false

/-- A slice that was built behind a box, and lies in it, is given up. -/
theorem run_fzH_box {G : Prog} {p : Post} {kk : List Itm} {e : Env} {K : Heap} {t sz sz0 : Nat} {rows : List (List Cell)} {R c : Cell} {c0 : ACode} (h : Acc sz rows (.c c) ({ sz := sz0, rows := [[R, c]] } :: K)) (h0 : sz0 ≠ sz) (hr : rows ≠ []) (he : e t = .c c) (hR : closedC R = true)
    (hw : ∀ (e' : Env) (K' : Heap), (∀ u v, e u = v → closedA v = true → e' u = v) → (∀ u i f, e u = .c (.ptr 0 i f) → e' u = .c (.ptr 0 i f)) → Run G p (.code c0 :: kk) e' ({ sz := sz0, rows := [[R, .lst sz rows]] } :: K')) :
    Run G p (.code (.fz t c0) :: kk) e ({ sz := sz0, rows := [[R, c]] } :: K) := by
  obtain ⟨b, ext, hv, hb, hq⟩ := h.slc hr
  injection hv with hv
  subst hv
  obtain ⟨b, rfl⟩ : ∃ b', b = b' + 1 := by
    match b, hq with
    | 0, hq => simp at hq; exact absurd hq.1 h0
    | b + 1, _ => exact ⟨b, rfl⟩
  refine run_fzH (b := b + 1) (by rw [he]; rfl) hq rfl rfl ?_
  have hs : Cell.frz (b + 1) { sz := sz, rows := rows ++ ext, own := true, live := true } (.slc (b + 1) 0 rows.length sz false) = .lst sz rows := by
    rw [frz_slc (by simp)]
    simp
  have hH : Heap.frzH ({ sz := sz0, rows := [[R, .slc (b + 1) 0 rows.length sz false]] } :: K) (b + 1) { sz := sz, rows := rows ++ ext, own := true, live := true } =
      { sz := sz0, rows := [[R, .lst sz rows]] } :: (K.set b { sz := sz, rows := rows ++ ext, own := true, live := false }).map fun q => { q with rows := q.rows.map (frzs (b + 1) { sz := sz, rows := rows ++ ext, own := true, live := true }) } := by
    simp only [Heap.frzH, List.set_cons_succ, List.map_cons, List.map_nil, frzs, hs, frz_closedC hR]
  rw [hH]
  refine hw _ _ (fun u v h hc => by rw [frzEnv_at, h, frz_closedA hc]) (fun u i f h => ?_)
  rw [frzEnv_at, h, frzA_ptr_ne (by omega)]

set_option maxHeartbeats 8000000 in
theorem l11_MutateFull_ok (which n : Nat) (hw : which < 65536) (hn : n < 256) : Pr 3 [.c (.int .u16 (which : Int)), .c (.int .u8 (n : Int))] (bC true) := by
  refine pure_of mixed is_l11_MutateFull rfl fun _ T => ?_
  have hk : which % 400 < 400 := Nat.mod_lt _ (by omega)
  have hit := l11_item_ok (which % 400) hk
  obtain ⟨a, a1, a2, a3, a4⟩ := full_add (dev := ((n % 8 : Nat) : Int)) (by omega) (by omega) hk
  obtain ⟨c', c1, c2⟩ := full_del (dev := ((n % 8 : Nat) : Int)) (by omega) (by omega)
  have b1 := full_more (dev := ((n % 8 : Nat) : Int)) (by omega) (by omega)
  have b2 := full_other (dev := ((n % 8 : Nat) : Int)) (by omega) (by omega)
  have hs1 : fullS.seen.length ≤ 100000 := by show 1 ≤ _; omega
  have hs2 : fullS.facts.length ≤ 1000 := by rw [show fullS.facts.length = 400 from fullL_len 400]; omega
  have m1 := mutate_Do_ok fullS ((n % 8 : Nat) : Int) ⟨2, kB, itemB (which % 400), 0⟩ full_good hs1 hs2
  have m2 := mutate_Do_ok fullS ((n % 8 : Nat) : Int) ⟨2, kB, moreB, 0⟩ full_good hs1 hs2
  have m3 := mutate_Do_ok fullS ((n % 8 : Nat) : Int) ⟨1, otherB, emptyB, 0⟩ full_good hs1 hs2
  have m4 := mutate_Do_ok fullS ((n % 8 : Nat) : Int) ⟨5, kB, emptyB, 0⟩ full_good hs1 hs2
  rw [a1] at m1
  rw [b1] at m2
  rw [b2] at m3
  rw [c1] at m4
  have n0 := l1_Num_ok 0
  have n4 := l1_Num_ok 4
  have hh := r7_Has_ok a.seen ⟨1, ((which % 400 : Nat) : Int) + 1⟩
  rw [a3] at hh
  have sr := r7_SameRuns_ok c'.seen fullS.seen
  rw [c2, decide_eq_true rfl] at sr
  have haw := l11_awake_ok
  have wk1 : IntKind.wrap .i64 (((which % 400 : Nat) : Int) + 1) = ((which % 400 : Nat) : Int) + 1 := wrap64 (by omega)
  have w1 : IntKind.wrap .i64 (which : Int) = (which : Int) := wrap64 (by omega)
  have w2 : IntKind.wrap .i64 (n : Int) = (n : Int) := wrap64 (by omega)
  have t1 : Int.tmod (which : Int) 400 = ((which % 400 : Nat) : Int) := by rw [Int.tmod_eq_emod_of_nonneg (by omega)]; omega
  have t2 : Int.tmod (n : Int) 8 = ((n % 8 : Nat) : Int) := by rw [Int.tmod_eq_emod_of_nonneg (by omega)]; omega
  obtain ⟨R, hR⟩ : ∃ R : Cell, R = .lst 3 [[.int .i64 1, .int .i64 1, .int .i64 400]] := ⟨_, rfl⟩
  have hRc : closedC R = true := by rw [hR]; rfl
  have loop : ∀ (m i : Nat) (c : Cell) (e : Env) (K : Heap), i + m = 400 → e 0 = .c (.int .u16 (which : Int)) → e 1 = .c (.int .u8 (n : Int)) → e 5 = .c (.ptr 0 0 0) → e 6 = iC i → Acc 6 ((fullL i).map Fact.cells) (.c c) ({ sz := 2, rows := [[R, c]] } :: K) → (i ≠ 0 → e 32 = .c c) →
      Run (progT Tryz.prog T) ⟨[.tmp 4], fun u E => viewA E u = some (bC true)⟩ [.loop l11_MutateFull_L0, .blk 0, .code l11_MutateFull_K1] e ({ sz := 2, rows := [[R, c]] } :: K) := by
    intro m
    induction m with
    | zero =>
      intro i c e K hm h0 h1 h5 h6 hacc h32
      have hi : i = 400 := by omega
      subst hi
      have hc : ¬ (((400 : Nat) : Int) < 400) := by omega
      have h32 := h32 (by omega)
      refine run_again ?_
      conv => enter [3, 1]; unfold l11_MutateFull_L0
      simp only [go_sem, reduceCtorEq, Nat.reduceEqDiff, Nat.reduceAdd, Nat.reduceSub, Nat.reduceMul, Nat.reduceLeDiff, Int.reduceEq, Int.reduceLT, Int.reduceLE, Int.reduceAdd, Int.reduceMul, Int.reduceSub, Int.reduceNeg, Int.reduceToNat, reduceIte, Nat.reduceLT, h0, h1, h5, h6, hc]
      unfold l11_MutateFull_K1
      refine run_fzH_box hacc (by omega) (by simp [fullL]) (by simp only [go_sem, reduceCtorEq, Nat.reduceEqDiff, Nat.reduceAdd, Nat.reduceSub, Nat.reduceMul, Nat.reduceLeDiff, Int.reduceEq, Int.reduceLT, Int.reduceLE, Int.reduceAdd, Int.reduceMul, Int.reduceSub, Int.reduceNeg, Int.reduceToNat, reduceIte, Nat.reduceLT, h32]) hRc fun e' K' q1 q2 => ?_
      have g0 := q1 0 (.c (.int .u16 (which : Int))) (by simp only [go_sem, reduceCtorEq, Nat.reduceEqDiff, Nat.reduceAdd, Nat.reduceSub, Nat.reduceMul, Nat.reduceLeDiff, Int.reduceEq, Int.reduceLT, Int.reduceLE, Int.reduceAdd, Int.reduceMul, Int.reduceSub, Int.reduceNeg, Int.reduceToNat, reduceIte, Nat.reduceLT, h0]) rfl
      have g1 := q1 1 (.c (.int .u8 (n : Int))) (by simp only [go_sem, reduceCtorEq, Nat.reduceEqDiff, Nat.reduceAdd, Nat.reduceSub, Nat.reduceMul, Nat.reduceLeDiff, Int.reduceEq, Int.reduceLT, Int.reduceLE, Int.reduceAdd, Int.reduceMul, Int.reduceSub, Int.reduceNeg, Int.reduceToNat, reduceIte, Nat.reduceLT, h1]) rfl
      have g5 := q2 5 0 0 (by simp only [go_sem, reduceCtorEq, Nat.reduceEqDiff, Nat.reduceAdd, Nat.reduceSub, Nat.reduceMul, Nat.reduceLeDiff, Int.reduceEq, Int.reduceLT, Int.reduceLE, Int.reduceAdd, Int.reduceMul, Int.reduceSub, Int.reduceNeg, Int.reduceToNat, reduceIte, Nat.reduceLT, h5])
      clear q1 q2
      have hL : closedC (.lst 6 ((fullL 400).map Fact.cells)) = true := closed_factsC (fullL 400)
      have hfs : ([R, .lst 6 ((fullL 400).map Fact.cells)] : List Cell) = fullS.cells := by rw [hR]; rfl
      rw [hfs]
      have hcl := State.closed fullS
      obtain ⟨G, hG⟩ : ∃ G : Heap, G = { sz := 2, rows := [fullS.cells] } :: K' := ⟨_, rfl⟩
      have b0 : G[0]? = some { sz := 2, rows := [fullS.cells], own := true, live := true } := by rw [hG]; rfl
      have hlt : 0 < G.length := by rw [hG]; simp
      rw [← hG]
      clear hG hacc h32 h0 h1 h5 h6
      generalize fullS = S at *
      obtain ⟨seen, facts⟩ := S
      obtain ⟨aseen, afacts⟩ := a
      obtain ⟨cseen, cfacts⟩ := c'
      simp only [State.cells] at *
      simp only [go_sem, reduceCtorEq, Nat.reduceEqDiff, Nat.reduceAdd, Nat.reduceSub, Nat.reduceMul, Nat.reduceLeDiff, Int.reduceEq, Int.reduceLT, Int.reduceLE, Int.reduceAdd, Int.reduceMul, Int.reduceSub, Int.reduceNeg, Int.reduceToNat, reduceIte, Nat.reduceLT, g0, g1, g5, w1, t1, w2, t2, box_row b0]
      refine callW_pure hit ?_
      have f1 : ∀ A : Blk, Heap.row (G ++ [A]) 0 0 = some [runsC seen, factsC facts] := fun A => by rw [row_prev hlt]; exact box_row b0
      have f2 : ∀ A B : Blk, Heap.row (G ++ [A] ++ [B]) 0 0 = some [runsC seen, factsC facts] := fun A B => by rw [row_prev (by simp <;> omega)]; exact f1 A
      have f3 : ∀ A B C : Blk, Heap.row (G ++ [A] ++ [B] ++ [C]) 0 0 = some [runsC seen, factsC facts] := fun A B C => by rw [row_prev (by simp <;> omega)]; exact f2 A B
      have f4 : ∀ A B C D : Blk, Heap.row (G ++ [A] ++ [B] ++ [C] ++ [D]) 0 0 = some [runsC seen, factsC facts] := fun A B C D => by rw [row_prev (by simp <;> omega)]; exact f3 A B C
      have f5 : ∀ (q : List Cell) (B C D : Blk), Heap.row (G ++ [{ sz := 2, rows := [q], own := true, live := true }] ++ [B] ++ [C] ++ [D]) G.length 0 = some q := fun q B C D => by
        rw [row_prev (by simp <;> omega), row_prev (by simp <;> omega), row_prev (by simp <;> omega), row_last]
        rfl
      simp only [go_sem, reduceCtorEq, Nat.reduceEqDiff, Nat.reduceAdd, Nat.reduceSub, Nat.reduceMul, Nat.reduceLeDiff, Int.reduceEq, Int.reduceLT, Int.reduceLE, Int.reduceAdd, Int.reduceMul, Int.reduceSub, Int.reduceNeg, Int.reduceToNat, reduceIte, Nat.reduceLT, g0, g1, g5, w2, t2]
      refine callW_pure m1 ?_
      simp only [go_sem, reduceCtorEq, Nat.reduceEqDiff, Nat.reduceAdd, Nat.reduceSub, Nat.reduceMul, Nat.reduceLeDiff, Int.reduceEq, Int.reduceLT, Int.reduceLE, Int.reduceAdd, Int.reduceMul, Int.reduceSub, Int.reduceNeg, Int.reduceToNat, reduceIte, Nat.reduceLT, g0, g1, g5, w2, t2, f1]
      refine callW_pure m2 ?_
      simp only [go_sem, reduceCtorEq, Nat.reduceEqDiff, Nat.reduceAdd, Nat.reduceSub, Nat.reduceMul, Nat.reduceLeDiff, Int.reduceEq, Int.reduceLT, Int.reduceLE, Int.reduceAdd, Int.reduceMul, Int.reduceSub, Int.reduceNeg, Int.reduceToNat, reduceIte, Nat.reduceLT, g0, g1, g5, w2, t2, f2]
      refine callW_pure m3 ?_
      simp only [go_sem, reduceCtorEq, Nat.reduceEqDiff, Nat.reduceAdd, Nat.reduceSub, Nat.reduceMul, Nat.reduceLeDiff, Int.reduceEq, Int.reduceLT, Int.reduceLE, Int.reduceAdd, Int.reduceMul, Int.reduceSub, Int.reduceNeg, Int.reduceToNat, reduceIte, Nat.reduceLT, g0, g1, g5, w2, t2, f3]
      refine callW_pure m4 ?_
      simp only [go_sem, reduceCtorEq, Nat.reduceEqDiff, Nat.reduceAdd, Nat.reduceSub, Nat.reduceMul, Nat.reduceLeDiff, Int.reduceEq, Int.reduceLT, Int.reduceLE, Int.reduceAdd, Int.reduceMul, Int.reduceSub, Int.reduceNeg, Int.reduceToNat, reduceIte, Nat.reduceLT, g0, g1, g5, w2, t2, f4, f5]
      refine callW_pure n0 ?_
      have c1n : ((1 : Nat) : Int) = 1 := rfl
      have al : (afacts.map Fact.cells).length = 1 := by simp [a2]
      simp only [go_sem, reduceCtorEq, Nat.reduceEqDiff, Nat.reduceAdd, Nat.reduceSub, Nat.reduceMul, Nat.reduceLeDiff, Int.reduceEq, Int.reduceLT, Int.reduceLE, Int.reduceAdd, Int.reduceMul, Int.reduceSub, Int.reduceNeg, Int.reduceToNat, reduceIte, Nat.reduceLT, g0, g1, g5, w2, t2, f4, f5, factsC, al, c1n, wk1]

      refine callW_pure hh ?_
      simp only [go_sem, reduceCtorEq, Nat.reduceEqDiff, Nat.reduceAdd, Nat.reduceSub, Nat.reduceMul, Nat.reduceLeDiff, Int.reduceEq, Int.reduceLT, Int.reduceLE, Int.reduceAdd, Int.reduceMul, Int.reduceSub, Int.reduceNeg, Int.reduceToNat, reduceIte, Nat.reduceLT, g0, g1, g5, w2, t2]
      refine callW_pure n4 ?_
      simp only [go_sem, reduceCtorEq, Nat.reduceEqDiff, Nat.reduceAdd, Nat.reduceSub, Nat.reduceMul, Nat.reduceLeDiff, Int.reduceEq, Int.reduceLT, Int.reduceLE, Int.reduceAdd, Int.reduceMul, Int.reduceSub, Int.reduceNeg, Int.reduceToNat, reduceIte, Nat.reduceLT, g0, g1, g5, w2, t2]
      refine callW_pure n4 ?_
      simp only [go_sem, reduceCtorEq, Nat.reduceEqDiff, Nat.reduceAdd, Nat.reduceSub, Nat.reduceMul, Nat.reduceLeDiff, Int.reduceEq, Int.reduceLT, Int.reduceLE, Int.reduceAdd, Int.reduceMul, Int.reduceSub, Int.reduceNeg, Int.reduceToNat, reduceIte, Nat.reduceLT, g0, g1, g5, w2, t2]
      refine callW_pure n0 ?_
      simp only [go_sem, reduceCtorEq, Nat.reduceEqDiff, Nat.reduceAdd, Nat.reduceSub, Nat.reduceMul, Nat.reduceLeDiff, Int.reduceEq, Int.reduceLT, Int.reduceLE, Int.reduceAdd, Int.reduceMul, Int.reduceSub, Int.reduceNeg, Int.reduceToNat, reduceIte, Nat.reduceLT, g0, g1, g5, w2, t2, f4, f5, c2]
      refine callW_pure sr ?_
      simp only [go_sem, reduceCtorEq, Nat.reduceEqDiff, Nat.reduceAdd, Nat.reduceSub, Nat.reduceMul, Nat.reduceLeDiff, Int.reduceEq, Int.reduceLT, Int.reduceLE, Int.reduceAdd, Int.reduceMul, Int.reduceSub, Int.reduceNeg, Int.reduceToNat, reduceIte, Nat.reduceLT, g0, g1, g5, w2, t2]
      refine callW_pure haw ?_
      simp only [go_sem, reduceCtorEq, Nat.reduceEqDiff, Nat.reduceAdd, Nat.reduceSub, Nat.reduceMul, Nat.reduceLeDiff, Int.reduceEq, Int.reduceLT, Int.reduceLE, Int.reduceAdd, Int.reduceMul, Int.reduceSub, Int.reduceNeg, Int.reduceToNat, reduceIte, Nat.reduceLT]
      simp [viewA, viewFn, viewC, viewFs, viewCs, viewAs, closedC, closedCs]
    | succ m ih =>
      intro i c e K hm h0 h1 h5 h6 hacc h32
      have hc : ((i : Int) < 400) := by omega
      have hi : i < 400 := by omega
      have hx := l11_item_ok i hi
      have hnx : IntKind.wrap .i64 ((i : Int) + 1) = ((i + 1 : Nat) : Int) := by rw [wrap64 (by omega)]; omega
      refine run_again ?_
      conv => enter [3, 1]; unfold l11_MutateFull_L0
      simp only [go_sem, reduceCtorEq, Nat.reduceEqDiff, Nat.reduceAdd, Nat.reduceSub, Nat.reduceMul, Nat.reduceLeDiff, Int.reduceEq, Int.reduceLT, Int.reduceLE, Int.reduceAdd, Int.reduceMul, Int.reduceSub, Int.reduceNeg, Int.reduceToNat, reduceIte, Nat.reduceLT, h0, h1, h5, h6, hc, hnx]
      refine callW_pure hx ?_
      simp only [go_sem, reduceCtorEq, Nat.reduceEqDiff, Nat.reduceAdd, Nat.reduceSub, Nat.reduceMul, Nat.reduceLeDiff, Int.reduceEq, Int.reduceLT, Int.reduceLE, Int.reduceAdd, Int.reduceMul, Int.reduceSub, Int.reduceNeg, Int.reduceToNat, reduceIte, Nat.reduceLT]
      refine Acc.app_h1 hacc (by show (2 : Nat) ≠ 6; omega) (by simp [fullL]; omega) fun v' K' ha' => ?_
      obtain ⟨c', rfl⟩ : ∃ c', v' = .c c' := by
        rcases ha' with ⟨_, rfl | rfl⟩ | ⟨_, _, rfl, _⟩
        · exact ⟨_, rfl⟩
        · exact ⟨_, rfl⟩
        · exact ⟨_, rfl⟩
      simp only [go_sem, reduceCtorEq, Nat.reduceEqDiff, Nat.reduceAdd, Nat.reduceSub, Nat.reduceMul, Nat.reduceLeDiff, Int.reduceEq, Int.reduceLT, Int.reduceLE, Int.reduceAdd, Int.reduceMul, Int.reduceSub, Int.reduceNeg, Int.reduceToNat, reduceIte, Nat.reduceLT, h5, h6, hnx]
      refine ih (i + 1) c' _ K' (by omega) ?_ ?_ ?_ ?_ ?_ ?_
      · simp only [go_sem, reduceCtorEq, Nat.reduceEqDiff, Nat.reduceAdd, Nat.reduceSub, Nat.reduceMul, Nat.reduceLeDiff, Int.reduceEq, Int.reduceLT, Int.reduceLE, Int.reduceAdd, Int.reduceMul, Int.reduceSub, Int.reduceNeg, Int.reduceToNat, reduceIte, Nat.reduceLT, h0]
      · simp only [go_sem, reduceCtorEq, Nat.reduceEqDiff, Nat.reduceAdd, Nat.reduceSub, Nat.reduceMul, Nat.reduceLeDiff, Int.reduceEq, Int.reduceLT, Int.reduceLE, Int.reduceAdd, Int.reduceMul, Int.reduceSub, Int.reduceNeg, Int.reduceToNat, reduceIte, Nat.reduceLT, h1]
      · simp only [go_sem, reduceCtorEq, Nat.reduceEqDiff, Nat.reduceAdd, Nat.reduceSub, Nat.reduceMul, Nat.reduceLeDiff, Int.reduceEq, Int.reduceLT, Int.reduceLE, Int.reduceAdd, Int.reduceMul, Int.reduceSub, Int.reduceNeg, Int.reduceToNat, reduceIte, Nat.reduceLT, h5]
      · simp only [go_sem, reduceCtorEq, Nat.reduceEqDiff, Nat.reduceAdd, Nat.reduceSub, Nat.reduceMul, Nat.reduceLeDiff, Int.reduceEq, Int.reduceLT, Int.reduceLE, Int.reduceAdd, Int.reduceMul, Int.reduceSub, Int.reduceNeg, Int.reduceToNat, reduceIte, Nat.reduceLT, hnx]
      · rw [fullL_succ, List.map_append]
        exact ha'.set_h1_0 (by show (2 : Nat) ≠ 6; omega)
      · intro _
        simp only [go_sem, reduceCtorEq, Nat.reduceEqDiff, Nat.reduceAdd, Nat.reduceSub, Nat.reduceMul, Nat.reduceLeDiff, Int.reduceEq, Int.reduceLT, Int.reduceLE, Int.reduceAdd, Int.reduceMul, Int.reduceSub, Int.reduceNeg, Int.reduceToNat, reduceIte, Nat.reduceLT]
  subst hR
  unfold c_l11_MutateFull
  simp only [go_sem, reduceCtorEq, Nat.reduceEqDiff, Nat.reduceAdd, Nat.reduceSub, Nat.reduceMul, Nat.reduceLeDiff, Int.reduceEq, Int.reduceLT, Int.reduceLE, Int.reduceAdd, Int.reduceMul, Int.reduceSub, Int.reduceNeg, Int.reduceToNat, reduceIte, Nat.reduceLT]
  refine loop 400 0 .nilS _ [] rfl ?_ ?_ ?_ ?_ .nil (fun h => absurd rfl h)
  · simp only [go_sem, reduceCtorEq, Nat.reduceEqDiff, Nat.reduceAdd, Nat.reduceSub, Nat.reduceMul, Nat.reduceLeDiff, Int.reduceEq, Int.reduceLT, Int.reduceLE, Int.reduceAdd, Int.reduceMul, Int.reduceSub, Int.reduceNeg, Int.reduceToNat, reduceIte, Nat.reduceLT]
  · simp only [go_sem, reduceCtorEq, Nat.reduceEqDiff, Nat.reduceAdd, Nat.reduceSub, Nat.reduceMul, Nat.reduceLeDiff, Int.reduceEq, Int.reduceLT, Int.reduceLE, Int.reduceAdd, Int.reduceMul, Int.reduceSub, Int.reduceNeg, Int.reduceToNat, reduceIte, Nat.reduceLT]
  · simp only [go_sem, reduceCtorEq, Nat.reduceEqDiff, Nat.reduceAdd, Nat.reduceSub, Nat.reduceMul, Nat.reduceLeDiff, Int.reduceEq, Int.reduceLT, Int.reduceLE, Int.reduceAdd, Int.reduceMul, Int.reduceSub, Int.reduceNeg, Int.reduceToNat, reduceIte, Nat.reduceLT]
  · simp only [go_sem, reduceCtorEq, Nat.reduceEqDiff, Nat.reduceAdd, Nat.reduceSub, Nat.reduceMul, Nat.reduceLeDiff, Int.reduceEq, Int.reduceLT, Int.reduceLE, Int.reduceAdd, Int.reduceMul, Int.reduceSub, Int.reduceNeg, Int.reduceToNat, reduceIte, Nat.reduceLT, Int.natCast_zero]

theorem l11_MutateFull_law (a : Int) (ha : IntKind.min .u16 ≤ a ∧ a ≤ IntKind.max .u16) (b : Int) (hb : IntKind.min .u8 ≤ b ∧ b ≤ IntKind.max .u8) : Pr 3 [.c (.int .u16 a), .c (.int .u8 b)] (bC true) := by
  obtain ⟨b, rfl, q2⟩ := u8_nat hb
  obtain ⟨h1, h2⟩ := ha
  have h1' : (0 : Int) ≤ a := h1
  have h2' : a ≤ 65535 := h2
  obtain ⟨n, rfl⟩ : ∃ n : Nat, a = n := ⟨a.toNat, by omega⟩
  exact l11_MutateFull_ok n b (by omega) q2

end Go.Proofs.YtpjbjdicdjlmeaaGreatDoor.Eng
