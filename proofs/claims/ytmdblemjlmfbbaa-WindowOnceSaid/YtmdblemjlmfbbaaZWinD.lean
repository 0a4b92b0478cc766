/- Contracts of window.Add and the document's AddGot. No statement of the seat is proved here. -/
import Derived.Test.YtmdblemjlmfbbaaZWinC
import Derived.Test.YtmdblemjlmfbbaaZPartD
namespace Go.Proofs.Ytmdblemjlmfbbaa.Eng
open Go
set_option linter.unusedVariables false
set_option linter.unusedSimpArgs false

def addedG (l : List Got) (h : Hdr) : List Got := if hasG l h then l else addG h (oneG h) l

theorem unionL_nil_left {h : Hdr} (hm : h.May) : unionL [] (oneG h) = oneG h := unionL_nil (oneG_norm h)

set_option maxHeartbeats 2000000 in
theorem window_Add_nil (h : Hdr) (hm : h.May) : Pr 10 [.c (gotsC []), .agg h.cells] (.tup [.c (gotsC [⟨h.epoch, oneG h⟩]), bC true]) := by
  refine pure_of mixed is_window_Add (by simp [closedAs, closedA, closedC, Hdr.closed, gotsC, closedR]) fun hl T => ?_
  unfold c_window_Add
  have hfr := window_fresh_ok [] h .nil (by simp)
  have hfi := (window_find_ok [] h.epoch .nil (by simp)).wk (args := [.c (.zer 2), iC h.epoch]) (.cons (.c (.zer 2)) (.cons (.same _) .nil))
  have hdt := window_dot_ok h
  have hof := dots_Of_is [h.dot] (by unfold Sm; simp)
  have hun := (dots_Union_is [] (oneG h) (by have := oneG_len h; simp; omega) (by simp) (oneG_norm h).right).wk (args := [.c .nilS, .c (runsC (oneG h))]) (.cons (.c (.nilS 3)) (.cons (.same _) .nil))
  rw [unionL_nil_left hm] at hun
  have hof : Pr 23 [.c (dotsC [h.dot])] (.c (runsC (oneG h))) := hof
  have hcr := closed_runs (oneG h)
  generalize oneG h = u at hun hof hcr ⊢
  obtain ⟨a, b, c⟩ := h
  have hhas : hasG [] ⟨a, b, c⟩ = false := rfl
  have hpos : posG [] a = 0 := rfl
  have hat : atG [] a = false := rfl
  rw [hhas] at hfr
  simp only [hpos, hat] at hfi
  dsimp only [Hdr.cells, Hdr.dot, Dot.cells, gotsC, runsC, dotsC, List.map_nil, List.map_cons] at *
  have hins := slices_Insert_Got_zer (H := [{ sz := 2, rows := [[.int .i64 a, .nilS]] }]) (b' := 0) (row := [.int .i64 a, .nilS]) rfl
  have hlit : ∀ (row : List Cell) (H : Heap), vLit 2 1 (some [row]) H = some (.c (.slc H.length 0 1 2 false), H ++ [{ sz := 2, rows := [row] }]) := fun _ _ => rfl
  simp only [go_sem, reduceCtorEq, Nat.reduceEqDiff, Nat.reduceAdd, Nat.reduceSub, Nat.reduceMul, Nat.reduceLeDiff, Int.reduceEq, Int.reduceLT, Int.reduceLE, Int.reduceAdd, Int.reduceMul, Int.reduceSub, Int.reduceNeg, Int.reduceToNat, reduceIte, Nat.reduceLT]
  refine callW_pure window_copied_none ?_
  simp only [go_sem, reduceCtorEq, Nat.reduceEqDiff, Nat.reduceAdd, Nat.reduceSub, Nat.reduceMul, Nat.reduceLeDiff, Int.reduceEq, Int.reduceLT, Int.reduceLE, Int.reduceAdd, Int.reduceMul, Int.reduceSub, Int.reduceNeg, Int.reduceToNat, reduceIte, Nat.reduceLT]
  refine callW_pure hfr ?_
  simp only [go_sem, reduceCtorEq, Nat.reduceEqDiff, Nat.reduceAdd, Nat.reduceSub, Nat.reduceMul, Nat.reduceLeDiff, Int.reduceEq, Int.reduceLT, Int.reduceLE, Int.reduceAdd, Int.reduceMul, Int.reduceSub, Int.reduceNeg, Int.reduceToNat, reduceIte, Nat.reduceLT]
  refine callW_pure errors_Is_nil ?_
  simp only [go_sem, reduceCtorEq, Nat.reduceEqDiff, Nat.reduceAdd, Nat.reduceSub, Nat.reduceMul, Nat.reduceLeDiff, Int.reduceEq, Int.reduceLT, Int.reduceLE, Int.reduceAdd, Int.reduceMul, Int.reduceSub, Int.reduceNeg, Int.reduceToNat, reduceIte, Nat.reduceLT]
  refine callW_pure hfi ?_
  simp only [go_sem, reduceCtorEq, Nat.reduceEqDiff, Nat.reduceAdd, Nat.reduceSub, Nat.reduceMul, Nat.reduceLeDiff, Int.reduceEq, Int.reduceLT, Int.reduceLE, Int.reduceAdd, Int.reduceMul, Int.reduceSub, Int.reduceNeg, Int.reduceToNat, reduceIte, Nat.reduceLT, hlit]
  refine callW_at hins (fun h => by cases h) ?_
  have hx : ∀ G : Heap, vIx 2 (.c (.slc 1 0 1 2 false)) (iC 0) G = some (.c (.ptr 1 0 0), G) := fun G => vIx_slc (q := 0) (by omega)
  simp only [go_sem, reduceCtorEq, Nat.reduceEqDiff, Nat.reduceAdd, Nat.reduceSub, Nat.reduceMul, Nat.reduceLeDiff, Int.reduceEq, Int.reduceLT, Int.reduceLE, Int.reduceAdd, Int.reduceMul, Int.reduceSub, Int.reduceNeg, Int.reduceToNat, reduceIte, Nat.reduceLT, hx]
  refine callW_pure hdt ?_
  simp only [go_sem, reduceCtorEq, Nat.reduceEqDiff, Nat.reduceAdd, Nat.reduceSub, Nat.reduceMul, Nat.reduceLeDiff, Int.reduceEq, Int.reduceLT, Int.reduceLE, Int.reduceAdd, Int.reduceMul, Int.reduceSub, Int.reduceNeg, Int.reduceToNat, reduceIte, Nat.reduceLT]
  refine callW_pure hof ?_
  simp only [go_sem, reduceCtorEq, Nat.reduceEqDiff, Nat.reduceAdd, Nat.reduceSub, Nat.reduceMul, Nat.reduceLeDiff, Int.reduceEq, Int.reduceLT, Int.reduceLE, Int.reduceAdd, Int.reduceMul, Int.reduceSub, Int.reduceNeg, Int.reduceToNat, reduceIte, Nat.reduceLT]
  refine callW_pure hun ?_
  simp only [go_sem, reduceCtorEq, Nat.reduceEqDiff, Nat.reduceAdd, Nat.reduceSub, Nat.reduceMul, Nat.reduceLeDiff, Int.reduceEq, Int.reduceLT, Int.reduceLE, Int.reduceAdd, Int.reduceMul, Int.reduceSub, Int.reduceNeg, Int.reduceToNat, reduceIte, Nat.reduceLT, hx]
  have hc1 : closedR [[Cell.int .i64 a, .lst 3 (u.map Rn.cells)]] = true := by simp [closedR, closedCs, closedC, hcr]
  simp [viewA, viewFn, viewC, viewFs, viewCs, viewAs, closedC, closedCs, viewAs, hc1]

theorem set_mid {A B : List Got} {g : Got} {r : List Cell} : ((A ++ g :: B).map Got.cells).set A.length r = A.map Got.cells ++ r :: B.map Got.cells := by
  simp

set_option maxHeartbeats 2000000 in
theorem window_Add_ok (l : List Got) (h : Hdr) (hl : MayG l) (hm : h.May) (hs : l.length ≤ 100000) (hz : ∀ g ∈ l, g.runs.length ≤ 100000) : Pr 10 [.c (gotsC l), .agg h.cells] (.tup [.c (gotsC (addedG l h)), bC (!hasG l h)]) := by
  by_cases h0 : l = []
  · subst h0
    exact window_Add_nil h hm
  refine pure_of mixed is_window_Add (by simp [closedAs, closedA, closed_gotsC, Hdr.closed]) fun hl' T => ?_
  unfold c_window_Add
  obtain ⟨G, hcp, _, hG⟩ := window_copied_at (l := l) (H := []) h0 (by unfold Sm; omega) (fun g hg => by have := hz g hg; unfold Sm; omega)
  have hfr := window_fresh_ok l h hl (by omega)
  have hfi := window_find_ok l h.epoch hl (by omega)
  have hdt := window_dot_ok h
  have hof : Pr 23 [.c (dotsC [h.dot])] (.c (runsC (oneG h))) := dots_Of_is [h.dot] (by unfold Sm; simp)
  have hcr := closed_runs (oneG h)
  have hlit : ∀ (row : List Cell) (H : Heap), vLit 2 1 (some [row]) H = some (.c (.slc H.length 0 1 2 false), H ++ [{ sz := 2, rows := [row] }]) := fun _ _ => rfl
  have hol := oneG_len h
  have hon := oneG_norm h
  have hone := unionL_nil_left hm
  have hGl : 0 < G.length := (List.getElem?_eq_some_iff.1 hG).1
  have hne : l.length ≠ 0 := fun e => h0 (List.eq_nil_of_length_eq_zero e)
  have hvl := view_gots h0 hG
  have hiv : ∀ (H : Heap) (n : Int), viewC H (.int .i64 n) = some (.int .i64 n) := fun _ _ => rfl
  simp only [List.length_nil] at hcp hG hvl
  cases hh : hasG l h with
  | true =>
    have hadd : addedG l h = l := by unfold addedG; rw [hh]; rfl
    rw [hadd]
    rw [hh] at hfr
    obtain ⟨a, b, c⟩ := h
    dsimp only [Hdr.cells, Hdr.dot, Dot.cells, gotsC] at *
    simp only [go_sem, reduceCtorEq, Nat.reduceEqDiff, Nat.reduceAdd, Nat.reduceSub, Nat.reduceMul, Nat.reduceLeDiff, Int.reduceEq, Int.reduceLT, Int.reduceLE, Int.reduceAdd, Int.reduceMul, Int.reduceSub, Int.reduceNeg, Int.reduceToNat, reduceIte, Nat.reduceLT]
    refine callW_at hcp (fun h => by cases h) ?_
    simp only [go_sem, reduceCtorEq, Nat.reduceEqDiff, Nat.reduceAdd, Nat.reduceSub, Nat.reduceMul, Nat.reduceLeDiff, Int.reduceEq, Int.reduceLT, Int.reduceLE, Int.reduceAdd, Int.reduceMul, Int.reduceSub, Int.reduceNeg, Int.reduceToNat, reduceIte, Nat.reduceLT]
    refine callW_pure hfr ?_
    simp only [go_sem, reduceCtorEq, Nat.reduceEqDiff, Nat.reduceAdd, Nat.reduceSub, Nat.reduceMul, Nat.reduceLeDiff, Int.reduceEq, Int.reduceLT, Int.reduceLE, Int.reduceAdd, Int.reduceMul, Int.reduceSub, Int.reduceNeg, Int.reduceToNat, reduceIte, Nat.reduceLT]
    refine callW_pure (errors_Is_came a b c) ?_
    simp only [go_sem, reduceCtorEq, Nat.reduceEqDiff, Nat.reduceAdd, Nat.reduceSub, Nat.reduceMul, Nat.reduceLeDiff, Int.reduceEq, Int.reduceLT, Int.reduceLE, Int.reduceAdd, Int.reduceMul, Int.reduceSub, Int.reduceNeg, Int.reduceToNat, reduceIte, Nat.reduceLT]
    simp only [viewA, viewAs, viewFn, hvl]
    rfl
  | false =>
    have hadd : addedG l h = addG h (oneG h) l := by unfold addedG; rw [hh]; rfl
    rw [hadd]
    rw [hh] at hfr
    obtain ⟨A, B, hAB, hpos, hA, hB⟩ := hl.split h.epoch
    rw [hpos] at hfi
    have hxl : A.length ≤ l.length := by rw [hAB]; simp
    rcases hB with ⟨hat, g, B', rfl, hge, hB⟩ | ⟨hat, hB⟩
    · -- the epoch is there
      rw [hat] at hfi
      have hgm : g ∈ l := by rw [hAB]; simp
      have hun := dots_Union_is g.runs (oneG h) (by have := hz g hgm; omega) (hl.one g hgm).2.2.right hon.right
      have hres : addG h (oneG h) l = A ++ ⟨h.epoch, unionL g.runs (oneG h)⟩ :: B' := by rw [hAB, addG_at hA hge]
      rw [hres]
      have hpl : A.length < l.length := by rw [hAB]; simp
      have hx : ∀ G : Heap, vIx 2 (.c (.slc 0 0 l.length 2 false)) (iC A.length) G = some (.c (.ptr 0 A.length 0), G) := fun G => vIx_slc hpl
      have hrow : Heap.row G 0 A.length = some [.int .i64 h.epoch, runsC g.runs] := by rw [row_of hG rfl, hAB]; simp [Got.cells, hge]
      have hmine : Heap.mine G 0 = true := mine_of hG rfl rfl
      have hput : ∀ u : List Rn, Heap.put G 0 A.length [.int .i64 h.epoch, runsC u] = G.set 0 { sz := 2, rows := (A ++ ⟨h.epoch, u⟩ :: B').map Got.cells, own := true, live := true } := fun u => by
        rw [put_of hG]
        congr 2
        rw [hAB, set_mid]
        simp [Got.cells]
      have hv2 : ∀ u : List Rn, viewC (G.set 0 { sz := 2, rows := (A ++ ⟨h.epoch, u⟩ :: B').map Got.cells, own := true, live := true }) (.slc 0 0 l.length 2 false) = some (gotsC (A ++ ⟨h.epoch, u⟩ :: B')) := fun u => by
        have := view_gots (l := A ++ ⟨h.epoch, u⟩ :: B') (by simp) (set_get hG)
        rw [show l.length = (A ++ ⟨h.epoch, u⟩ :: B').length by rw [hAB]; simp]
        exact this
      generalize unionL g.runs (oneG h) = u at hun ⊢
      generalize oneG h = o at hun hof hcr
      have hput := hput u
      have hv2 := hv2 u
      obtain ⟨a, b, c⟩ := h
      dsimp only [Hdr.cells, Hdr.dot, Dot.cells, gotsC, runsC, dotsC, List.map_nil, List.map_cons] at *
      simp only [go_sem, reduceCtorEq, Nat.reduceEqDiff, Nat.reduceAdd, Nat.reduceSub, Nat.reduceMul, Nat.reduceLeDiff, Int.reduceEq, Int.reduceLT, Int.reduceLE, Int.reduceAdd, Int.reduceMul, Int.reduceSub, Int.reduceNeg, Int.reduceToNat, reduceIte, Nat.reduceLT]
      refine callW_at hcp (fun h => by cases h) ?_
      simp only [go_sem, reduceCtorEq, Nat.reduceEqDiff, Nat.reduceAdd, Nat.reduceSub, Nat.reduceMul, Nat.reduceLeDiff, Int.reduceEq, Int.reduceLT, Int.reduceLE, Int.reduceAdd, Int.reduceMul, Int.reduceSub, Int.reduceNeg, Int.reduceToNat, reduceIte, Nat.reduceLT]
      refine callW_pure hfr ?_
      simp only [go_sem, reduceCtorEq, Nat.reduceEqDiff, Nat.reduceAdd, Nat.reduceSub, Nat.reduceMul, Nat.reduceLeDiff, Int.reduceEq, Int.reduceLT, Int.reduceLE, Int.reduceAdd, Int.reduceMul, Int.reduceSub, Int.reduceNeg, Int.reduceToNat, reduceIte, Nat.reduceLT]
      refine callW_pure errors_Is_nil ?_
      simp only [go_sem, reduceCtorEq, Nat.reduceEqDiff, Nat.reduceAdd, Nat.reduceSub, Nat.reduceMul, Nat.reduceLeDiff, Int.reduceEq, Int.reduceLT, Int.reduceLE, Int.reduceAdd, Int.reduceMul, Int.reduceSub, Int.reduceNeg, Int.reduceToNat, reduceIte, Nat.reduceLT]
      refine callW_view hfi (by simp only [List.map_nil, List.append_nil, viewAs, viewA, viewFn, hvl, hiv]) rfl ?_
      simp only [go_sem, reduceCtorEq, Nat.reduceEqDiff, Nat.reduceAdd, Nat.reduceSub, Nat.reduceMul, Nat.reduceLeDiff, Int.reduceEq, Int.reduceLT, Int.reduceLE, Int.reduceAdd, Int.reduceMul, Int.reduceSub, Int.reduceNeg, Int.reduceToNat, reduceIte, Nat.reduceLT, hx, hrow]
      refine callW_pure hdt ?_
      simp only [go_sem, reduceCtorEq, Nat.reduceEqDiff, Nat.reduceAdd, Nat.reduceSub, Nat.reduceMul, Nat.reduceLeDiff, Int.reduceEq, Int.reduceLT, Int.reduceLE, Int.reduceAdd, Int.reduceMul, Int.reduceSub, Int.reduceNeg, Int.reduceToNat, reduceIte, Nat.reduceLT]
      refine callW_pure hof ?_
      simp only [go_sem, reduceCtorEq, Nat.reduceEqDiff, Nat.reduceAdd, Nat.reduceSub, Nat.reduceMul, Nat.reduceLeDiff, Int.reduceEq, Int.reduceLT, Int.reduceLE, Int.reduceAdd, Int.reduceMul, Int.reduceSub, Int.reduceNeg, Int.reduceToNat, reduceIte, Nat.reduceLT]
      refine callW_pure hun ?_
      simp only [go_sem, reduceCtorEq, Nat.reduceEqDiff, Nat.reduceAdd, Nat.reduceSub, Nat.reduceMul, Nat.reduceLeDiff, Int.reduceEq, Int.reduceLT, Int.reduceLE, Int.reduceAdd, Int.reduceMul, Int.reduceSub, Int.reduceNeg, Int.reduceToNat, reduceIte, Nat.reduceLT, hx, hrow, hmine, hput, hGl]
      simp only [viewA, viewAs, viewFn, hv2]
      rfl
    · -- it is not
      rw [hat] at hfi
      have hun := (dots_Union_is [] (oneG h) (by simp; omega) (by simp) hon.right).wk (args := [.c .nilS, .c (runsC (oneG h))]) (.cons (.c (.nilS 3)) (.cons (.same _) .nil))
      rw [hone] at hun
      have hres : addG h (oneG h) l = A ++ ⟨h.epoch, oneG h⟩ :: B := by rw [hAB, addG_new hA hB]
      rw [hres]
      have hG1 : ∀ k : Blk, (G ++ [k])[0]? = some { sz := 2, rows := l.map Got.cells, own := true, live := true } := fun k => by rw [get_prev hGl]; exact hG
      have hins := slices_Insert_Got_at (H := G ++ [{ sz := 2, rows := [[.int .i64 h.epoch, .nilS]] }]) (b := 0) (b' := G.length) (i := A.length) (rows := l.map Got.cells) (row := [.int .i64 h.epoch, .nilS]) (hG1 _) (by simp) (by omega) (by simpa using hxl) (by simp; omega)
      have hrows : (l.map Got.cells).take A.length ++ [[Cell.int .i64 h.epoch, .nilS]] ++ (l.map Got.cells).drop A.length = A.map Got.cells ++ [.int .i64 h.epoch, .nilS] :: B.map Got.cells := by
        rw [hAB]
        simp
      rw [hrows, List.length_map] at hins
      obtain ⟨b1, hb1⟩ : ∃ b1, b1 = (G ++ [({ sz := 2, rows := [[.int .i64 h.epoch, .nilS]] } : Blk)]).length := ⟨_, rfl⟩
      obtain ⟨G2, hG2⟩ : ∃ G2, G2 = ((G ++ [({ sz := 2, rows := [[.int .i64 h.epoch, .nilS]] } : Blk)]).set 0 { sz := 2, rows := l.map Got.cells, own := true, live := false }) ++ [{ sz := 2, rows := A.map Got.cells ++ [.int .i64 h.epoch, .nilS] :: B.map Got.cells, own := true, live := true }] := ⟨_, rfl⟩
      have hat2 : G2[b1]? = some { sz := 2, rows := A.map Got.cells ++ [.int .i64 h.epoch, .nilS] :: B.map Got.cells, own := true, live := true } := by rw [hG2, hb1]; simp
      rw [← hb1, ← hG2] at hins
      have hbl : b1 < G2.length := (List.getElem?_eq_some_iff.1 hat2).1
      have hx : ∀ G : Heap, vIx 2 (.c (.slc b1 0 (l.length + 1) 2 false)) (iC A.length) G = some (.c (.ptr b1 A.length 0), G) := fun G => vIx_slc (by omega)
      have hrow : Heap.row G2 b1 A.length = some [.int .i64 h.epoch, .nilS] := by rw [row_of hat2 rfl]; simp
      have hmine : Heap.mine G2 b1 = true := mine_of hat2 rfl rfl
      have hput : ∀ u : List Rn, Heap.put G2 b1 A.length [.int .i64 h.epoch, runsC u] = G2.set b1 { sz := 2, rows := (A ++ ⟨h.epoch, u⟩ :: B).map Got.cells, own := true, live := true } := fun u => by
        rw [put_of hat2]
        congr 2
        simp [Got.cells]
      have hv2 : ∀ u : List Rn, viewC (G2.set b1 { sz := 2, rows := (A ++ ⟨h.epoch, u⟩ :: B).map Got.cells, own := true, live := true }) (.slc b1 0 (l.length + 1) 2 false) = some (gotsC (A ++ ⟨h.epoch, u⟩ :: B)) := fun u => by
        have := view_gots (l := A ++ ⟨h.epoch, u⟩ :: B) (by simp) (set_get hat2)
        rw [show l.length + 1 = (A ++ ⟨h.epoch, u⟩ :: B).length by rw [hAB]; simp; omega]
        exact this
      clear hG2 hb1
      generalize oneG h = o at hun hof hcr ⊢
      have hput := hput o
      have hv2 := hv2 o
      obtain ⟨a, b, c⟩ := h
      dsimp only [Hdr.cells, Hdr.dot, Dot.cells, gotsC, runsC, dotsC, List.map_nil, List.map_cons] at *
      simp only [go_sem, reduceCtorEq, Nat.reduceEqDiff, Nat.reduceAdd, Nat.reduceSub, Nat.reduceMul, Nat.reduceLeDiff, Int.reduceEq, Int.reduceLT, Int.reduceLE, Int.reduceAdd, Int.reduceMul, Int.reduceSub, Int.reduceNeg, Int.reduceToNat, reduceIte, Nat.reduceLT]
      refine callW_at hcp (fun h => by cases h) ?_
      simp only [go_sem, reduceCtorEq, Nat.reduceEqDiff, Nat.reduceAdd, Nat.reduceSub, Nat.reduceMul, Nat.reduceLeDiff, Int.reduceEq, Int.reduceLT, Int.reduceLE, Int.reduceAdd, Int.reduceMul, Int.reduceSub, Int.reduceNeg, Int.reduceToNat, reduceIte, Nat.reduceLT]
      refine callW_pure hfr ?_
      simp only [go_sem, reduceCtorEq, Nat.reduceEqDiff, Nat.reduceAdd, Nat.reduceSub, Nat.reduceMul, Nat.reduceLeDiff, Int.reduceEq, Int.reduceLT, Int.reduceLE, Int.reduceAdd, Int.reduceMul, Int.reduceSub, Int.reduceNeg, Int.reduceToNat, reduceIte, Nat.reduceLT]
      refine callW_pure errors_Is_nil ?_
      simp only [go_sem, reduceCtorEq, Nat.reduceEqDiff, Nat.reduceAdd, Nat.reduceSub, Nat.reduceMul, Nat.reduceLeDiff, Int.reduceEq, Int.reduceLT, Int.reduceLE, Int.reduceAdd, Int.reduceMul, Int.reduceSub, Int.reduceNeg, Int.reduceToNat, reduceIte, Nat.reduceLT]
      refine callW_view hfi (by simp only [List.map_nil, List.append_nil, viewAs, viewA, viewFn, hvl, hiv]) rfl ?_
      simp only [go_sem, reduceCtorEq, Nat.reduceEqDiff, Nat.reduceAdd, Nat.reduceSub, Nat.reduceMul, Nat.reduceLeDiff, Int.reduceEq, Int.reduceLT, Int.reduceLE, Int.reduceAdd, Int.reduceMul, Int.reduceSub, Int.reduceNeg, Int.reduceToNat, reduceIte, Nat.reduceLT, hlit]
      refine callW_at hins (fun h => by cases h) ?_
      simp only [go_sem, reduceCtorEq, Nat.reduceEqDiff, Nat.reduceAdd, Nat.reduceSub, Nat.reduceMul, Nat.reduceLeDiff, Int.reduceEq, Int.reduceLT, Int.reduceLE, Int.reduceAdd, Int.reduceMul, Int.reduceSub, Int.reduceNeg, Int.reduceToNat, reduceIte, Nat.reduceLT, hx, hrow]
      refine callW_pure hdt ?_
      simp only [go_sem, reduceCtorEq, Nat.reduceEqDiff, Nat.reduceAdd, Nat.reduceSub, Nat.reduceMul, Nat.reduceLeDiff, Int.reduceEq, Int.reduceLT, Int.reduceLE, Int.reduceAdd, Int.reduceMul, Int.reduceSub, Int.reduceNeg, Int.reduceToNat, reduceIte, Nat.reduceLT]
      refine callW_pure hof ?_
      simp only [go_sem, reduceCtorEq, Nat.reduceEqDiff, Nat.reduceAdd, Nat.reduceSub, Nat.reduceMul, Nat.reduceLeDiff, Int.reduceEq, Int.reduceLT, Int.reduceLE, Int.reduceAdd, Int.reduceMul, Int.reduceSub, Int.reduceNeg, Int.reduceToNat, reduceIte, Nat.reduceLT]
      refine callW_pure hun ?_
      simp only [go_sem, reduceCtorEq, Nat.reduceEqDiff, Nat.reduceAdd, Nat.reduceSub, Nat.reduceMul, Nat.reduceLeDiff, Int.reduceEq, Int.reduceLT, Int.reduceLE, Int.reduceAdd, Int.reduceMul, Int.reduceSub, Int.reduceNeg, Int.reduceToNat, reduceIte, Nat.reduceLT, hx, hrow, hmine, hput, hbl]
      simp only [viewA, viewAs, viewFn, hv2]
      rfl

end Go.Proofs.Ytmdblemjlmfbbaa.Eng
