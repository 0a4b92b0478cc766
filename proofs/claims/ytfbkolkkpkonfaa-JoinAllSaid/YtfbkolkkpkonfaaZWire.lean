/- Wires, as the document's answer puts them. No statement of the seat is proved here. -/
import Derived.Test.YtfbkolkkpkonfaaZDoR
import Derived.Test.YtfbkolkkpkonfaaZLitW
namespace Go.Proofs.Ytfbkolkkpkonfaa.Eng
open Go
set_option linter.unusedVariables false
set_option linter.unusedSimpArgs false

/-- What bytes say. -/
inductive Wr where
  | mk (kind n : Int) (s : ByteArray) (l : List Wr)
mutual
def Wr.cells : Wr → List Cell
  | .mk k n s l => [.int .i64 k, .int .i64 n, .str s, .lst 4 (Wr.rows l)]
def Wr.rows : List Wr → List (List Cell)
  | [] => []
  | w :: l => w.cells :: Wr.rows l
end
theorem Wr.rows_map : ∀ (l : List Wr), Wr.rows l = l.map Wr.cells
  | [] => by simp only [Wr.rows, List.map_nil]
  | w :: l => by simp only [Wr.rows, List.map_cons, Wr.rows_map l]
mutual
theorem Wr.closed : ∀ (w : Wr), closedCs w.cells = true
  | .mk k n s l => by simp only [Wr.cells, closedCs, closedC, Wr.closedR l, Bool.and_self]
theorem Wr.closedR : ∀ (l : List Wr), closedR (Wr.rows l) = true
  | [] => rfl
  | w :: l => by simp only [Wr.rows, Eng.closedR, Wr.closed w, Wr.closedR l, Bool.and_self]
end
def wiresC (l : List Wr) : Cell := .lst 4 (Wr.rows l)
def numW (n : Int) : Wr := .mk 1 n emptyB []
def textW (s : ByteArray) : Wr := .mk 2 0 s []
def listW (l : List Wr) : Wr := .mk 3 0 emptyB l

theorem told_wire0 {H : Heap} (k n : Int) (s : ByteArray) : viewW H (.agg [.int .i64 k, .int .i64 n, .str s, .nilS]) (.agg (Wr.cells (.mk k n s []))) :=
  ⟨.agg [.int .i64 k, .int .i64 n, .str s, .nilS], by simp [viewA, viewFn, viewC, viewFs, viewCs, viewAs, closedC, closedCs], .agg (.cons (.same _) (.cons (.same _) (.cons (.same _) (.cons (.nilS _) .nil))))⟩
theorem told_wire {H : Heap} (k n : Int) (s : ByteArray) (l : List Wr) : viewW H (.agg [.int .i64 k, .int .i64 n, .str s, .lst 4 (Wr.rows l)]) (.agg (Wr.cells (.mk k n s l))) :=
  ⟨.agg [.int .i64 k, .int .i64 n, .str s, .lst 4 (Wr.rows l)], by simp [viewA, viewFn, viewC, viewFs, viewCs, viewAs, closedC, closedCs, Wr.closedR], .same _⟩

theorem r1_Num_ok (n : Int) : Pr 64 [iC n] (.agg (numW n).cells) := by
  refine pure_ofW mixed is_r1_Num rfl fun hl T => ?_
  unfold c_r1_Num
  simp only [go_sem, reduceCtorEq, Nat.reduceEqDiff, Nat.reduceAdd, Nat.reduceSub, Nat.reduceMul, Nat.reduceLeDiff, Int.reduceEq, Int.reduceLT, Int.reduceLE, Int.reduceAdd, Int.reduceMul, Int.reduceSub, Int.reduceNeg, Int.reduceToNat, reduceIte, Nat.reduceLT]
  exact told_wire0 _ _ _
theorem r1_Text_ok (s : ByteArray) : Pr 65 [sC s] (.agg (textW s).cells) := by
  refine pure_ofW mixed is_r1_Text rfl fun hl T => ?_
  unfold c_r1_Text
  simp only [go_sem, reduceCtorEq, Nat.reduceEqDiff, Nat.reduceAdd, Nat.reduceSub, Nat.reduceMul, Nat.reduceLeDiff, Int.reduceEq, Int.reduceLT, Int.reduceLE, Int.reduceAdd, Int.reduceMul, Int.reduceSub, Int.reduceNeg, Int.reduceToNat, reduceIte, Nat.reduceLT]
  exact told_wire0 _ _ _
theorem r1_List_ok (l : List Wr) : Pr 63 [.c (wiresC l)] (.agg (listW l).cells) := by
  refine pure_ofW mixed is_r1_List (by simp [closedAs, closedA, closedC, wiresC, Wr.closedR]) fun hl T => ?_
  unfold c_r1_List
  dsimp only [wiresC]
  simp only [go_sem, reduceCtorEq, Nat.reduceEqDiff, Nat.reduceAdd, Nat.reduceSub, Nat.reduceMul, Nat.reduceLeDiff, Int.reduceEq, Int.reduceLT, Int.reduceLE, Int.reduceAdd, Int.reduceMul, Int.reduceSub, Int.reduceNeg, Int.reduceToNat, reduceIte, Nat.reduceLT]
  exact told_wire _ _ _ _

theorem Wr.len4 : ∀ (w : Wr), w.cells.length = 4
  | .mk k n s l => by simp only [Wr.cells, List.length_cons, List.length_nil]

theorem Wr.take4 (w : Wr) : w.cells.take 4 = w.cells := List.take_of_length_le (by rw [Wr.len4]; exact Nat.le_refl _)
theorem Wr.drop4 (w : Wr) : w.cells.drop 4 = [] := List.drop_eq_nil_of_le (by rw [Wr.len4]; exact Nat.le_refl _)
theorem Wr.rows_len (l : List Wr) : (Wr.rows l).length = l.length := by rw [Wr.rows_map, List.length_map]
theorem told_w {H : Heap} : ∀ (w : Wr), viewW H (.agg w.cells) (.agg w.cells)
  | .mk k n s l => by simp only [Wr.cells]; exact told_wire k n s l

/-! ### Built slices beside one another -/
theorem Acc.kill {sz b : Nat} {rows : List (List Cell)} {v : AVal} {H : Heap} (h : Acc sz rows v H) (hn : NB v b) : Acc sz rows v (H.kill b) := by
  unfold Heap.kill
  split
  · exact h.set_nb hn
  · exact h
theorem Acc.fz_gen {G : Prog} {p : Post} {k : List Itm} {e : Env} {H : Heap} {sz t : Nat} {rows : List (List Cell)} {c : ACode} (h : Acc sz rows (e t) H)
    (hw : ∀ e' H', e' t = .c (.lst sz rows) → (∀ s v, e s = v → closedA v = true → s ≠ t → e' s = v) → (∀ u sz' rows', u ≠ t → Acc sz' rows' (e u) H → (∀ b, ¬ NB (e t) b → NB (e u) b) → Acc sz' rows' (e' u) H') → Run G p (.code c :: k) e' H') : Run G p (.code (.fz t c) :: k) e H := by
  rcases h with ⟨rfl, hv⟩ | ⟨b, ext, h1, h2⟩
  · have hs : ∀ y, e t = .c y → (y = .nilS ∨ y = .zer sz) → Run G p (.code (.fz t c) :: k) e H := fun y hy hz =>
      run_fz0 hy hz (hw _ _ (by simp [upd]) (fun s v hv _ hst => by simp [upd, hst, hv]) (fun u sz' rows' hu ha _ => by
        have : upd e t (.c (.lst sz [])) u = e u := by simp [upd, hu]
        rw [this]; exact ha))
    rcases hv with hv | hv
    · exact hs _ hv (.inl rfl)
    · exact hs _ hv (.inr rfl)
  · refine run_fz ⟨b, _, by rw [h1]; rfl, h2, rfl, rfl, hw _ _ ?_ (fun s v hv hc _ => ?_) (fun u sz' rows' hu ha hn => ?_)⟩
    · rw [frzEnv_at, h1, frzA_c, frz_slc (by simp)]
      simp
    · rw [frzEnv_at, hv, frz_closedA hc]
    · have hnb : NB (e u) b := hn b fun h => h _ _ _ _ h1
      have hk := ha.kill hnb
      have e1 : frzEnv b { sz := sz, rows := rows ++ ext, own := true, live := true } e u = e u := by
        rw [frzEnv_at]
        rcases ha with ⟨_, hv | hv⟩ | ⟨b', ext', h3, _⟩
        · rw [hv, frzA_c]; rfl
        · rw [hv, frzA_c]; rfl
        · rw [h3, frzA_c]
          have : b' ≠ b := fun e => by subst e; exact hnb _ _ _ _ h3
          simp [Cell.frz, this]
      rw [e1]; exact hk

theorem r1_Nums_ok (l : List Int) (hs : l.length ≤ 1000) : Pr 62 [.c (intsC l)] (.agg (listW (l.map numW)).cells) := by
  refine pure_ofW mixed is_r1_Nums (by simp [closedAs, closedA, closedC, closed_intsC]) fun hl T => ?_
  have hlen : l.length ≤ maxLen := by unfold maxLen; omega
  unfold c_r1_Nums
  dsimp only [intsC]
  simp only [go_sem, reduceCtorEq, Nat.reduceEqDiff, Nat.reduceAdd, Nat.reduceSub, Nat.reduceMul, Nat.reduceLeDiff, Int.reduceEq, Int.reduceLT, Int.reduceLE, Int.reduceAdd, Int.reduceMul, Int.reduceSub, Int.reduceNeg, Int.reduceToNat, reduceIte, Nat.reduceLT]
  have loop : ∀ (rest pre : List Int) (e : Env) (H : Heap), l = pre ++ rest → e 0 = .c (.lst 1 (l.map iRow)) → e 2 = .c (.ptr 0 0 0) → e 4 = iC pre.length → Acc 4 (Wr.rows (pre.map numW)) (e 3) H → H[0]? = some { sz := 4, rows := [[.int .i64 0, .int .i64 0, .str ⟨#[]⟩, .nilS]] } → NB (e 3) 0 →
      Run (progT Try.prog T) ⟨[.cell 2 true 4], fun u E => viewW E u (.agg (listW (l.map numW)).cells)⟩ [.loop r1_Nums_L0, .blk 0, .code r1_Nums_K1] e H := by
    intro rest
    induction rest with
    | nil =>
      intro pre e H hp h0 h2 h4 hacc hB nb0
      have hc := not_lt_at (f := iRow) hp
      refine run_again ?_
      conv => enter [3, 1]; unfold r1_Nums_L0
      simp only [go_sem, reduceCtorEq, Nat.reduceEqDiff, Nat.reduceAdd, Nat.reduceSub, Nat.reduceMul, Nat.reduceLeDiff, Int.reduceEq, Int.reduceLT, Int.reduceLE, Int.reduceAdd, Int.reduceMul, Int.reduceSub, Int.reduceNeg, Int.reduceToNat, reduceIte, Nat.reduceLT, h0, h2, h4, hc]
      rw [List.append_nil] at hp
      subst hp
      unfold r1_Nums_K1
      refine Acc.fz_keep (sz := 4) (by simp only [go_sem, reduceCtorEq, Nat.reduceEqDiff, Nat.reduceAdd, Nat.reduceSub, Nat.reduceMul, Nat.reduceLeDiff, Int.reduceEq, Int.reduceLT, Int.reduceLE, Int.reduceAdd, Int.reduceMul, Int.reduceSub, Int.reduceNeg, Int.reduceToNat, reduceIte, Nat.reduceLT]; exact hacc) fun e' H' k3 kc kp kb kl => ?_
      have k2 := kp 2 0 0 0 (by simp only [go_sem, reduceCtorEq, Nat.reduceEqDiff, Nat.reduceAdd, Nat.reduceSub, Nat.reduceMul, Nat.reduceLeDiff, Int.reduceEq, Int.reduceLT, Int.reduceLE, Int.reduceAdd, Int.reduceMul, Int.reduceSub, Int.reduceNeg, Int.reduceToNat, reduceIte, Nat.reduceLT, h2]) (by simp only [go_sem, reduceCtorEq, Nat.reduceEqDiff, Nat.reduceAdd, Nat.reduceSub, Nat.reduceMul, Nat.reduceLeDiff, Int.reduceEq, Int.reduceLT, Int.reduceLE, Int.reduceAdd, Int.reduceMul, Int.reduceSub, Int.reduceNeg, Int.reduceToNat, reduceIte, Nat.reduceLT]; exact nb0)
      have b0 := kb 0 _ hB (by simp only [go_sem, reduceCtorEq, Nat.reduceEqDiff, Nat.reduceAdd, Nat.reduceSub, Nat.reduceMul, Nat.reduceLeDiff, Int.reduceEq, Int.reduceLT, Int.reduceLE, Int.reduceAdd, Int.reduceMul, Int.reduceSub, Int.reduceNeg, Int.reduceToNat, reduceIte, Nat.reduceLT]; exact nb0)
      clear kc kp kb
      simp only [go_sem, reduceCtorEq, Nat.reduceEqDiff, Nat.reduceAdd, Nat.reduceSub, Nat.reduceMul, Nat.reduceLeDiff, Int.reduceEq, Int.reduceLT, Int.reduceLE, Int.reduceAdd, Int.reduceMul, Int.reduceSub, Int.reduceNeg, Int.reduceToNat, reduceIte, Nat.reduceLT, k3]
      refine callW_pure (r1_List_ok (l.map numW)) ?_
      simp only [go_sem, reduceCtorEq, Nat.reduceEqDiff, Nat.reduceAdd, Nat.reduceSub, Nat.reduceMul, Nat.reduceLeDiff, Int.reduceEq, Int.reduceLT, Int.reduceLE, Int.reduceAdd, Int.reduceMul, Int.reduceSub, Int.reduceNeg, Int.reduceToNat, reduceIte, Nat.reduceLT, k2, box_row b0, box_mine b0, box_put b0, box_row (set_get b0), Wr.take4, Wr.len4]
      exact told_w _
    | cons r rest ih =>
      intro pre e H hp h0 h2 h4 hacc hB nb0
      have hc := lt_at (f := iRow) hp
      have hr := map_at' (f := iRow) hp
      have hn := next_at hp hlen
      have hpl : pre.length < l.length := by rw [hp]; simp
      refine run_again ?_
      conv => enter [3, 1]; unfold r1_Nums_L0
      simp only [go_sem, reduceCtorEq, Nat.reduceEqDiff, Nat.reduceAdd, Nat.reduceSub, Nat.reduceMul, Nat.reduceLeDiff, Int.reduceEq, Int.reduceLT, Int.reduceLE, Int.reduceAdd, Int.reduceMul, Int.reduceSub, Int.reduceNeg, Int.reduceToNat, reduceIte, Nat.reduceLT, h0, h2, h4, hc, hr, iRow]
      refine callW_pure (r1_Num_ok r) ?_
      simp only [go_sem, reduceCtorEq, Nat.reduceEqDiff, Nat.reduceAdd, Nat.reduceSub, Nat.reduceMul, Nat.reduceLeDiff, Int.reduceEq, Int.reduceLT, Int.reduceLE, Int.reduceAdd, Int.reduceMul, Int.reduceSub, Int.reduceNeg, Int.reduceToNat, reduceIte, Nat.reduceLT, Wr.len4, Wr.closed]
      refine Acc.app_keep hacc (by rw [Wr.rows_len]; simp; omega) fun v' H' ha' keep => ?_
      obtain ⟨hB', nb'⟩ := keep 0 _ nb0 hB
      simp only [go_sem, reduceCtorEq, Nat.reduceEqDiff, Nat.reduceAdd, Nat.reduceSub, Nat.reduceMul, Nat.reduceLeDiff, Int.reduceEq, Int.reduceLT, Int.reduceLE, Int.reduceAdd, Int.reduceMul, Int.reduceSub, Int.reduceNeg, Int.reduceToNat, reduceIte, Nat.reduceLT, h4, hn]
      refine ih (pre ++ [r]) _ _ (by rw [hp]; simp) ?_ ?_ ?_ ?_ hB' ?_
      · simp only [go_sem, reduceCtorEq, Nat.reduceEqDiff, Nat.reduceAdd, Nat.reduceSub, Nat.reduceMul, Nat.reduceLeDiff, Int.reduceEq, Int.reduceLT, Int.reduceLE, Int.reduceAdd, Int.reduceMul, Int.reduceSub, Int.reduceNeg, Int.reduceToNat, reduceIte, Nat.reduceLT, h0]
      · simp only [go_sem, reduceCtorEq, Nat.reduceEqDiff, Nat.reduceAdd, Nat.reduceSub, Nat.reduceMul, Nat.reduceLeDiff, Int.reduceEq, Int.reduceLT, Int.reduceLE, Int.reduceAdd, Int.reduceMul, Int.reduceSub, Int.reduceNeg, Int.reduceToNat, reduceIte, Nat.reduceLT, h2]
      · simp only [go_sem, reduceCtorEq, Nat.reduceEqDiff, Nat.reduceAdd, Nat.reduceSub, Nat.reduceMul, Nat.reduceLeDiff, Int.reduceEq, Int.reduceLT, Int.reduceLE, Int.reduceAdd, Int.reduceMul, Int.reduceSub, Int.reduceNeg, Int.reduceToNat, reduceIte, Nat.reduceLT, hn]
      · simp only [go_sem, reduceCtorEq, Nat.reduceEqDiff, Nat.reduceAdd, Nat.reduceSub, Nat.reduceMul, Nat.reduceLeDiff, Int.reduceEq, Int.reduceLT, Int.reduceLE, Int.reduceAdd, Int.reduceMul, Int.reduceSub, Int.reduceNeg, Int.reduceToNat, reduceIte, Nat.reduceLT]; simpa [Wr.rows_map] using ha'
      · simp only [go_sem, reduceCtorEq, Nat.reduceEqDiff, Nat.reduceAdd, Nat.reduceSub, Nat.reduceMul, Nat.reduceLeDiff, Int.reduceEq, Int.reduceLT, Int.reduceLE, Int.reduceAdd, Int.reduceMul, Int.reduceSub, Int.reduceNeg, Int.reduceToNat, reduceIte, Nat.reduceLT]; exact nb'
  refine loop l [] _ _ rfl ?_ ?_ ?_ ?_ rfl ?_
  · simp only [go_sem, reduceCtorEq, Nat.reduceEqDiff, Nat.reduceAdd, Nat.reduceSub, Nat.reduceMul, Nat.reduceLeDiff, Int.reduceEq, Int.reduceLT, Int.reduceLE, Int.reduceAdd, Int.reduceMul, Int.reduceSub, Int.reduceNeg, Int.reduceToNat, reduceIte, Nat.reduceLT]
  · simp only [go_sem, reduceCtorEq, Nat.reduceEqDiff, Nat.reduceAdd, Nat.reduceSub, Nat.reduceMul, Nat.reduceLeDiff, Int.reduceEq, Int.reduceLT, Int.reduceLE, Int.reduceAdd, Int.reduceMul, Int.reduceSub, Int.reduceNeg, Int.reduceToNat, reduceIte, Nat.reduceLT]
  · simp only [go_sem, reduceCtorEq, Nat.reduceEqDiff, Nat.reduceAdd, Nat.reduceSub, Nat.reduceMul, Nat.reduceLeDiff, Int.reduceEq, Int.reduceLT, Int.reduceLE, Int.reduceAdd, Int.reduceMul, Int.reduceSub, Int.reduceNeg, Int.reduceToNat, reduceIte, Nat.reduceLT, List.length_nil, Int.natCast_zero]
  · simp only [go_sem, reduceCtorEq, Nat.reduceEqDiff, Nat.reduceAdd, Nat.reduceSub, Nat.reduceMul, Nat.reduceLeDiff, Int.reduceEq, Int.reduceLT, Int.reduceLE, Int.reduceAdd, Int.reduceMul, Int.reduceSub, Int.reduceNeg, Int.reduceToNat, reduceIte, Nat.reduceLT]; exact .nil
  · simp only [go_sem, reduceCtorEq, Nat.reduceEqDiff, Nat.reduceAdd, Nat.reduceSub, Nat.reduceMul, Nat.reduceLeDiff, Int.reduceEq, Int.reduceLT, Int.reduceLE, Int.reduceAdd, Int.reduceMul, Int.reduceSub, Int.reduceNeg, Int.reduceToNat, reduceIte, Nat.reduceLT]; intro n s q z e; cases e

end Go.Proofs.Ytfbkolkkpkonfaa.Eng
