/- Contracts of the document's answer: a mark among marks. No statement of the seat is proved here. -/
import Derived.Test.YtmdblemjlmfbbaaZMerge
import Derived.Test.YtmdblemjlmfbbaaZLitR
namespace Go.Proofs.Ytmdblemjlmfbbaa.Eng
open Go
set_option linter.unusedVariables false
set_option linter.unusedSimpArgs false

def iRow (n : Int) : List Cell := [.int .i64 n]
def intsC (l : List Int) : Cell := .lst 1 (l.map iRow)
theorem closed_ints (l : List Int) : closedR (l.map iRow) = true := closedR_map (fun _ => rfl) l
theorem closed_intsC (l : List Int) : closedC (intsC l) = true := closed_ints l
theorem told_ints (H : Heap) (l : List Int) : viewW H (.c (intsC l)) (.c (intsC l)) := ⟨_, by simp only [viewA, viewFn, intsC, viewC, closedC, closed_ints, if_true], .same _⟩

/-- A mark among marks in order. -/
def insL (x : Int) : List Int → List Int
  | [] => [x]
  | y :: l => if y < x then y :: insL x l else if y = x then y :: l else x :: y :: l

theorem insL_split {x : Int} : ∀ {pre suf : List Int}, (∀ y ∈ pre, y < x) → insL x (pre ++ suf) = pre ++ insL x suf
  | [], suf, _ => rfl
  | y :: pre, suf, h => by
    have h1 := h y (by simp)
    simp only [List.cons_append, insL, if_pos h1]
    rw [insL_split fun z hz => h z (by simp [hz])]
theorem insL_at {x y : Int} {l : List Int} (h : ¬ y < x) : insL x (y :: l) = if y = x then y :: l else x :: y :: l := by simp [insL, h]
theorem insL_mem {x z : Int} : ∀ {l : List Int}, z ∈ insL x l ↔ z = x ∨ z ∈ l
  | [] => by simp [insL]
  | y :: l => by
    simp only [insL]
    split
    · simp only [List.mem_cons, insL_mem (l := l)]
      constructor <;> rintro (h | h | h) <;> simp [h]
    · split
      · rename_i h1 h2; subst h2; simp
      · simp
theorem insL_sorted {x : Int} : ∀ {l : List Int}, l.Pairwise (· < ·) → (insL x l).Pairwise (· < ·)
  | [], _ => by simp [insL]
  | y :: l, h => by
    obtain ⟨h1, h2⟩ := List.pairwise_cons.1 h
    simp only [insL]
    split
    · rename_i hy
      refine List.pairwise_cons.2 ⟨fun z hz => ?_, insL_sorted h2⟩
      rcases insL_mem.1 hz with rfl | hz
      · exact hy
      · exact h1 z hz
    · split
      · exact h
      · rename_i hy hne
        refine List.pairwise_cons.2 ⟨fun z hz => ?_, h⟩
        rcases List.mem_cons.1 hz with rfl | hz
        · omega
        · have := h1 z hz; omega
theorem insL_len {x : Int} : ∀ {l : List Int}, (insL x l).length ≤ l.length + 1
  | [] => by simp [insL]
  | y :: l => by
    have := insL_len (x := x) (l := l)
    simp only [insL]
    split
    · simp; omega
    · split <;> simp

theorem appZ_step {G : Prog} {p : Post} {k : List Itm} {d : Bool} {e : Env} {H : Heap} {l : List AInstr} {dst : Option Nat} {sz bytes : Nat} {rows : List (List Cell)} (hb : rows.length * bytes ≤ 140737488355328) (hw : ∀ v' H', Acc sz rows v' H' → WL G p k d l (updO e dst v') H') :
    thenW G p k d (vAppZ sz bytes (.c (.zer sz)) (.c (.lst sz rows)) H) dst l e := by
  obtain ⟨v', H', h1, h2⟩ := (Acc.zer (sz := sz) (H := H)).appL (new := rows) (bytes := bytes) (by simpa using hb)
  exact thenW_of (by simpa [vAppZ, vApp] using h1) (hw v' H' (by simpa using h2))

theorem r7_mark_ok (l : List Int) (x : Int) (hs : Sm l) (hl : l.Pairwise (· < ·)) : Pr 51 [.c (intsC l), iC x] (.c (intsC (insL x l))) := by
  refine pure_ofW mixed is_r7_mark (by simp [closedAs, closedA, closedC, closed_intsC]) fun hl' T => ?_
  unfold c_r7_mark
  dsimp only [intsC]
  generalize hv : insL x l = v
  simp only [go_sem, reduceCtorEq, Nat.reduceEqDiff, Nat.reduceAdd, Nat.reduceSub, Nat.reduceMul, Nat.reduceLeDiff, Int.reduceEq, Int.reduceLT, Int.reduceLE, Int.reduceAdd, Int.reduceMul, Int.reduceSub, Int.reduceNeg, Int.reduceToNat, reduceIte, Nat.reduceLT]
  have fin : ∀ (pre suf : List Int) (e : Env) (H : Heap), l = pre ++ suf → (∀ y ∈ pre, y < x) → (∀ y ∈ suf, ¬ y < x) → e 0 = .c (.lst 1 (l.map iRow)) → e 1 = iC x → e 5 = iC pre.length →
      Run (progT Try.prog T) ⟨[.tmp 4], fun u E => viewW E u (.c (intsC v))⟩ [.code r7_mark_K1] e H := by
    intro pre suf e H hp hpre hsuf h0 h1 h5
    have hv2 := hv
    rw [hp, insL_split hpre] at hv2
    have hl0 : pre.length ≤ (l.map iRow).length := by rw [hp]; simp
    have hll : pre.length + suf.length = l.length := by rw [hp]; simp
    have ht : (l.map iRow).take pre.length = pre.map iRow := by rw [hp]; simp
    have hd : (l.map iRow).drop pre.length = suf.map iRow := by rw [hp]; simp
    have cl : ∀ (w : AVal) (H : Heap), Acc 1 (v.map iRow) w H → viewW H w (.c (intsC v)) := fun w H h => h.told (closed_ints v)
    unfold r7_mark_K1
    cases suf with
    | nil =>
      have hc : ¬ ((pre.length : Int) < ((l.map iRow).length : Int)) := not_lt_at (f := iRow) hp
      have hvv : v = pre ++ [x] := hv2.symm
      simp only [go_sem, reduceCtorEq, Nat.reduceEqDiff, Nat.reduceAdd, Nat.reduceSub, Nat.reduceMul, Nat.reduceLeDiff, Int.reduceEq, Int.reduceLT, Int.reduceLE, Int.reduceAdd, Int.reduceMul, Int.reduceSub, Int.reduceNeg, Int.reduceToNat, reduceIte, Nat.reduceLT, h0, h1, h5, hc]
      rw [vSl_lst_hi (q := pre.length) (ik := .i64) (by simp only [go_sem, reduceCtorEq, Nat.reduceEqDiff, Nat.reduceAdd, Nat.reduceSub, Nat.reduceMul, Nat.reduceLeDiff, Int.reduceEq, Int.reduceLT, Int.reduceLE, Int.reduceAdd, Int.reduceMul, Int.reduceSub, Int.reduceNeg, Int.reduceToNat, reduceIte, Nat.reduceLT, h5]) hl0, ht]
      simp only [go_sem, reduceCtorEq, Nat.reduceEqDiff, Nat.reduceAdd, Nat.reduceSub, Nat.reduceMul, Nat.reduceLeDiff, Int.reduceEq, Int.reduceLT, Int.reduceLE, Int.reduceAdd, Int.reduceMul, Int.reduceSub, Int.reduceNeg, Int.reduceToNat, reduceIte, Nat.reduceLT]
      refine appZ_step (by unfold Sm at hs; simp; omega) fun v1 H1 ha1 => ?_
      simp only [go_sem, reduceCtorEq, Nat.reduceEqDiff, Nat.reduceAdd, Nat.reduceSub, Nat.reduceMul, Nat.reduceLeDiff, Int.reduceEq, Int.reduceLT, Int.reduceLE, Int.reduceAdd, Int.reduceMul, Int.reduceSub, Int.reduceNeg, Int.reduceToNat, reduceIte, Nat.reduceLT, h1]
      refine ha1.app_step (by unfold Sm at hs; simp; omega) fun v2 H2 ha2 => ?_
      simp only [go_sem, reduceCtorEq, Nat.reduceEqDiff, Nat.reduceAdd, Nat.reduceSub, Nat.reduceMul, Nat.reduceLeDiff, Int.reduceEq, Int.reduceLT, Int.reduceLE, Int.reduceAdd, Int.reduceMul, Int.reduceSub, Int.reduceNeg, Int.reduceToNat, reduceIte, Nat.reduceLT, h0, h5]
      rw [vSl_lst_lo (q := pre.length) (ik := .i64) (by simp only [go_sem, reduceCtorEq, Nat.reduceEqDiff, Nat.reduceAdd, Nat.reduceSub, Nat.reduceMul, Nat.reduceLeDiff, Int.reduceEq, Int.reduceLT, Int.reduceLE, Int.reduceAdd, Int.reduceMul, Int.reduceSub, Int.reduceNeg, Int.reduceToNat, reduceIte, Nat.reduceLT, h5]) hl0, hd]
      simp only [go_sem, reduceCtorEq, Nat.reduceEqDiff, Nat.reduceAdd, Nat.reduceSub, Nat.reduceMul, Nat.reduceLeDiff, Int.reduceEq, Int.reduceLT, Int.reduceLE, Int.reduceAdd, Int.reduceMul, Int.reduceSub, Int.reduceNeg, Int.reduceToNat, reduceIte, Nat.reduceLT]
      refine ha2.app_step (by unfold Sm at hs; simp; omega) fun v3 H3 ha3 => ?_
      simp only [go_sem, reduceCtorEq, Nat.reduceEqDiff, Nat.reduceAdd, Nat.reduceSub, Nat.reduceMul, Nat.reduceLeDiff, Int.reduceEq, Int.reduceLT, Int.reduceLE, Int.reduceAdd, Int.reduceMul, Int.reduceSub, Int.reduceNeg, Int.reduceToNat, reduceIte, Nat.reduceLT]
      refine cl _ _ ?_
      rw [hvv]
      simpa [iRow] using ha3
    | cons y suf =>
      have hc := lt_at (f := iRow) hp
      have hr := map_at' (f := iRow) hp
      rw [insL_at (hsuf y (by simp))] at hv2
      simp only [go_sem, reduceCtorEq, Nat.reduceEqDiff, Nat.reduceAdd, Nat.reduceSub, Nat.reduceMul, Nat.reduceLeDiff, Int.reduceEq, Int.reduceLT, Int.reduceLE, Int.reduceAdd, Int.reduceMul, Int.reduceSub, Int.reduceNeg, Int.reduceToNat, reduceIte, Nat.reduceLT, h0, h1, h5, hc, hr, iRow]
      by_cases hy : y = x
      · simp only [go_sem, reduceCtorEq, Nat.reduceEqDiff, Nat.reduceAdd, Nat.reduceSub, Nat.reduceMul, Nat.reduceLeDiff, Int.reduceEq, Int.reduceLT, Int.reduceLE, Int.reduceAdd, Int.reduceMul, Int.reduceSub, Int.reduceNeg, Int.reduceToNat, reduceIte, Nat.reduceLT, hy, h0]
        rw [if_pos hy, ← hp] at hv2
        subst hv2
        exact told_ints _ _
      · rw [if_neg hy] at hv2
        have hvv := hv2.symm
        simp only [go_sem, reduceCtorEq, Nat.reduceEqDiff, Nat.reduceAdd, Nat.reduceSub, Nat.reduceMul, Nat.reduceLeDiff, Int.reduceEq, Int.reduceLT, Int.reduceLE, Int.reduceAdd, Int.reduceMul, Int.reduceSub, Int.reduceNeg, Int.reduceToNat, reduceIte, Nat.reduceLT, hy, h0, h5]
        rw [vSl_lst_hi (q := pre.length) (ik := .i64) (by simp only [go_sem, reduceCtorEq, Nat.reduceEqDiff, Nat.reduceAdd, Nat.reduceSub, Nat.reduceMul, Nat.reduceLeDiff, Int.reduceEq, Int.reduceLT, Int.reduceLE, Int.reduceAdd, Int.reduceMul, Int.reduceSub, Int.reduceNeg, Int.reduceToNat, reduceIte, Nat.reduceLT, h5]) hl0, ht]
        simp only [go_sem, reduceCtorEq, Nat.reduceEqDiff, Nat.reduceAdd, Nat.reduceSub, Nat.reduceMul, Nat.reduceLeDiff, Int.reduceEq, Int.reduceLT, Int.reduceLE, Int.reduceAdd, Int.reduceMul, Int.reduceSub, Int.reduceNeg, Int.reduceToNat, reduceIte, Nat.reduceLT]
        refine appZ_step (by unfold Sm at hs; simp; omega) fun v1 H1 ha1 => ?_
        simp only [go_sem, reduceCtorEq, Nat.reduceEqDiff, Nat.reduceAdd, Nat.reduceSub, Nat.reduceMul, Nat.reduceLeDiff, Int.reduceEq, Int.reduceLT, Int.reduceLE, Int.reduceAdd, Int.reduceMul, Int.reduceSub, Int.reduceNeg, Int.reduceToNat, reduceIte, Nat.reduceLT, h1]
        refine ha1.app_step (by unfold Sm at hs; simp; omega) fun v2 H2 ha2 => ?_
        simp only [go_sem, reduceCtorEq, Nat.reduceEqDiff, Nat.reduceAdd, Nat.reduceSub, Nat.reduceMul, Nat.reduceLeDiff, Int.reduceEq, Int.reduceLT, Int.reduceLE, Int.reduceAdd, Int.reduceMul, Int.reduceSub, Int.reduceNeg, Int.reduceToNat, reduceIte, Nat.reduceLT, h0, h5]
        rw [vSl_lst_lo (q := pre.length) (ik := .i64) (by simp only [go_sem, reduceCtorEq, Nat.reduceEqDiff, Nat.reduceAdd, Nat.reduceSub, Nat.reduceMul, Nat.reduceLeDiff, Int.reduceEq, Int.reduceLT, Int.reduceLE, Int.reduceAdd, Int.reduceMul, Int.reduceSub, Int.reduceNeg, Int.reduceToNat, reduceIte, Nat.reduceLT, h5]) hl0, hd]
        simp only [go_sem, reduceCtorEq, Nat.reduceEqDiff, Nat.reduceAdd, Nat.reduceSub, Nat.reduceMul, Nat.reduceLeDiff, Int.reduceEq, Int.reduceLT, Int.reduceLE, Int.reduceAdd, Int.reduceMul, Int.reduceSub, Int.reduceNeg, Int.reduceToNat, reduceIte, Nat.reduceLT]
        refine ha2.app_step (by unfold Sm at hs; simp only [List.length_cons] at hll; simp; omega) fun v3 H3 ha3 => ?_
        simp only [go_sem, reduceCtorEq, Nat.reduceEqDiff, Nat.reduceAdd, Nat.reduceSub, Nat.reduceMul, Nat.reduceLeDiff, Int.reduceEq, Int.reduceLT, Int.reduceLE, Int.reduceAdd, Int.reduceMul, Int.reduceSub, Int.reduceNeg, Int.reduceToNat, reduceIte, Nat.reduceLT]
        refine cl _ _ ?_
        rw [hvv]
        simpa [iRow] using ha3
  have loop : ∀ (pre suf : List Int) (e : Env) (H : Heap), l = pre.reverse ++ suf → (∀ y ∈ suf, ¬ y < x) → e 0 = .c (.lst 1 (l.map iRow)) → e 1 = iC x → e 5 = iC pre.length →
      Run (progT Try.prog T) ⟨[.tmp 4], fun u E => viewW E u (.c (intsC v))⟩ [.loop r7_mark_L0, .blk 0, .code r7_mark_K1] e H := by
    intro pre
    induction pre with
    | nil =>
      intro suf e H hp hsuf h0 h1 h5
      refine run_again ?_
      conv => enter [3, 1]; unfold r7_mark_L0
      simp only [go_sem, reduceCtorEq, Nat.reduceEqDiff, Nat.reduceAdd, Nat.reduceSub, Nat.reduceMul, Nat.reduceLeDiff, Int.reduceEq, Int.reduceLT, Int.reduceLE, Int.reduceAdd, Int.reduceMul, Int.reduceSub, Int.reduceNeg, Int.reduceToNat, reduceIte, Nat.reduceLT, h0, h1, h5]
      refine fin [] suf _ _ (by simpa using hp) (by simp) hsuf ?_ ?_ ?_
      · simp only [go_sem, reduceCtorEq, Nat.reduceEqDiff, Nat.reduceAdd, Nat.reduceSub, Nat.reduceMul, Nat.reduceLeDiff, Int.reduceEq, Int.reduceLT, Int.reduceLE, Int.reduceAdd, Int.reduceMul, Int.reduceSub, Int.reduceNeg, Int.reduceToNat, reduceIte, Nat.reduceLT, h0]
      · simp only [go_sem, reduceCtorEq, Nat.reduceEqDiff, Nat.reduceAdd, Nat.reduceSub, Nat.reduceMul, Nat.reduceLeDiff, Int.reduceEq, Int.reduceLT, Int.reduceLE, Int.reduceAdd, Int.reduceMul, Int.reduceSub, Int.reduceNeg, Int.reduceToNat, reduceIte, Nat.reduceLT, h1]
      · simp only [go_sem, reduceCtorEq, Nat.reduceEqDiff, Nat.reduceAdd, Nat.reduceSub, Nat.reduceMul, Nat.reduceLeDiff, Int.reduceEq, Int.reduceLT, Int.reduceLE, Int.reduceAdd, Int.reduceMul, Int.reduceSub, Int.reduceNeg, Int.reduceToNat, reduceIte, Nat.reduceLT, h5]
    | cons y pre ih =>
      intro suf e H hp hsuf h0 h1 h5
      have hp' : l = pre.reverse ++ y :: suf := by simpa using hp
      have hr := map_at' (f := iRow) hp'
      have hpos : (0 : Int) < (((y :: pre).length : Nat) : Int) := by simp only [List.length_cons]; omega
      have hpl : pre.length ≤ 1000000 := by unfold Sm at hs; rw [hp'] at hs; simp at hs; omega
      have hw : IntKind.wrap .i64 ((((y :: pre).length : Nat) : Int) - 1) = ((pre.reverse.length : Nat) : Int) := by rw [wrap64 (by simp; omega)]; simp
      simp only [List.length_cons] at h5 hpos hw
      refine run_again ?_
      conv => enter [3, 1]; unfold r7_mark_L0
      simp only [go_sem, reduceCtorEq, Nat.reduceEqDiff, Nat.reduceAdd, Nat.reduceSub, Nat.reduceMul, Nat.reduceLeDiff, Int.reduceEq, Int.reduceLT, Int.reduceLE, Int.reduceAdd, Int.reduceMul, Int.reduceSub, Int.reduceNeg, Int.reduceToNat, reduceIte, Nat.reduceLT, h0, h1, h5, hpos, hw, hr, iRow]
      by_cases hy : x ≤ y
      · simp only [go_sem, reduceCtorEq, Nat.reduceEqDiff, Nat.reduceAdd, Nat.reduceSub, Nat.reduceMul, Nat.reduceLeDiff, Int.reduceEq, Int.reduceLT, Int.reduceLE, Int.reduceAdd, Int.reduceMul, Int.reduceSub, Int.reduceNeg, Int.reduceToNat, reduceIte, Nat.reduceLT, hy, h5, hw]
        refine ih (y :: suf) _ _ hp' (by intro z hz; rcases List.mem_cons.1 hz with rfl | hz; exact Int.not_lt.2 hy; exact hsuf z hz) ?_ ?_ ?_
        · simp only [go_sem, reduceCtorEq, Nat.reduceEqDiff, Nat.reduceAdd, Nat.reduceSub, Nat.reduceMul, Nat.reduceLeDiff, Int.reduceEq, Int.reduceLT, Int.reduceLE, Int.reduceAdd, Int.reduceMul, Int.reduceSub, Int.reduceNeg, Int.reduceToNat, reduceIte, Nat.reduceLT, h0]
        · simp only [go_sem, reduceCtorEq, Nat.reduceEqDiff, Nat.reduceAdd, Nat.reduceSub, Nat.reduceMul, Nat.reduceLeDiff, Int.reduceEq, Int.reduceLT, Int.reduceLE, Int.reduceAdd, Int.reduceMul, Int.reduceSub, Int.reduceNeg, Int.reduceToNat, reduceIte, Nat.reduceLT, h1]
        · simp only [go_sem, reduceCtorEq, Nat.reduceEqDiff, Nat.reduceAdd, Nat.reduceSub, Nat.reduceMul, Nat.reduceLeDiff, Int.reduceEq, Int.reduceLT, Int.reduceLE, Int.reduceAdd, Int.reduceMul, Int.reduceSub, Int.reduceNeg, Int.reduceToNat, reduceIte, Nat.reduceLT, List.length_reverse]
      · simp only [go_sem, reduceCtorEq, Nat.reduceEqDiff, Nat.reduceAdd, Nat.reduceSub, Nat.reduceMul, Nat.reduceLeDiff, Int.reduceEq, Int.reduceLT, Int.reduceLE, Int.reduceAdd, Int.reduceMul, Int.reduceSub, Int.reduceNeg, Int.reduceToNat, reduceIte, Nat.reduceLT, hy]
        have hlt : ∀ z ∈ (y :: pre).reverse, z < x := by
          intro z hz
          have h2 : (pre.reverse ++ [y]).Pairwise (· < ·) := by
            have := hl
            rw [hp] at this
            simpa using (List.pairwise_append.1 this).1
          rw [List.reverse_cons, List.mem_append, List.mem_singleton] at hz
          rcases hz with hz | rfl
          · have := (List.pairwise_append.1 h2).2.2 z hz y (by simp)
            omega
          · omega
        refine fin (y :: pre).reverse suf _ _ hp hlt hsuf ?_ ?_ ?_
        · simp only [go_sem, reduceCtorEq, Nat.reduceEqDiff, Nat.reduceAdd, Nat.reduceSub, Nat.reduceMul, Nat.reduceLeDiff, Int.reduceEq, Int.reduceLT, Int.reduceLE, Int.reduceAdd, Int.reduceMul, Int.reduceSub, Int.reduceNeg, Int.reduceToNat, reduceIte, Nat.reduceLT, h0]
        · simp only [go_sem, reduceCtorEq, Nat.reduceEqDiff, Nat.reduceAdd, Nat.reduceSub, Nat.reduceMul, Nat.reduceLeDiff, Int.reduceEq, Int.reduceLT, Int.reduceLE, Int.reduceAdd, Int.reduceMul, Int.reduceSub, Int.reduceNeg, Int.reduceToNat, reduceIte, Nat.reduceLT, h1]
        · simp only [go_sem, reduceCtorEq, Nat.reduceEqDiff, Nat.reduceAdd, Nat.reduceSub, Nat.reduceMul, Nat.reduceLeDiff, Int.reduceEq, Int.reduceLT, Int.reduceLE, Int.reduceAdd, Int.reduceMul, Int.reduceSub, Int.reduceNeg, Int.reduceToNat, reduceIte, Nat.reduceLT, h5, List.length_reverse, List.length_cons]
  refine loop l.reverse [] _ _ (by simp) (by simp) ?_ ?_ ?_
  · simp only [go_sem, reduceCtorEq, Nat.reduceEqDiff, Nat.reduceAdd, Nat.reduceSub, Nat.reduceMul, Nat.reduceLeDiff, Int.reduceEq, Int.reduceLT, Int.reduceLE, Int.reduceAdd, Int.reduceMul, Int.reduceSub, Int.reduceNeg, Int.reduceToNat, reduceIte, Nat.reduceLT]
  · simp only [go_sem, reduceCtorEq, Nat.reduceEqDiff, Nat.reduceAdd, Nat.reduceSub, Nat.reduceMul, Nat.reduceLeDiff, Int.reduceEq, Int.reduceLT, Int.reduceLE, Int.reduceAdd, Int.reduceMul, Int.reduceSub, Int.reduceNeg, Int.reduceToNat, reduceIte, Nat.reduceLT]
  · simp only [go_sem, reduceCtorEq, Nat.reduceEqDiff, Nat.reduceAdd, Nat.reduceSub, Nat.reduceMul, Nat.reduceLeDiff, Int.reduceEq, Int.reduceLT, Int.reduceLE, Int.reduceAdd, Int.reduceMul, Int.reduceSub, Int.reduceNeg, Int.reduceToNat, reduceIte, Nat.reduceLT, List.length_map, List.length_reverse]

end Go.Proofs.Ytmdblemjlmfbbaa.Eng
