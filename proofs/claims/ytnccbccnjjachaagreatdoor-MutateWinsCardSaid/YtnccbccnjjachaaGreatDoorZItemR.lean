/- Contracts of the document's Items, Insert, Count; whether a text is in a list. No statement of the seat is proved here. -/
import Derived.Test.YtnccbccnjjachaaGreatDoorZPartK
import Derived.Test.YtnccbccnjjachaaGreatDoorZPartH
namespace Go.Proofs.YtnccbccnjjachaaGreatDoor.Eng
open Go
set_option linter.unusedVariables false
set_option linter.unusedSimpArgs false

def txtC (s : ByteArray) : List Cell := [.str s]
def textsC (l : List ByteArray) : Cell := .lst 1 (l.map txtC)
theorem closed_texts (l : List ByteArray) : closedR (l.map txtC) = true := closedR_map (f := txtC) (fun _ => rfl) l
attribute [go_sem] txtC closed_texts
def insT (s : ByteArray) : List ByteArray → List ByteArray
  | [] => [s]
  | x :: r => if Op.bytesLess x.toList s.toList then x :: insT s r else if x = s then x :: r else s :: x :: r
theorem mem_insT {s x : ByteArray} : ∀ {l : List ByteArray}, x ∈ insT s l ↔ x ∈ l ∨ x = s
  | [] => by simp [insT]
  | y :: r => by
    unfold insT
    split
    · simp only [List.mem_cons, mem_insT (l := r)]
      constructor
      · rintro (h | h | h)
        · exact .inl (.inl h)
        · exact .inl (.inr h)
        · exact .inr h
      · rintro ((h | h) | h)
        · exact .inl h
        · exact .inr (.inl h)
        · exact .inr (.inr h)
    · split
      · rename_i h
        subst h
        simp only [List.mem_cons]
        constructor
        · intro h; exact .inl h
        · rintro (h | h)
          · exact h
          · exact .inl h
      · simp only [List.mem_cons]
        constructor
        · rintro (h | h | h)
          · exact .inr h
          · exact .inl (.inl h)
          · exact .inl (.inr h)
        · rintro ((h | h) | h)
          · exact .inr (.inl h)
          · exact .inr (.inr h)
          · exact .inl h
theorem insT_len {s : ByteArray} : ∀ {l : List ByteArray}, (insT s l).length ≤ l.length + 1
  | [] => by simp [insT]
  | x :: r => by
    unfold insT
    split
    · have := insT_len (s := s) (l := r); simp; omega
    · split <;> simp
/-- What stands ahead of a text. -/
theorem insT_split {s : ByteArray} : ∀ {pre rest : List ByteArray}, (∀ x ∈ pre, Op.bytesLess x.toList s.toList = true) → insT s (pre ++ rest) = pre ++ insT s rest
  | [], rest, _ => rfl
  | x :: pre, rest, h => by
    rw [List.cons_append, insT, if_pos (h x (by simp)), insT_split fun y hy => h y (by simp [hy])]
    rfl

theorem r7_Insert_ok (l : List ByteArray) (s : ByteArray) (hs : l.length ≤ 1000000) : Pr 39 [.c (textsC l), sC s] (.c (textsC (insT s l))) := by
  refine pure_ofW mixed is_r7_Insert (by simp [closedAs, closedA, closedC, textsC, closed_texts]) fun _ T => ?_
  unfold c_r7_Insert
  dsimp only [textsC]
  generalize hv : insT s l = v
  have hmax : l.length ≤ maxLen := by unfold maxLen; omega
  simp only [go_sem, reduceCtorEq, Nat.reduceEqDiff, Nat.reduceAdd, Nat.reduceSub, Nat.reduceMul, Nat.reduceLeDiff, Int.reduceEq, Int.reduceLT, Int.reduceLE, Int.reduceAdd, Int.reduceMul, Int.reduceSub, Int.reduceNeg, Int.reduceToNat, reduceIte, Nat.reduceLT]
  have loop : ∀ (rest pre : List ByteArray) (e : Env) (H : Heap), l = pre ++ rest → (∀ x ∈ pre, Op.bytesLess x.toList s.toList = true) → e 0 = .c (.lst 1 (l.map txtC)) → e 1 = sC s → e 5 = iC pre.length →
      Run (progT Tryz.prog T) ⟨[.tmp 4], fun u E => viewW E u (.c (.lst 1 (v.map txtC)))⟩ [.loop r7_Insert_L0, .blk 0, .code r7_Insert_K1] e H := by
    intro rest
    induction rest with
    | nil =>
      intro pre e H hp hlt h0 h1 h5
      have hc := not_lt_at (f := txtC) hp
      have hvv : v = pre ++ [s] := by rw [← hv, hp, insT_split hlt]; rfl
      have hpl : pre.length = l.length := by rw [hp]; simp
      have htk : (l.map txtC).take pre.length = l.map txtC := List.take_of_length_le (by simp; omega)
      have hdr : (l.map txtC).drop pre.length = [] := List.drop_eq_nil_of_le (by simp; omega)
      have hle : pre.length ≤ (l.map txtC).length := by simp; omega
      have hz : ∀ y H, vAppZ 1 16 (.c (.zer 1)) y H = vApp 1 16 (.c (.zer 1)) y H := fun y H => by cases y <;> rfl
      refine run_again ?_
      conv => enter [3, 1]; unfold r7_Insert_L0
      simp only [go_sem, reduceCtorEq, Nat.reduceEqDiff, Nat.reduceAdd, Nat.reduceSub, Nat.reduceMul, Nat.reduceLeDiff, Int.reduceEq, Int.reduceLT, Int.reduceLE, Int.reduceAdd, Int.reduceMul, Int.reduceSub, Int.reduceNeg, Int.reduceToNat, reduceIte, Nat.reduceLT, h0, h1, h5, hc]
      unfold r7_Insert_K1
      simp only [go_sem, reduceCtorEq, Nat.reduceEqDiff, Nat.reduceAdd, Nat.reduceSub, Nat.reduceMul, Nat.reduceLeDiff, Int.reduceEq, Int.reduceLT, Int.reduceLE, Int.reduceAdd, Int.reduceMul, Int.reduceSub, Int.reduceNeg, Int.reduceToNat, reduceIte, Nat.reduceLT, h0, h1, h5, hc]
      rw [vSl_lst_hi (ik := .i64) (q := pre.length) (by simp only [go_sem, reduceCtorEq, Nat.reduceEqDiff, Nat.reduceAdd, Nat.reduceSub, Nat.reduceMul, Nat.reduceLeDiff, Int.reduceEq, Int.reduceLT, Int.reduceLE, Int.reduceAdd, Int.reduceMul, Int.reduceSub, Int.reduceNeg, Int.reduceToNat, reduceIte, Nat.reduceLT, h5]) hle]
      simp only [go_sem, reduceCtorEq, Nat.reduceEqDiff, Nat.reduceAdd, Nat.reduceSub, Nat.reduceMul, Nat.reduceLeDiff, Int.reduceEq, Int.reduceLT, Int.reduceLE, Int.reduceAdd, Int.reduceMul, Int.reduceSub, Int.reduceNeg, Int.reduceToNat, reduceIte, Nat.reduceLT, htk, hz]
      refine (show Acc 1 [] (.c (.zer 1)) _ from .inl ⟨rfl, .inr rfl⟩).app_step (by simp; omega) fun v1 H1 a1 => ?_
      simp only [go_sem, reduceCtorEq, Nat.reduceEqDiff, Nat.reduceAdd, Nat.reduceSub, Nat.reduceMul, Nat.reduceLeDiff, Int.reduceEq, Int.reduceLT, Int.reduceLE, Int.reduceAdd, Int.reduceMul, Int.reduceSub, Int.reduceNeg, Int.reduceToNat, reduceIte, Nat.reduceLT, h0, h1, h5]
      refine a1.app_step (by simp; omega) fun v2 H2 a2 => ?_
      simp only [go_sem, reduceCtorEq, Nat.reduceEqDiff, Nat.reduceAdd, Nat.reduceSub, Nat.reduceMul, Nat.reduceLeDiff, Int.reduceEq, Int.reduceLT, Int.reduceLE, Int.reduceAdd, Int.reduceMul, Int.reduceSub, Int.reduceNeg, Int.reduceToNat, reduceIte, Nat.reduceLT, h0, h1, h5]
      rw [vSl_lst_lo (ik := .i64) (q := pre.length) (by simp only [go_sem, reduceCtorEq, Nat.reduceEqDiff, Nat.reduceAdd, Nat.reduceSub, Nat.reduceMul, Nat.reduceLeDiff, Int.reduceEq, Int.reduceLT, Int.reduceLE, Int.reduceAdd, Int.reduceMul, Int.reduceSub, Int.reduceNeg, Int.reduceToNat, reduceIte, Nat.reduceLT, h5]) hle]
      simp only [go_sem, reduceCtorEq, Nat.reduceEqDiff, Nat.reduceAdd, Nat.reduceSub, Nat.reduceMul, Nat.reduceLeDiff, Int.reduceEq, Int.reduceLT, Int.reduceLE, Int.reduceAdd, Int.reduceMul, Int.reduceSub, Int.reduceNeg, Int.reduceToNat, reduceIte, Nat.reduceLT, hdr]
      refine a2.app_step (by simp; omega) fun v3 H3 a3 => ?_
      simp only [go_sem, reduceCtorEq, Nat.reduceEqDiff, Nat.reduceAdd, Nat.reduceSub, Nat.reduceMul, Nat.reduceLeDiff, Int.reduceEq, Int.reduceLT, Int.reduceLE, Int.reduceAdd, Int.reduceMul, Int.reduceSub, Int.reduceNeg, Int.reduceToNat, reduceIte, Nat.reduceLT]
      have := a3.told (by
        have e : [] ++ l.map txtC ++ [[Cell.str s]] ++ [] = v.map txtC := by rw [hvv, hp]; simp [txtC]
        rw [e]; exact closed_texts v)
      have e : [] ++ l.map txtC ++ [[Cell.str s]] ++ [] = v.map txtC := by rw [hvv, hp]; simp [txtC]
      rw [e] at this
      exact this
    | cons x rest ih =>
      intro pre e H hp hlt h0 h1 h5
      have hc := lt_at (f := txtC) hp
      have hx := map_at' (f := txtC) hp
      have hn := next_at hp hmax
      have hpl : pre.length < l.length := by rw [hp]; simp
      refine run_again ?_
      conv => enter [3, 1]; unfold r7_Insert_L0
      cases hb : Op.bytesLess x.toList s.toList with
      | true =>
        simp only [go_sem, reduceCtorEq, Nat.reduceEqDiff, Nat.reduceAdd, Nat.reduceSub, Nat.reduceMul, Nat.reduceLeDiff, Int.reduceEq, Int.reduceLT, Int.reduceLE, Int.reduceAdd, Int.reduceMul, Int.reduceSub, Int.reduceNeg, Int.reduceToNat, reduceIte, Nat.reduceLT, h0, h1, h5, hc, hx, hb, hn]
        refine ih (pre ++ [x]) _ _ (by simp [hp]) (fun y hy => ?_) ?_ ?_ ?_
        · rcases List.mem_append.1 hy with h | h
          · exact hlt y h
          · rw [List.mem_singleton.1 h]; exact hb
        all_goals simp only [go_sem, reduceCtorEq, Nat.reduceEqDiff, Nat.reduceAdd, Nat.reduceSub, Nat.reduceMul, Nat.reduceLeDiff, Int.reduceEq, Int.reduceLT, Int.reduceLE, Int.reduceAdd, Int.reduceMul, Int.reduceSub, Int.reduceNeg, Int.reduceToNat, reduceIte, Nat.reduceLT, h0, h1, hn]
      | false =>
        have hle : pre.length ≤ (l.map txtC).length := by simp; omega
        have hz : ∀ y H, vAppZ 1 16 (.c (.zer 1)) y H = vApp 1 16 (.c (.zer 1)) y H := fun y H => by cases y <;> rfl
        simp only [go_sem, reduceCtorEq, Nat.reduceEqDiff, Nat.reduceAdd, Nat.reduceSub, Nat.reduceMul, Nat.reduceLeDiff, Int.reduceEq, Int.reduceLT, Int.reduceLE, Int.reduceAdd, Int.reduceMul, Int.reduceSub, Int.reduceNeg, Int.reduceToNat, reduceIte, Nat.reduceLT, h0, h1, h5, hc, hx, hb]
        unfold r7_Insert_K1
        by_cases hxs : x = s
        · have hvv : v = l := by rw [← hv, hp, insT_split hlt, insT, if_neg (by simp [hb]), if_pos hxs]
          simp only [go_sem, reduceCtorEq, Nat.reduceEqDiff, Nat.reduceAdd, Nat.reduceSub, Nat.reduceMul, Nat.reduceLeDiff, Int.reduceEq, Int.reduceLT, Int.reduceLE, Int.reduceAdd, Int.reduceMul, Int.reduceSub, Int.reduceNeg, Int.reduceToNat, reduceIte, Nat.reduceLT, h0, h1, h5, hc, hx, hxs]
          rw [hvv]
          exact ⟨_, by simp [viewA, viewFn, viewC, viewFs, viewCs, viewAs, closedC, closedCs, closed_texts], .same _⟩
        · have hvv : v = pre ++ s :: x :: rest := by rw [← hv, hp, insT_split hlt, insT, if_neg (by simp [hb]), if_neg hxs]
          simp only [go_sem, reduceCtorEq, Nat.reduceEqDiff, Nat.reduceAdd, Nat.reduceSub, Nat.reduceMul, Nat.reduceLeDiff, Int.reduceEq, Int.reduceLT, Int.reduceLE, Int.reduceAdd, Int.reduceMul, Int.reduceSub, Int.reduceNeg, Int.reduceToNat, reduceIte, Nat.reduceLT, h0, h1, h5, hc, hx, hxs]
          rw [vSl_lst_hi (ik := .i64) (q := pre.length) (by simp only [go_sem, reduceCtorEq, Nat.reduceEqDiff, Nat.reduceAdd, Nat.reduceSub, Nat.reduceMul, Nat.reduceLeDiff, Int.reduceEq, Int.reduceLT, Int.reduceLE, Int.reduceAdd, Int.reduceMul, Int.reduceSub, Int.reduceNeg, Int.reduceToNat, reduceIte, Nat.reduceLT, h5]) hle]
          simp only [go_sem, reduceCtorEq, Nat.reduceEqDiff, Nat.reduceAdd, Nat.reduceSub, Nat.reduceMul, Nat.reduceLeDiff, Int.reduceEq, Int.reduceLT, Int.reduceLE, Int.reduceAdd, Int.reduceMul, Int.reduceSub, Int.reduceNeg, Int.reduceToNat, reduceIte, Nat.reduceLT, hz]
          refine (show Acc 1 [] (.c (.zer 1)) _ from .inl ⟨rfl, .inr rfl⟩).app_step (by simp; omega) fun v1 H1 a1 => ?_
          simp only [go_sem, reduceCtorEq, Nat.reduceEqDiff, Nat.reduceAdd, Nat.reduceSub, Nat.reduceMul, Nat.reduceLeDiff, Int.reduceEq, Int.reduceLT, Int.reduceLE, Int.reduceAdd, Int.reduceMul, Int.reduceSub, Int.reduceNeg, Int.reduceToNat, reduceIte, Nat.reduceLT, h0, h1, h5]
          refine a1.app_step (by simp; omega) fun v2 H2 a2 => ?_
          simp only [go_sem, reduceCtorEq, Nat.reduceEqDiff, Nat.reduceAdd, Nat.reduceSub, Nat.reduceMul, Nat.reduceLeDiff, Int.reduceEq, Int.reduceLT, Int.reduceLE, Int.reduceAdd, Int.reduceMul, Int.reduceSub, Int.reduceNeg, Int.reduceToNat, reduceIte, Nat.reduceLT, h0, h1, h5]
          rw [vSl_lst_lo (ik := .i64) (q := pre.length) (by simp only [go_sem, reduceCtorEq, Nat.reduceEqDiff, Nat.reduceAdd, Nat.reduceSub, Nat.reduceMul, Nat.reduceLeDiff, Int.reduceEq, Int.reduceLT, Int.reduceLE, Int.reduceAdd, Int.reduceMul, Int.reduceSub, Int.reduceNeg, Int.reduceToNat, reduceIte, Nat.reduceLT, h5]) hle]
          simp only [go_sem, reduceCtorEq, Nat.reduceEqDiff, Nat.reduceAdd, Nat.reduceSub, Nat.reduceMul, Nat.reduceLeDiff, Int.reduceEq, Int.reduceLT, Int.reduceLE, Int.reduceAdd, Int.reduceMul, Int.reduceSub, Int.reduceNeg, Int.reduceToNat, reduceIte, Nat.reduceLT]
          refine a2.app_step (by simp; omega) fun v3 H3 a3 => ?_
          simp only [go_sem, reduceCtorEq, Nat.reduceEqDiff, Nat.reduceAdd, Nat.reduceSub, Nat.reduceMul, Nat.reduceLeDiff, Int.reduceEq, Int.reduceLT, Int.reduceLE, Int.reduceAdd, Int.reduceMul, Int.reduceSub, Int.reduceNeg, Int.reduceToNat, reduceIte, Nat.reduceLT]
          have e : [] ++ (l.map txtC).take pre.length ++ [[Cell.str s]] ++ (l.map txtC).drop pre.length = v.map txtC := by
            rw [hvv, hp]
            simp [txtC, List.take_append_of_le_length, List.drop_append_of_le_length]
          have := a3.told (by rw [e]; exact closed_texts v)
          rw [e] at this
          exact this
  refine loop l [] _ _ rfl (by simp) ?_ ?_ ?_
  all_goals simp only [go_sem, reduceCtorEq, Nat.reduceEqDiff, Nat.reduceAdd, Nat.reduceSub, Nat.reduceMul, Nat.reduceLeDiff, Int.reduceEq, Int.reduceLT, Int.reduceLE, Int.reduceAdd, Int.reduceMul, Int.reduceSub, Int.reduceNeg, Int.reduceToNat, reduceIte, Nat.reduceLT, List.length_nil, Int.natCast_zero]

end Go.Proofs.YtnccbccnjjachaaGreatDoor.Eng
