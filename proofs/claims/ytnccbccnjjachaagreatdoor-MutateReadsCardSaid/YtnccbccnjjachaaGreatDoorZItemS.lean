/- Contracts of the document's Items, Count; whether a text is in a list; two lists of texts. No statement of the seat is proved here. -/
import Derived.Test.YtnccbccnjjachaaGreatDoorZItemR
import Derived.Test.YtnccbccnjjachaaGreatDoorZPartK
import Derived.Test.YtnccbccnjjachaaGreatDoorZJoinR0
namespace Go.Proofs.YtnccbccnjjachaaGreatDoor.Eng
open Go
set_option linter.unusedVariables false
set_option linter.unusedSimpArgs false

def itemsOf (l : List Fact) : List ByteArray := l.foldl (fun a f => insT f.item a) []
def itemsL (s : State) (key : ByteArray) (kind : Int) : List ByteArray := itemsOf (s.facts.filter (Fact.of key kind))
theorem mem_itemsFrom {x : ByteArray} : ∀ {l : List Fact} {a : List ByteArray}, x ∈ l.foldl (fun a f => insT f.item a) a ↔ x ∈ a ∨ ∃ f ∈ l, f.item = x
  | [], a => by simp
  | f :: l, a => by
    rw [List.foldl_cons, mem_itemsFrom, mem_insT]
    simp only [List.mem_cons, exists_eq_or_imp]
    constructor
    · rintro ((h | h) | h)
      · exact .inl h
      · exact .inr (.inl h.symm)
      · exact .inr (.inr h)
    · rintro (h | h | h)
      · exact .inl (.inl h)
      · exact .inl (.inr h.symm)
      · exact .inr h
theorem mem_itemsL {x key : ByteArray} {s : State} {kind : Int} : x ∈ itemsL s key kind ↔ ∃ f ∈ s.facts, Fact.of key kind f = true ∧ f.item = x := by
  unfold itemsL itemsOf
  rw [mem_itemsFrom]
  simp only [List.not_mem_nil, false_or, List.mem_filter]
  constructor
  · rintro ⟨f, ⟨h1, h2⟩, h3⟩; exact ⟨f, h1, h2, h3⟩
  · rintro ⟨f, h1, h2, h3⟩; exact ⟨f, ⟨h1, h2⟩, h3⟩
theorem items_len : ∀ {l : List Fact} {a : List ByteArray}, (l.foldl (fun a f => insT f.item a) a).length ≤ a.length + l.length
  | [], a => by simp
  | f :: l, a => by
    rw [List.foldl_cons]
    have := items_len (l := l) (a := insT f.item a)
    have := insT_len (s := f.item) (l := a)
    simp only [List.length_cons]
    omega

theorem r7_Items_ok (s : State) (key : ByteArray) (kind : Int) (hs : s.facts.length ≤ 100000) : Pr 21 [.agg s.cells, sC key, iC kind] (.c (textsC (itemsL s key kind))) := by
  refine pure_ofW mixed is_r7_Items (by simp [closedAs, closedA, closedC, State.closed]) fun _ T => ?_
  have hf := r7_Find_ok s key kind (by omega)
  have hfl : (s.facts.filter (Fact.of key kind)).length ≤ 100000 := Nat.le_trans (List.length_filter_le _ _) hs
  unfold c_r7_Items itemsL
  generalize s.facts.filter (Fact.of key kind) = l at *
  have hmax : l.length ≤ maxLen := by unfold maxLen; omega
  dsimp only [textsC]
  generalize hv : itemsOf l = v
  unfold itemsOf at hv
  simp only [go_sem, reduceCtorEq, Nat.reduceEqDiff, Nat.reduceAdd, Nat.reduceSub, Nat.reduceMul, Nat.reduceLeDiff, Int.reduceEq, Int.reduceLT, Int.reduceLE, Int.reduceAdd, Int.reduceMul, Int.reduceSub, Int.reduceNeg, Int.reduceToNat, reduceIte, Nat.reduceLT, closed_runs, closed_facts]
  refine callW_pure hf ?_
  simp only [go_sem, reduceCtorEq, Nat.reduceEqDiff, Nat.reduceAdd, Nat.reduceSub, Nat.reduceMul, Nat.reduceLeDiff, Int.reduceEq, Int.reduceLT, Int.reduceLE, Int.reduceAdd, Int.reduceMul, Int.reduceSub, Int.reduceNeg, Int.reduceToNat, reduceIte, Nat.reduceLT]
  have loop : ∀ (rest pre : List Fact) (out : List ByteArray) (c : Cell) (e : Env) (H : Heap), l = pre ++ rest → (c = .lst 1 (out.map txtC) ∨ (c = .nilS ∧ out = [])) → e 7 = .c c → e 8 = .c (.lst 6 (l.map Fact.cells)) → e 9 = iC pre.length → out.length ≤ pre.length →
      rest.foldl (fun a f => insT f.item a) out = v → Run (progT Tryz.prog T) ⟨[.tmp 6], fun u E => viewW E u (.c (.lst 1 (v.map txtC)))⟩ [.loop r7_Items_L0, .blk 0, .code r7_Items_K1] e H := by
    intro rest
    induction rest with
    | nil =>
      intro pre out c e H hp hcc h7 h8 h9 ho hm
      have hc := not_lt_at (f := Fact.cells) hp
      refine run_again ?_
      conv => enter [3, 1]; unfold r7_Items_L0
      simp only [go_sem, reduceCtorEq, Nat.reduceEqDiff, Nat.reduceAdd, Nat.reduceSub, Nat.reduceMul, Nat.reduceLeDiff, Int.reduceEq, Int.reduceLT, Int.reduceLE, Int.reduceAdd, Int.reduceMul, Int.reduceSub, Int.reduceNeg, Int.reduceToNat, reduceIte, Nat.reduceLT, h8, h9, hc]
      unfold r7_Items_K1
      simp only [go_sem, reduceCtorEq, Nat.reduceEqDiff, Nat.reduceAdd, Nat.reduceSub, Nat.reduceMul, Nat.reduceLeDiff, Int.reduceEq, Int.reduceLT, Int.reduceLE, Int.reduceAdd, Int.reduceMul, Int.reduceSub, Int.reduceNeg, Int.reduceToNat, reduceIte, Nat.reduceLT, h7]
      have hov : out = v := hm
      subst hov
      rcases hcc with rfl | ⟨rfl, rfl⟩
      · exact ⟨_, by simp [viewA, viewFn, viewC, viewFs, viewCs, viewAs, closedC, closedCs, closed_texts], .same _⟩
      · exact ⟨_, rfl, .c (.nilS _)⟩
    | cons r rest ih =>
      intro pre out c e H hp hcc h7 h8 h9 ho hm
      have hc := lt_at (f := Fact.cells) hp
      have hx := map_at' (f := Fact.cells) hp
      have hn := next_at hp hmax
      have hpl : pre.length < l.length := by rw [hp]; simp
      have hi := r7_Insert_ok out r.item (by omega)
      have hi' : Pr 39 [.c c, sC r.item] (.c (textsC (insT r.item out))) := by
        rcases hcc with rfl | ⟨rfl, rfl⟩
        · exact hi
        · exact hi.wk (.cons (.c (.nilS _)) (.cons (.same _) .nil))
      refine run_again ?_
      conv => enter [3, 1]; unfold r7_Items_L0
      simp only [go_sem, reduceCtorEq, Nat.reduceEqDiff, Nat.reduceAdd, Nat.reduceSub, Nat.reduceMul, Nat.reduceLeDiff, Int.reduceEq, Int.reduceLT, Int.reduceLE, Int.reduceAdd, Int.reduceMul, Int.reduceSub, Int.reduceNeg, Int.reduceToNat, reduceIte, Nat.reduceLT, h7, h8, h9, hc, hx]
      refine callW_pure hi' ?_
      simp only [go_sem, reduceCtorEq, Nat.reduceEqDiff, Nat.reduceAdd, Nat.reduceSub, Nat.reduceMul, Nat.reduceLeDiff, Int.reduceEq, Int.reduceLT, Int.reduceLE, Int.reduceAdd, Int.reduceMul, Int.reduceSub, Int.reduceNeg, Int.reduceToNat, reduceIte, Nat.reduceLT, h9, hn]
      refine ih (pre ++ [r]) (insT r.item out) _ _ _ (by simp [hp]) (.inl rfl) ?_ ?_ ?_ (by have := insT_len (s := r.item) (l := out); simp; omega) hm
      · simp only [go_sem, reduceCtorEq, Nat.reduceEqDiff, Nat.reduceAdd, Nat.reduceSub, Nat.reduceMul, Nat.reduceLeDiff, Int.reduceEq, Int.reduceLT, Int.reduceLE, Int.reduceAdd, Int.reduceMul, Int.reduceSub, Int.reduceNeg, Int.reduceToNat, reduceIte, Nat.reduceLT, textsC]
      all_goals simp only [go_sem, reduceCtorEq, Nat.reduceEqDiff, Nat.reduceAdd, Nat.reduceSub, Nat.reduceMul, Nat.reduceLeDiff, Int.reduceEq, Int.reduceLT, Int.reduceLE, Int.reduceAdd, Int.reduceMul, Int.reduceSub, Int.reduceNeg, Int.reduceToNat, reduceIte, Nat.reduceLT, h8, hn]
  refine loop l [] [] _ _ _ rfl (.inr ⟨rfl, rfl⟩) ?_ ?_ ?_ (Nat.le_refl _) hv
  all_goals simp only [go_sem, reduceCtorEq, Nat.reduceEqDiff, Nat.reduceAdd, Nat.reduceSub, Nat.reduceMul, Nat.reduceLeDiff, Int.reduceEq, Int.reduceLT, Int.reduceLE, Int.reduceAdd, Int.reduceMul, Int.reduceSub, Int.reduceNeg, Int.reduceToNat, reduceIte, Nat.reduceLT, List.length_nil, Int.natCast_zero]

def inT (l : List ByteArray) (s : ByteArray) : Bool := l.any fun x => decide (x = s)
theorem inT_iff {l : List ByteArray} {s : ByteArray} : inT l s = true ↔ s ∈ l := by simp [inT]
theorem l11_in_ok (l : List ByteArray) (s : ByteArray) (hs : l.length ≤ 1000000) : Pr 20 [.c (textsC l), sC s] (bC (inT l s)) := by
  refine pure_of mixed is_l11_in (by simp [closedAs, closedA, closedC, textsC, closed_texts]) fun _ T => ?_
  have hmax : l.length ≤ maxLen := by unfold maxLen; omega
  unfold c_l11_in
  dsimp only [textsC]
  simp only [go_sem, reduceCtorEq, Nat.reduceEqDiff, Nat.reduceAdd, Nat.reduceSub, Nat.reduceMul, Nat.reduceLeDiff, Int.reduceEq, Int.reduceLT, Int.reduceLE, Int.reduceAdd, Int.reduceMul, Int.reduceSub, Int.reduceNeg, Int.reduceToNat, reduceIte, Nat.reduceLT]
  have loop : ∀ (rest pre : List ByteArray) (e : Env) (H : Heap), l = pre ++ rest → s ∉ pre → e 0 = .c (.lst 1 (l.map txtC)) → e 1 = sC s → e 5 = iC pre.length →
      Run (progT Tryz.prog T) ⟨[.tmp 4], fun u E => viewA E u = some (bC (inT l s))⟩ [.loop l11_in_L0, .blk 0, .code l11_in_K1] e H := by
    intro rest
    induction rest with
    | nil =>
      intro pre e H hp hno h0 h1 h5
      have hc := not_lt_at (f := txtC) hp
      refine run_again ?_
      conv => enter [3, 1]; unfold l11_in_L0
      simp only [go_sem, reduceCtorEq, Nat.reduceEqDiff, Nat.reduceAdd, Nat.reduceSub, Nat.reduceMul, Nat.reduceLeDiff, Int.reduceEq, Int.reduceLT, Int.reduceLE, Int.reduceAdd, Int.reduceMul, Int.reduceSub, Int.reduceNeg, Int.reduceToNat, reduceIte, Nat.reduceLT, h0, h5, hc]
      unfold l11_in_K1
      simp only [go_sem, reduceCtorEq, Nat.reduceEqDiff, Nat.reduceAdd, Nat.reduceSub, Nat.reduceMul, Nat.reduceLeDiff, Int.reduceEq, Int.reduceLT, Int.reduceLE, Int.reduceAdd, Int.reduceMul, Int.reduceSub, Int.reduceNeg, Int.reduceToNat, reduceIte, Nat.reduceLT]
      have : inT l s = false := by
        cases h : inT l s with
        | false => rfl
        | true => exact absurd (inT_iff.1 h) (by rw [hp, List.append_nil]; exact hno)
      simp [viewA, viewFn, viewC, viewFs, viewCs, viewAs, closedC, closedCs, this]
    | cons x rest ih =>
      intro pre e H hp hno h0 h1 h5
      have hc := lt_at (f := txtC) hp
      have hx := map_at' (f := txtC) hp
      have hn := next_at hp hmax
      refine run_again ?_
      conv => enter [3, 1]; unfold l11_in_L0
      by_cases hxs : x = s
      · simp only [go_sem, reduceCtorEq, Nat.reduceEqDiff, Nat.reduceAdd, Nat.reduceSub, Nat.reduceMul, Nat.reduceLeDiff, Int.reduceEq, Int.reduceLT, Int.reduceLE, Int.reduceAdd, Int.reduceMul, Int.reduceSub, Int.reduceNeg, Int.reduceToNat, reduceIte, Nat.reduceLT, h0, h1, h5, hc, hx, hxs]
        have : inT l s = true := inT_iff.2 (by rw [hp, ← hxs]; simp)
        simp [viewA, viewFn, viewC, viewFs, viewCs, viewAs, closedC, closedCs, this]
      · simp only [go_sem, reduceCtorEq, Nat.reduceEqDiff, Nat.reduceAdd, Nat.reduceSub, Nat.reduceMul, Nat.reduceLeDiff, Int.reduceEq, Int.reduceLT, Int.reduceLE, Int.reduceAdd, Int.reduceMul, Int.reduceSub, Int.reduceNeg, Int.reduceToNat, reduceIte, Nat.reduceLT, h0, h1, h5, hc, hx, hxs, hn]
        refine ih (pre ++ [x]) _ _ (by simp [hp]) (fun h => ?_) ?_ ?_ ?_
        · rcases List.mem_append.1 h with h | h
          · exact hno h
          · exact hxs (List.mem_singleton.1 h).symm
        all_goals simp only [go_sem, reduceCtorEq, Nat.reduceEqDiff, Nat.reduceAdd, Nat.reduceSub, Nat.reduceMul, Nat.reduceLeDiff, Int.reduceEq, Int.reduceLT, Int.reduceLE, Int.reduceAdd, Int.reduceMul, Int.reduceSub, Int.reduceNeg, Int.reduceToNat, reduceIte, Nat.reduceLT, h0, h1, hn]
  refine loop l [] _ _ rfl (by simp) ?_ ?_ ?_
  all_goals simp only [go_sem, reduceCtorEq, Nat.reduceEqDiff, Nat.reduceAdd, Nat.reduceSub, Nat.reduceMul, Nat.reduceLeDiff, Int.reduceEq, Int.reduceLT, Int.reduceLE, Int.reduceAdd, Int.reduceMul, Int.reduceSub, Int.reduceNeg, Int.reduceToNat, reduceIte, Nat.reduceLT, List.length_nil, Int.natCast_zero]

theorem r7_Count_ok (s : State) (key : ByteArray) (hs : s.facts.length ≤ 100000) : Pr 24 [.agg s.cells, sC key] (iC (sumUp 0 (s.facts.filter (Fact.of key 3)))) := by
  refine pure_of mixed is_r7_Count (by simp [closedAs, closedA, closedC, State.closed]) fun _ T => ?_
  have hf := r7_Find_ok s key 3 (by omega)
  have hfl : (s.facts.filter (Fact.of key 3)).length ≤ 100000 := Nat.le_trans (List.length_filter_le _ _) hs
  unfold c_r7_Count
  generalize s.facts.filter (Fact.of key 3) = l at *
  have hmax : l.length ≤ maxLen := by unfold maxLen; omega
  generalize hv : sumUp 0 l = v
  simp only [go_sem, reduceCtorEq, Nat.reduceEqDiff, Nat.reduceAdd, Nat.reduceSub, Nat.reduceMul, Nat.reduceLeDiff, Int.reduceEq, Int.reduceLT, Int.reduceLE, Int.reduceAdd, Int.reduceMul, Int.reduceSub, Int.reduceNeg, Int.reduceToNat, reduceIte, Nat.reduceLT, closed_runs, closed_facts]
  refine callW_pure hf ?_
  simp only [go_sem, reduceCtorEq, Nat.reduceEqDiff, Nat.reduceAdd, Nat.reduceSub, Nat.reduceMul, Nat.reduceLeDiff, Int.reduceEq, Int.reduceLT, Int.reduceLE, Int.reduceAdd, Int.reduceMul, Int.reduceSub, Int.reduceNeg, Int.reduceToNat, reduceIte, Nat.reduceLT]
  have loop : ∀ (rest pre : List Fact) (x : Int) (e : Env) (H : Heap), l = pre ++ rest → e 5 = iC x → e 6 = .c (.lst 6 (l.map Fact.cells)) → e 7 = iC pre.length → sumUp x rest = v →
      Run (progT Tryz.prog T) ⟨[.tmp 4], fun u E => viewA E u = some (iC v)⟩ [.loop r7_Count_L0, .blk 0, .code r7_Count_K1] e H := by
    intro rest
    induction rest with
    | nil =>
      intro pre x e H hp h5 h6 h7 hm
      have hc := not_lt_at (f := Fact.cells) hp
      refine run_again ?_
      conv => enter [3, 1]; unfold r7_Count_L0
      simp only [go_sem, reduceCtorEq, Nat.reduceEqDiff, Nat.reduceAdd, Nat.reduceSub, Nat.reduceMul, Nat.reduceLeDiff, Int.reduceEq, Int.reduceLT, Int.reduceLE, Int.reduceAdd, Int.reduceMul, Int.reduceSub, Int.reduceNeg, Int.reduceToNat, reduceIte, Nat.reduceLT, h6, h7, hc]
      unfold r7_Count_K1
      simp only [go_sem, reduceCtorEq, Nat.reduceEqDiff, Nat.reduceAdd, Nat.reduceSub, Nat.reduceMul, Nat.reduceLeDiff, Int.reduceEq, Int.reduceLT, Int.reduceLE, Int.reduceAdd, Int.reduceMul, Int.reduceSub, Int.reduceNeg, Int.reduceToNat, reduceIte, Nat.reduceLT, h5]
      have hxv : x = v := hm
      simp [viewA, viewFn, viewC, viewFs, viewCs, viewAs, closedC, closedCs, hxv]
    | cons r rest ih =>
      intro pre x e H hp h5 h6 h7 hm
      have hc := lt_at (f := Fact.cells) hp
      have hx := map_at' (f := Fact.cells) hp
      have hn := next_at hp hmax
      refine run_again ?_
      conv => enter [3, 1]; unfold r7_Count_L0
      simp only [go_sem, reduceCtorEq, Nat.reduceEqDiff, Nat.reduceAdd, Nat.reduceSub, Nat.reduceMul, Nat.reduceLeDiff, Int.reduceEq, Int.reduceLT, Int.reduceLE, Int.reduceAdd, Int.reduceMul, Int.reduceSub, Int.reduceNeg, Int.reduceToNat, reduceIte, Nat.reduceLT, h5, h6, h7, hc, hx, hn]
      refine ih (pre ++ [r]) (W (x + r.num)) _ _ (by simp [hp]) ?_ ?_ ?_ hm
      all_goals simp only [go_sem, reduceCtorEq, Nat.reduceEqDiff, Nat.reduceAdd, Nat.reduceSub, Nat.reduceMul, Nat.reduceLeDiff, Int.reduceEq, Int.reduceLT, Int.reduceLE, Int.reduceAdd, Int.reduceMul, Int.reduceSub, Int.reduceNeg, Int.reduceToNat, reduceIte, Nat.reduceLT, h6, hn]
  refine loop l [] 0 _ _ rfl ?_ ?_ ?_ hv
  all_goals simp only [go_sem, reduceCtorEq, Nat.reduceEqDiff, Nat.reduceAdd, Nat.reduceSub, Nat.reduceMul, Nat.reduceLeDiff, Int.reduceEq, Int.reduceLT, Int.reduceLE, Int.reduceAdd, Int.reduceMul, Int.reduceSub, Int.reduceNeg, Int.reduceToNat, reduceIte, Nat.reduceLT, List.length_nil, Int.natCast_zero]

theorem r1_SameTexts_ok (l : List ByteArray) (hs : l.length ≤ 1000000) : Pr 27 [.c (textsC l), .c (textsC l)] (bC true) := by
  refine pure_of mixed is_r1_SameTexts (by simp [closedAs, closedA, closedC, textsC, closed_texts]) fun _ T => ?_
  have hmax : l.length ≤ maxLen := by unfold maxLen; omega
  unfold c_r1_SameTexts
  dsimp only [textsC]
  simp only [go_sem, reduceCtorEq, Nat.reduceEqDiff, Nat.reduceAdd, Nat.reduceSub, Nat.reduceMul, Nat.reduceLeDiff, Int.reduceEq, Int.reduceLT, Int.reduceLE, Int.reduceAdd, Int.reduceMul, Int.reduceSub, Int.reduceNeg, Int.reduceToNat, reduceIte, Nat.reduceLT]
  have loop : ∀ (rest pre : List ByteArray) (e : Env) (H : Heap), l = pre ++ rest → e 0 = .c (.lst 1 (l.map txtC)) → e 1 = .c (.lst 1 (l.map txtC)) → e 5 = iC pre.length →
      Run (progT Tryz.prog T) ⟨[.tmp 4], fun u E => viewA E u = some (bC true)⟩ [.loop r1_SameTexts_L0, .blk 0, .code r1_SameTexts_K1] e H := by
    intro rest
    induction rest with
    | nil =>
      intro pre e H hp h0 h1 h5
      have hc := not_lt_at (f := txtC) hp
      refine run_again ?_
      conv => enter [3, 1]; unfold r1_SameTexts_L0
      simp only [go_sem, reduceCtorEq, Nat.reduceEqDiff, Nat.reduceAdd, Nat.reduceSub, Nat.reduceMul, Nat.reduceLeDiff, Int.reduceEq, Int.reduceLT, Int.reduceLE, Int.reduceAdd, Int.reduceMul, Int.reduceSub, Int.reduceNeg, Int.reduceToNat, reduceIte, Nat.reduceLT, h0, h5, hc]
      unfold r1_SameTexts_K1
      simp only [go_sem, reduceCtorEq, Nat.reduceEqDiff, Nat.reduceAdd, Nat.reduceSub, Nat.reduceMul, Nat.reduceLeDiff, Int.reduceEq, Int.reduceLT, Int.reduceLE, Int.reduceAdd, Int.reduceMul, Int.reduceSub, Int.reduceNeg, Int.reduceToNat, reduceIte, Nat.reduceLT]
      simp [viewA, viewFn, viewC, viewFs, viewCs, viewAs, closedC, closedCs]
    | cons x rest ih =>
      intro pre e H hp h0 h1 h5
      have hc := lt_at (f := txtC) hp
      have hx := map_at' (f := txtC) hp
      have hn := next_at hp hmax
      refine run_again ?_
      conv => enter [3, 1]; unfold r1_SameTexts_L0
      simp only [go_sem, reduceCtorEq, Nat.reduceEqDiff, Nat.reduceAdd, Nat.reduceSub, Nat.reduceMul, Nat.reduceLeDiff, Int.reduceEq, Int.reduceLT, Int.reduceLE, Int.reduceAdd, Int.reduceMul, Int.reduceSub, Int.reduceNeg, Int.reduceToNat, reduceIte, Nat.reduceLT, h0, h1, h5, hc, hx, hn]
      refine ih (pre ++ [x]) _ _ (by simp [hp]) ?_ ?_ ?_
      all_goals simp only [go_sem, reduceCtorEq, Nat.reduceEqDiff, Nat.reduceAdd, Nat.reduceSub, Nat.reduceMul, Nat.reduceLeDiff, Int.reduceEq, Int.reduceLT, Int.reduceLE, Int.reduceAdd, Int.reduceMul, Int.reduceSub, Int.reduceNeg, Int.reduceToNat, reduceIte, Nat.reduceLT, h0, h1, hn]
  refine loop l [] _ _ rfl ?_ ?_ ?_
  all_goals simp only [go_sem, reduceCtorEq, Nat.reduceEqDiff, Nat.reduceAdd, Nat.reduceSub, Nat.reduceMul, Nat.reduceLeDiff, Int.reduceEq, Int.reduceLT, Int.reduceLE, Int.reduceAdd, Int.reduceMul, Int.reduceSub, Int.reduceNeg, Int.reduceToNat, reduceIte, Nat.reduceLT, List.length_nil, Int.natCast_zero]

end Go.Proofs.YtnccbccnjjachaaGreatDoor.Eng
