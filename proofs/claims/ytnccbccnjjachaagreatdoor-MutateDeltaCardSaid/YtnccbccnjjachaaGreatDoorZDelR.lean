/- Contracts of slices.IndexFunc and slices.DeleteFunc at facts, of facts.Find in memory of its own. No statement of the seat is proved here. -/
import Derived.Test.YtnccbccnjjachaaGreatDoorZFactB
import Derived.Test.YtnccbccnjjachaaGreatDoorZDoR
import Derived.Test.YtnccbccnjjachaaGreatDoorZJoinV
import Derived.Test.YtnccbccnjjachaaGreatDoorZPartC
import Derived.Test.YtnccbccnjjachaaGreatDoorZLitX
namespace Go.Proofs.YtnccbccnjjachaaGreatDoor.Eng
open Go
set_option linter.unusedVariables false
set_option linter.unusedSimpArgs false

/-- The first that a test holds for, if any. -/
def firstF (q : Fact → Bool) (n : Nat) : List Fact → Option Nat
  | [] => none
  | f :: r => if q f then some n else firstF q (n + 1) r
def idxI : Option Nat → Int
  | none => -1
  | some n => n
theorem firstF_none {q : Fact → Bool} : ∀ {l : List Fact} {n : Nat}, firstF q n l = none → l.filter (fun f => !q f) = l
  | [], n, _ => rfl
  | f :: r, n, h => by
    unfold firstF at h
    cases hq : q f with
    | true => rw [if_pos hq] at h; cases h
    | false =>
      rw [if_neg (by simp [hq])] at h
      rw [List.filter_cons_of_pos (by simp [hq]), firstF_none h]
theorem firstF_some {q : Fact → Bool} : ∀ {l : List Fact} {n k : Nat}, firstF q n l = some k → n ≤ k ∧ k - n < l.length ∧ (l.take (k - n + 1)).filter (fun f => !q f) = l.take (k - n)
  | [], n, k, h => by cases h
  | f :: r, n, k, h => by
    unfold firstF at h
    cases hq : q f with
    | true =>
      rw [if_pos hq] at h
      injection h with h
      subst h
      simp [hq]
    | false =>
      rw [if_neg (by simp [hq])] at h
      obtain ⟨h1, h2, h3⟩ := firstF_some h
      obtain ⟨d, rfl⟩ : ∃ d, k = n + 1 + d := ⟨k - (n + 1), by omega⟩
      have e1 : n + 1 + d - n = d + 1 := by omega
      have e2 : n + 1 + d - (n + 1) = d := by omega
      rw [e2] at h2 h3
      rw [e1]
      refine ⟨by omega, by simp; omega, ?_⟩
      rw [List.take_succ_cons, List.take_succ_cons, List.filter_cons_of_pos (by simp [hq]), h3]

theorem slices_IndexFunc_Fact_ok (l : List Fact) (g : Nat) (caps : List Cell) (q : Fact → Bool) (hcc : closedCs caps = true)
    (hg : ∀ f : Fact, Pr g (.agg f.cells :: caps.map .c) (bC (q f))) : Pr 71 [.c (factsC l), .c (.fn g caps)] (iC (idxI (firstF q 0 l))) := by
  refine pure_of mixed is_slices_IndexFunc_Fact (by simp [closedAs, closedA, closedC, closed_factsC, hcc]) fun hl T => ?_
  have hlen : l.length ≤ maxLen := by simp [lenAs, lenA, lenC, factsC] at hl; exact hl
  unfold c_slices_IndexFunc_Fact
  generalize hv : firstF q 0 l = v
  dsimp only [factsC]
  simp only [go_sem, reduceCtorEq, Nat.reduceEqDiff, Nat.reduceAdd, Nat.reduceSub, Nat.reduceMul, Nat.reduceLeDiff, Int.reduceEq, Int.reduceLT, Int.reduceLE, Int.reduceAdd, Int.reduceMul, Int.reduceSub, Int.reduceNeg, Int.reduceToNat, reduceIte, Nat.reduceLT]
  have loop : ∀ (rest pre : List Fact) (e : Env) (H : Heap), l = pre ++ rest → e 0 = .c (.lst 6 (l.map Fact.cells)) → e 1 = .c (.fn g caps) → e 7 = iC (l.map Fact.cells).length → e 8 = iC pre.length →
      firstF q pre.length rest = v → Run (progT Tryz.prog T) ⟨[.tmp 4], fun u E => viewA E u = some (iC (idxI v))⟩ [.loop slices_IndexFunc_Fact_L0, .blk 0, .code slices_IndexFunc_Fact_K1] e H := by
    intro rest
    induction rest with
    | nil =>
      intro pre e H hp h0 h1 h7 h8 hm
      have hc := not_lt_at (f := Fact.cells) hp
      refine run_again ?_
      conv => enter [3, 1]; unfold slices_IndexFunc_Fact_L0
      simp only [go_sem, reduceCtorEq, Nat.reduceEqDiff, Nat.reduceAdd, Nat.reduceSub, Nat.reduceMul, Nat.reduceLeDiff, Int.reduceEq, Int.reduceLT, Int.reduceLE, Int.reduceAdd, Int.reduceMul, Int.reduceSub, Int.reduceNeg, Int.reduceToNat, reduceIte, Nat.reduceLT, h0, h1, h7, h8, hc]
      unfold slices_IndexFunc_Fact_K1
      simp only [go_sem, reduceCtorEq, Nat.reduceEqDiff, Nat.reduceAdd, Nat.reduceSub, Nat.reduceMul, Nat.reduceLeDiff, Int.reduceEq, Int.reduceLT, Int.reduceLE, Int.reduceAdd, Int.reduceMul, Int.reduceSub, Int.reduceNeg, Int.reduceToNat, reduceIte, Nat.reduceLT]
      simp [viewA, viewFn, viewC, viewFs, viewCs, viewAs, closedC, closedCs, ← hm, firstF, idxI]
    | cons r rest ih =>
      intro pre e H hp h0 h1 h7 h8 hm
      have hc := lt_at (f := Fact.cells) hp
      have hr := map_at' (f := Fact.cells) hp
      have hn := next_at hp hlen
      refine run_again ?_
      conv => enter [3, 1]; unfold slices_IndexFunc_Fact_L0
      simp only [go_sem, reduceCtorEq, Nat.reduceEqDiff, Nat.reduceAdd, Nat.reduceSub, Nat.reduceMul, Nat.reduceLeDiff, Int.reduceEq, Int.reduceLT, Int.reduceLE, Int.reduceAdd, Int.reduceMul, Int.reduceSub, Int.reduceNeg, Int.reduceToNat, reduceIte, Nat.reduceLT, h0, h1, h7, h8, hc, hr]
      refine callW_pure (hg r) ?_
      simp only [go_sem, reduceCtorEq, Nat.reduceEqDiff, Nat.reduceAdd, Nat.reduceSub, Nat.reduceMul, Nat.reduceLeDiff, Int.reduceEq, Int.reduceLT, Int.reduceLE, Int.reduceAdd, Int.reduceMul, Int.reduceSub, Int.reduceNeg, Int.reduceToNat, reduceIte, Nat.reduceLT]
      cases hpr : q r with
      | true =>
        simp only [go_sem, reduceCtorEq, Nat.reduceEqDiff, Nat.reduceAdd, Nat.reduceSub, Nat.reduceMul, Nat.reduceLeDiff, Int.reduceEq, Int.reduceLT, Int.reduceLE, Int.reduceAdd, Int.reduceMul, Int.reduceSub, Int.reduceNeg, Int.reduceToNat, reduceIte, Nat.reduceLT]
        simp [viewA, viewFn, viewC, viewFs, viewCs, viewAs, closedC, closedCs, ← hm, firstF, hpr, idxI]
      | false =>
        simp only [go_sem, reduceCtorEq, Nat.reduceEqDiff, Nat.reduceAdd, Nat.reduceSub, Nat.reduceMul, Nat.reduceLeDiff, Int.reduceEq, Int.reduceLT, Int.reduceLE, Int.reduceAdd, Int.reduceMul, Int.reduceSub, Int.reduceNeg, Int.reduceToNat, reduceIte, Nat.reduceLT, h8, hn]
        refine ih (pre ++ [r]) _ _ (by simp [hp]) ?_ ?_ ?_ ?_ ?_
        all_goals first | (simp only [go_sem, reduceCtorEq, Nat.reduceEqDiff, Nat.reduceAdd, Nat.reduceSub, Nat.reduceMul, Nat.reduceLeDiff, Int.reduceEq, Int.reduceLT, Int.reduceLE, Int.reduceAdd, Int.reduceMul, Int.reduceSub, Int.reduceNeg, Int.reduceToNat, reduceIte, Nat.reduceLT, h0, h1, h7]; done) | (simp [← hm, firstF, hpr]; done)
  refine loop l [] _ _ rfl ?_ ?_ ?_ ?_ hv
  all_goals simp only [go_sem, reduceCtorEq, Nat.reduceEqDiff, Nat.reduceAdd, Nat.reduceSub, Nat.reduceMul, Nat.reduceLeDiff, Int.reduceEq, Int.reduceLT, Int.reduceLE, Int.reduceAdd, Int.reduceMul, Int.reduceSub, Int.reduceNeg, Int.reduceToNat, reduceIte, Nat.reduceLT, List.length_nil, Int.natCast_zero]

theorem slices_DeleteFunc_Fact_run (l : List Fact) (ext : List (List Cell)) (b g : Nat) (caps : List Cell) (q : Fact → Bool) (hcc : closedCs caps = true) (hs : l.length ≤ 1000000)
    (hg : ∀ f : Fact, Pr g (.agg f.cells :: caps.map .c) (bC (q f))) {H : Heap} (hb : H[b]? = some { sz := 6, rows := l.map Fact.cells ++ ext, own := true, live := true }) (T : Nat → Option AFun) (p : AVal → Heap → Prop)
    (hp : ∀ v G, Acc 6 ((l.filter fun f => !q f).map Fact.cells) v G → p v G) :
    Run (progT Tryz.prog T) ⟨c_slices_DeleteFunc_Fact.res, p⟩ [.code c_slices_DeleteFunc_Fact.body] (initEnv [.c (.slc b 0 l.length 6 false), .c (.fn g caps)]) H := by
  have hidx := slices_IndexFunc_Fact_ok l g caps q hcc hg
  have hview : viewAs H ([.c (.slc b 0 l.length 6 false), .c (.fn g caps)] ++ List.map AVal.c []) = some [.c (factsC l), .c (.fn g caps)] := by
    have hcl : ∀ cs : List Cell, closedCs cs = true → viewCs H cs = some cs := by
      intro cs
      induction cs with
      | nil => intro _; rfl
      | cons c cs ih =>
        intro h
        simp only [closedCs, Bool.and_eq_true] at h
        have hc : viewC H c = some c := by
          cases c with
          | slc => simp [closedC] at h
          | ptr => simp [closedC] at h
          | _ => simp [viewC, h.1]
        simp [viewCs, hc, ih h.2]
    have ht : (l.map Fact.cells ++ ext).take l.length = l.map Fact.cells := by
      rw [List.take_append_of_le_length (by simp)]
      exact List.take_of_length_le (by simp)
    have hf : viewC H (.slc b 0 l.length 6 false) = some (factsC l) := by
      by_cases h0 : l = []
      · subst h0; simp [viewC, factsC]
      · have hl0 : l.length ≠ 0 := fun e => h0 (List.eq_nil_of_length_eq_zero e)
        simp [viewC, hl0, hb, ht, closed_facts, factsC]
    simp [viewAs, viewA, viewFn, hf, hcl caps hcc]
  unfold c_slices_DeleteFunc_Fact
  simp only [go_sem, reduceCtorEq, Nat.reduceEqDiff, Nat.reduceAdd, Nat.reduceSub, Nat.reduceMul, Nat.reduceLeDiff, Int.reduceEq, Int.reduceLT, Int.reduceLE, Int.reduceAdd, Int.reduceMul, Int.reduceSub, Int.reduceNeg, Int.reduceToNat, reduceIte, Nat.reduceLT]
  refine callW_view hidx hview rfl ?_
  cases hf : firstF q 0 l with
  | none =>
    simp only [go_sem, reduceCtorEq, Nat.reduceEqDiff, Nat.reduceAdd, Nat.reduceSub, Nat.reduceMul, Nat.reduceLeDiff, Int.reduceEq, Int.reduceLT, Int.reduceLE, Int.reduceAdd, Int.reduceMul, Int.reduceSub, Int.reduceNeg, Int.reduceToNat, reduceIte, Nat.reduceLT, idxI]
    refine hp _ _ ?_
    rw [firstF_none hf]
    exact .inr ⟨b, ext, by simp, hb⟩
  | some k =>
    obtain ⟨_, h2, h3⟩ := firstF_some hf
    rw [Nat.sub_zero] at h2 h3
    have hk1 : ¬ ((k : Int) = -1) := by omega
    have hw1 : IntKind.wrap .i64 ((k : Int) + 1) = ((k + 1 : Nat) : Int) := by rw [wrap64 (by omega)]; omega
    simp only [go_sem, reduceCtorEq, Nat.reduceEqDiff, Nat.reduceAdd, Nat.reduceSub, Nat.reduceMul, Nat.reduceLeDiff, Int.reduceEq, Int.reduceLT, Int.reduceLE, Int.reduceAdd, Int.reduceMul, Int.reduceSub, Int.reduceNeg, Int.reduceToNat, reduceIte, Nat.reduceLT, idxI, hk1, hw1]
    have loop : ∀ (d j i : Nat) (R : List (List Cell)) (e : Env) (G : Heap), j + d = l.length → i < j → R.length = (l.map Fact.cells ++ ext).length → R.take i = ((l.take j).filter fun f => !q f).map Fact.cells → R.drop j = (l.map Fact.cells ++ ext).drop j → (∀ i r, i < l.length → R[i]? = some r → r.length = 6) → G[b]? = some { sz := 6, rows := R, own := true, live := true } →
        e 0 = .c (.slc b 0 l.length 6 false) → e 1 = .c (.fn g caps) → e 5 = iC i → e 6 = iC j → Run (progT Tryz.prog T) ⟨[.tmp 4], p⟩ [.loop slices_DeleteFunc_Fact_L0, .blk 0, .code slices_DeleteFunc_Fact_K1] e G := by
      intro d
      induction d with
      | zero =>
        intro j i R e G hj hij hR hA hC h6l hG h0 h1 h5 h6
        have hc : ¬ ((j : Int) < (l.length : Int)) := by omega
        have hil : i ≤ l.length := by omega
        refine run_again ?_
        conv => enter [3, 1]; unfold slices_DeleteFunc_Fact_L0
        simp only [go_sem, reduceCtorEq, Nat.reduceEqDiff, Nat.reduceAdd, Nat.reduceSub, Nat.reduceMul, Nat.reduceLeDiff, Int.reduceEq, Int.reduceLT, Int.reduceLE, Int.reduceAdd, Int.reduceMul, Int.reduceSub, Int.reduceNeg, Int.reduceToNat, reduceIte, Nat.reduceLT, h0, h1, h5, h6, hc]
        unfold slices_DeleteFunc_Fact_K1
        have hRl : R.length = l.length + ext.length := by rw [hR]; simp
        have hsl1 : ∀ (e : Env) (G : Heap), e 37 = iC i → vSl 6 (.c (.slc b 0 l.length 6 false)) e (some (.t 37)) none none G = some (.c (.slc b i (l.length - i) 6 false), G) := fun e G h => by
          simp [vSl, fitsSz, evSl, boundO, bound, Opd.ev, h, vPure, hil]
        have hsl2 : ∀ (e : Env) (G : Heap), e 40 = iC i → vSl 6 (.c (.slc b 0 l.length 6 false)) e none (some (.t 40)) none G = some (.c (.slc b 0 i 6 false), G) := fun e G h => by
          simp [vSl, fitsSz, evSl, boundO, bound, Opd.ev, h, vPure, hil]
        have hclr : vClr 6 [.int .i64 0, .int .i64 0, .str ⟨#[]⟩, .int .i64 0, .str ⟨#[]⟩, .int .i64 0] (.c (.slc b i (l.length - i) 6 false)) G = some (.tup [], G.set b { sz := 6, rows := R.take i ++ List.replicate (l.length - i) [.int .i64 0, .int .i64 0, .str ⟨#[]⟩, .int .i64 0, .str ⟨#[]⟩, .int .i64 0] ++ R.drop (i + (l.length - i)), own := true, live := true }) := by
          have hn0 : ¬ (l.length - i = 0) := by omega
          simp only [vClr, evClr, hn0, if_false, hG]
          rw [if_pos ⟨trivial, trivial, trivial, by omega⟩]
        simp only [go_sem, reduceCtorEq, Nat.reduceEqDiff, Nat.reduceAdd, Nat.reduceSub, Nat.reduceMul, Nat.reduceLeDiff, Int.reduceEq, Int.reduceLT, Int.reduceLE, Int.reduceAdd, Int.reduceMul, Int.reduceSub, Int.reduceNeg, Int.reduceToNat, reduceIte, Nat.reduceLT, h0, h5, hsl1, hclr, hsl2]
        refine hp _ _ ?_
        have hjl : j = l.length := by omega
        subst hjl
        rw [List.take_length] at hA
        refine .inr ⟨b, List.replicate (l.length - i) [.int .i64 0, .int .i64 0, .str ⟨#[]⟩, .int .i64 0, .str ⟨#[]⟩, .int .i64 0] ++ R.drop (i + (l.length - i)), ?_, ?_⟩
        · rw [← hA]
          have : (R.take i).length = i := by rw [List.length_take]; omega
          rw [this]
        · rw [← hA, ← List.append_assoc]
          exact set_get hG
      | succ d ih =>
        intro j i R e G hj hij hR hA hC h6l hG h0 h1 h5 h6
        have hjl : j < l.length := by omega
        have hc : ((j : Int) < (l.length : Int)) := by omega
        have hbl : b < G.length := (List.getElem?_eq_some_iff.1 hG).1
        have hRl : R.length = l.length + ext.length := by rw [hR]; simp
        obtain ⟨x, hx⟩ : ∃ x, l[j]? = some x := ⟨l[j], by simp [hjl]⟩
        have hRj : R[j]? = some x.cells := by
          have : (R.drop j)[0]? = some x.cells := by
            rw [hC, List.getElem?_drop, Nat.add_zero, List.getElem?_append_left (by simp; omega)]
            simp [hx]
          rw [List.getElem?_drop, Nat.add_zero] at this
          exact this
        have hxj : ∀ G : Heap, vIx 6 (.c (.slc b 0 l.length 6 false)) (iC j) G = some (.c (.ptr b j 0), G) := fun G => vIx_slc hjl
        have hxi : ∀ G : Heap, vIx 6 (.c (.slc b 0 l.length 6 false)) (iC i) G = some (.c (.ptr b i 0), G) := fun G => vIx_slc (by omega)
        have hrow : Heap.row G b j = some x.cells := by rw [row_of hG rfl]; exact hRj
        have hmine : Heap.mine G b = true := mine_of hG rfl rfl
        obtain ⟨y, hy⟩ : ∃ y, R[i]? = some y := ⟨R[i]'(by omega), by simp⟩
        have hrowi : Heap.row G b i = some y := by rw [row_of hG rfl]; exact hy
        have hput : ∀ r, Heap.put G b i r = G.set b { sz := 6, rows := R.set i r, own := true, live := true } := fun r => by rw [put_of hG]
        have hwj : IntKind.wrap .i64 ((j : Int) + 1) = ((j + 1 : Nat) : Int) := by rw [wrap64 (by omega)]; omega
        have hwi : IntKind.wrap .i64 ((i : Int) + 1) = ((i + 1 : Nat) : Int) := by rw [wrap64 (by omega)]; omega
        have htk : l.take (j + 1) = l.take j ++ [x] := by
          rw [List.take_add_one, hx]; rfl
        refine run_again ?_
        conv => enter [3, 1]; unfold slices_DeleteFunc_Fact_L0
        simp only [go_sem, reduceCtorEq, Nat.reduceEqDiff, Nat.reduceAdd, Nat.reduceSub, Nat.reduceMul, Nat.reduceLeDiff, Int.reduceEq, Int.reduceLT, Int.reduceLE, Int.reduceAdd, Int.reduceMul, Int.reduceSub, Int.reduceNeg, Int.reduceToNat, reduceIte, Nat.reduceLT, h0, h1, h5, h6, hc, hxj, hrow, Fact.cells]
        refine callW_pure (hg x) ?_
        cases hq : q x with
        | true =>
          simp only [go_sem, reduceCtorEq, Nat.reduceEqDiff, Nat.reduceAdd, Nat.reduceSub, Nat.reduceMul, Nat.reduceLeDiff, Int.reduceEq, Int.reduceLT, Int.reduceLE, Int.reduceAdd, Int.reduceMul, Int.reduceSub, Int.reduceNeg, Int.reduceToNat, reduceIte, Nat.reduceLT, h0, h1, h5, h6, hwj]
          refine ih (j + 1) i R _ _ (by omega) (by omega) hR ?_ ?_ h6l ?_ ?_ ?_ ?_ ?_
          · rw [hA, htk, List.filter_append, List.filter_cons_of_neg (by simp [hq])]; simp
          · rw [← List.drop_drop (i := 1), hC, List.drop_drop, Nat.add_comm]
          · rw [get_prev hbl]; exact hG
          all_goals simp only [go_sem, reduceCtorEq, Nat.reduceEqDiff, Nat.reduceAdd, Nat.reduceSub, Nat.reduceMul, Nat.reduceLeDiff, Int.reduceEq, Int.reduceLT, Int.reduceLE, Int.reduceAdd, Int.reduceMul, Int.reduceSub, Int.reduceNeg, Int.reduceToNat, reduceIte, Nat.reduceLT, h0, h1, h5]
        | false =>
          have hy6 : y.length = 6 := h6l i y (by omega) hy
          have hy6' : (6 ≤ y.length) = True := by simp [hy6]
          have hyd : y.drop 6 = [] := List.drop_eq_nil_of_le (by omega)
          simp only [go_sem, reduceCtorEq, Nat.reduceEqDiff, Nat.reduceAdd, Nat.reduceSub, Nat.reduceMul, Nat.reduceLeDiff, Int.reduceEq, Int.reduceLT, Int.reduceLE, Int.reduceAdd, Int.reduceMul, Int.reduceSub, Int.reduceNeg, Int.reduceToNat, reduceIte, Nat.reduceLT, h0, h1, h5, h6, hxi, hbl, hmine, hrowi, hput, hwi, hwj, hy6', hyd]
          refine ih (j + 1) (i + 1) (R.set i x.cells) _ _ (by omega) (by omega) (by rw [List.length_set]; exact hR) ?_ ?_ ?_ ?_ ?_ ?_ ?_ ?_
          · rw [htk, List.filter_append, List.filter_cons_of_pos (by simp [hq]), List.map_append, ← hA, List.take_add_one, List.getElem?_set_self (by omega), List.take_set_of_le (Nat.le_refl _)]
            rfl
          · rw [List.drop_set_of_lt (by omega), ← List.drop_drop (i := 1), hC, List.drop_drop, Nat.add_comm]
          · intro i' r hi' hr
            rw [List.getElem?_set] at hr
            split at hr
            · split at hr
              · injection hr with hr; subst hr; rfl
              · cases hr
            · exact h6l i' r hi' hr
          · rw [get_prev (by simpa using hbl)]
            exact set_get hG
          all_goals simp only [go_sem, reduceCtorEq, Nat.reduceEqDiff, Nat.reduceAdd, Nat.reduceSub, Nat.reduceMul, Nat.reduceLeDiff, Int.reduceEq, Int.reduceLT, Int.reduceLE, Int.reduceAdd, Int.reduceMul, Int.reduceSub, Int.reduceNeg, Int.reduceToNat, reduceIte, Nat.reduceLT, h0, h1]
    refine loop (l.length - (k + 1)) (k + 1) k (l.map Fact.cells ++ ext) _ _ (by omega) (by omega) rfl ?_ rfl ?_ hb ?_ ?_ ?_ ?_
    · rw [h3, List.take_append_of_le_length (by simp; omega), List.map_take]
    · intro i r hi hr
      rw [List.getElem?_append_left (by simpa using hi)] at hr
      obtain ⟨f, _, rfl⟩ := List.mem_map.1 (List.mem_of_getElem? hr)
      rfl
    all_goals simp only [go_sem, reduceCtorEq, Nat.reduceEqDiff, Nat.reduceAdd, Nat.reduceSub, Nat.reduceMul, Nat.reduceLeDiff, Int.reduceEq, Int.reduceLT, Int.reduceLE, Int.reduceAdd, Int.reduceMul, Int.reduceSub, Int.reduceNeg, Int.reduceToNat, reduceIte, Nat.reduceLT]

end Go.Proofs.YtnccbccnjjachaaGreatDoor.Eng
