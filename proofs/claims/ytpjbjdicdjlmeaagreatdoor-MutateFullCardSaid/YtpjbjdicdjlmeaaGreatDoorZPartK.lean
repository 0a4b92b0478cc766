/- Texts that this claim's proof needs, joined. No statement of the seat is proved here. -/
import Derived.Test.YtpjbjdicdjlmeaaGreatDoorZFactB
import Derived.Test.YtpjbjdicdjlmeaaGreatDoorZDoR
import Derived.Test.YtpjbjdicdjlmeaaGreatDoorZJoinV
import Derived.Test.YtpjbjdicdjlmeaaGreatDoorZPartC
import Derived.Test.YtpjbjdicdjlmeaaGreatDoorZLitX
import Derived.Test.YtpjbjdicdjlmeaaGreatDoorZLitZ
import Derived.Test.YtpjbjdicdjlmeaaGreatDoorZMutT
import Derived.Test.YtpjbjdicdjlmeaaGreatDoorZPartG
import Derived.Test.YtpjbjdicdjlmeaaGreatDoorZPartM
import Derived.Test.YtpjbjdicdjlmeaaGreatDoorZLitY

/- Contracts of slices.IndexFunc and slices.DeleteFunc at facts, of facts.Find in memory of its own. No statement of the seat is proved here. -/
namespace Go.Proofs.YtpjbjdicdjlmeaaGreatDoor.Eng
open Go
set_option linter.unusedVariables false
set_option linter.unusedSimpArgs false

/-- The first that a test holds for, if any. -/
def firstF (q : Fact → Bool) (n : Nat) : List Fact → Option Nat
  | [] => none
  | f :: r => if q f then some n else firstF q (n + 1) r
def idxI : Option Nat → Int
  | none => -1
  | some n => n
theorem firstF_none {q : Fact → Bool} : ∀ {l : List Fact} {n : Nat}, firstF q n l = none → l.filter (fun f => !q f) = l
  | [], n, _ => rfl
  | f :: r, n, h => by
    unfold firstF at h
    cases hq : q f with
    | true => rw [if_pos hq] at h; cases h
    | false =>
      rw [if_neg (by simp [hq])] at h
      rw [List.filter_cons_of_pos (by simp [hq]), firstF_none h]
theorem firstF_some {q : Fact → Bool} : ∀ {l : List Fact} {n k : Nat}, firstF q n l = some k → n ≤ k ∧ k - n < l.length ∧ (l.take (k - n + 1)).filter (fun f => !q f) = l.take (k - n)
  | [], n, k, h => by cases h
  | f :: r, n, k, h => by
    unfold firstF at h
    cases hq : q f with
    | true =>
      rw [if_pos hq] at h
      injection h with h
      subst h
      simp [hq]
    | false =>
      rw [if_neg (by simp [hq])] at h
      obtain ⟨h1, h2, h3⟩ := firstF_some h
      obtain ⟨d, rfl⟩ : ∃ d, k = n + 1 + d := ⟨k - (n + 1), by omega⟩
      have e1 : n + 1 + d - n = d + 1 := by omega
      have e2 : n + 1 + d - (n + 1) = d := by omega
      rw [e2] at h2 h3
      rw [e1]
      refine ⟨by omega, by simp; omega, ?_⟩
      rw [List.take_succ_cons, List.take_succ_cons, List.filter_cons_of_pos (by simp [hq]), h3]

theorem slices_IndexFunc_Fact_ok (l : List Fact) (g : Nat) (caps : List Cell) (q : Fact → Bool) (hcc : closedCs caps = true)
    (hg : ∀ f : Fact, Pr g (.agg f.cells :: caps.map .c) (bC (q f))) : Pr 39 [.c (factsC l), .c (.fn g caps)] (iC (idxI (firstF q 0 l))) := by
  refine pure_of mixed is_slices_IndexFunc_Fact (by simp [closedAs, closedA, closedC, closed_factsC, hcc]) fun hl T => ?_
  have hlen : l.length ≤ maxLen := by simp [lenAs, lenA, lenC, factsC] at hl; exact hl
  unfold c_slices_IndexFunc_Fact
  generalize hv : firstF q 0 l = v
  dsimp only [factsC]
  simp only [go_sem, reduceCtorEq, Nat.reduceEqDiff, Nat.reduceAdd, Nat.reduceSub, Nat.reduceMul, Nat.reduceLeDiff, Int.reduceEq, Int.reduceLT, Int.reduceLE, Int.reduceAdd, Int.reduceMul, Int.reduceSub, Int.reduceNeg, Int.reduceToNat, reduceIte, Nat.reduceLT]
  have loop : ∀ (rest pre : List Fact) (e : Env) (H : Heap), l = pre ++ rest → e 0 = .c (.lst 6 (l.map Fact.cells)) → e 1 = .c (.fn g caps) → e 7 = iC (l.map Fact.cells).length → e 8 = iC pre.length →
      firstF q pre.length rest = v → Run (progT Tryz.prog T) ⟨[.tmp 4], fun u E => viewA E u = some (iC (idxI v))⟩ [.loop slices_IndexFunc_Fact_L0, .blk 0, .code slices_IndexFunc_Fact_K1] e H := by
    intro rest
    induction rest with
    | nil =>
      intro pre e H hp h0 h1 h7 h8 hm
      have hc := not_lt_at (f := Fact.cells) hp
      refine run_again ?_
      conv => enter [3, 1]; unfold slices_IndexFunc_Fact_L0
      simp only [go_sem, reduceCtorEq, Nat.reduceEqDiff, Nat.reduceAdd, Nat.reduceSub, Nat.reduceMul, Nat.reduceLeDiff, Int.reduceEq, Int.reduceLT, Int.reduceLE, Int.reduceAdd, Int.reduceMul, Int.reduceSub, Int.reduceNeg, Int.reduceToNat, reduceIte, Nat.reduceLT, h0, h1, h7, h8, hc]
      unfold slices_IndexFunc_Fact_K1
      simp only [go_sem, reduceCtorEq, Nat.reduceEqDiff, Nat.reduceAdd, Nat.reduceSub, Nat.reduceMul, Nat.reduceLeDiff, Int.reduceEq, Int.reduceLT, Int.reduceLE, Int.reduceAdd, Int.reduceMul, Int.reduceSub, Int.reduceNeg, Int.reduceToNat, reduceIte, Nat.reduceLT]
      simp [viewA, viewFn, viewC, viewFs, viewCs, viewAs, closedC, closedCs, ← hm, firstF, idxI]
    | cons r rest ih =>
      intro pre e H hp h0 h1 h7 h8 hm
      have hc := lt_at (f := Fact.cells) hp
      have hr := map_at' (f := Fact.cells) hp
      have hn := next_at hp hlen
      refine run_again ?_
      conv => enter [3, 1]; unfold slices_IndexFunc_Fact_L0
      simp only [go_sem, reduceCtorEq, Nat.reduceEqDiff, Nat.reduceAdd, Nat.reduceSub, Nat.reduceMul, Nat.reduceLeDiff, Int.reduceEq, Int.reduceLT, Int.reduceLE, Int.reduceAdd, Int.reduceMul, Int.reduceSub, Int.reduceNeg, Int.reduceToNat, reduceIte, Nat.reduceLT, h0, h1, h7, h8, hc, hr]
      refine callW_pure (hg r) ?_
      simp only [go_sem, reduceCtorEq, Nat.reduceEqDiff, Nat.reduceAdd, Nat.reduceSub, Nat.reduceMul, Nat.reduceLeDiff, Int.reduceEq, Int.reduceLT, Int.reduceLE, Int.reduceAdd, Int.reduceMul, Int.reduceSub, Int.reduceNeg, Int.reduceToNat, reduceIte, Nat.reduceLT]
      cases hpr : q r with
      | true =>
        simp only [go_sem, reduceCtorEq, Nat.reduceEqDiff, Nat.reduceAdd, Nat.reduceSub, Nat.reduceMul, Nat.reduceLeDiff, Int.reduceEq, Int.reduceLT, Int.reduceLE, Int.reduceAdd, Int.reduceMul, Int.reduceSub, Int.reduceNeg, Int.reduceToNat, reduceIte, Nat.reduceLT]
        simp [viewA, viewFn, viewC, viewFs, viewCs, viewAs, closedC, closedCs, ← hm, firstF, hpr, idxI]
      | false =>
        simp only [go_sem, reduceCtorEq, Nat.reduceEqDiff, Nat.reduceAdd, Nat.reduceSub, Nat.reduceMul, Nat.reduceLeDiff, Int.reduceEq, Int.reduceLT, Int.reduceLE, Int.reduceAdd, Int.reduceMul, Int.reduceSub, Int.reduceNeg, Int.reduceToNat, reduceIte, Nat.reduceLT, h8, hn]
        refine ih (pre ++ [r]) _ _ (by simp [hp]) ?_ ?_ ?_ ?_ ?_
        all_goals first | (simp only [go_sem, reduceCtorEq, Nat.reduceEqDiff, Nat.reduceAdd, Nat.reduceSub, Nat.reduceMul, Nat.reduceLeDiff, Int.reduceEq, Int.reduceLT, Int.reduceLE, Int.reduceAdd, Int.reduceMul, Int.reduceSub, Int.reduceNeg, Int.reduceToNat, reduceIte, Nat.reduceLT, h0, h1, h7]; done) | (simp [← hm, firstF, hpr]; done)
  refine loop l [] _ _ rfl ?_ ?_ ?_ ?_ hv
  all_goals simp only [go_sem, reduceCtorEq, Nat.reduceEqDiff, Nat.reduceAdd, Nat.reduceSub, Nat.reduceMul, Nat.reduceLeDiff, Int.reduceEq, Int.reduceLT, Int.reduceLE, Int.reduceAdd, Int.reduceMul, Int.reduceSub, Int.reduceNeg, Int.reduceToNat, reduceIte, Nat.reduceLT, List.length_nil, Int.natCast_zero]

theorem slices_DeleteFunc_Fact_run (l : List Fact) (ext : List (List Cell)) (b g : Nat) (caps : List Cell) (q : Fact → Bool) (hcc : closedCs caps = true) (hs : l.length ≤ 1000000)
    (hg : ∀ f : Fact, Pr g (.agg f.cells :: caps.map .c) (bC (q f))) {H : Heap} (hb : H[b]? = some { sz := 6, rows := l.map Fact.cells ++ ext, own := true, live := true }) (T : Nat → Option AFun) (p : AVal → Heap → Prop)
    (hp : ∀ v G, Acc 6 ((l.filter fun f => !q f).map Fact.cells) v G → p v G) :
    Run (progT Tryz.prog T) ⟨c_slices_DeleteFunc_Fact.res, p⟩ [.code c_slices_DeleteFunc_Fact.body] (initEnv [.c (.slc b 0 l.length 6 false), .c (.fn g caps)]) H := by
  have hidx := slices_IndexFunc_Fact_ok l g caps q hcc hg
  have hview : viewAs H ([.c (.slc b 0 l.length 6 false), .c (.fn g caps)] ++ List.map AVal.c []) = some [.c (factsC l), .c (.fn g caps)] := by
    have hcl : ∀ cs : List Cell, closedCs cs = true → viewCs H cs = some cs := by
      intro cs
      induction cs with
      | nil => intro _; rfl
      | cons c cs ih =>
        intro h
        simp only [closedCs, Bool.and_eq_true] at h
        have hc : viewC H c = some c := by
          cases c with
          | slc => simp [closedC] at h
          | ptr => simp [closedC] at h
          | _ => simp [viewC, h.1]
        simp [viewCs, hc, ih h.2]
    have ht : (l.map Fact.cells ++ ext).take l.length = l.map Fact.cells := by
      rw [List.take_append_of_le_length (by simp)]
      exact List.take_of_length_le (by simp)
    have hf : viewC H (.slc b 0 l.length 6 false) = some (factsC l) := by
      by_cases h0 : l = []
      · subst h0; simp [viewC, factsC]
      · have hl0 : l.length ≠ 0 := fun e => h0 (List.eq_nil_of_length_eq_zero e)
        simp [viewC, hl0, hb, ht, closed_facts, factsC]
    simp [viewAs, viewA, viewFn, hf, hcl caps hcc]
  unfold c_slices_DeleteFunc_Fact
  simp only [go_sem, reduceCtorEq, Nat.reduceEqDiff, Nat.reduceAdd, Nat.reduceSub, Nat.reduceMul, Nat.reduceLeDiff, Int.reduceEq, Int.reduceLT, Int.reduceLE, Int.reduceAdd, Int.reduceMul, Int.reduceSub, Int.reduceNeg, Int.reduceToNat, reduceIte, Nat.reduceLT]
  refine callW_view hidx hview rfl ?_
  cases hf : firstF q 0 l with
  | none =>
    simp only [go_sem, reduceCtorEq, Nat.reduceEqDiff, Nat.reduceAdd, Nat.reduceSub, Nat.reduceMul, Nat.reduceLeDiff, Int.reduceEq, Int.reduceLT, Int.reduceLE, Int.reduceAdd, Int.reduceMul, Int.reduceSub, Int.reduceNeg, Int.reduceToNat, reduceIte, Nat.reduceLT, idxI]
    refine hp _ _ ?_
    rw [firstF_none hf]
    exact .inr ⟨b, ext, by simp, hb⟩
  | some k =>
    obtain ⟨_, h2, h3⟩ := firstF_some hf
    rw [Nat.sub_zero] at h2 h3
    have hk1 : ¬ ((k : Int) = -1) := by omega
    have hw1 : IntKind.wrap .i64 ((k : Int) + 1) = ((k + 1 : Nat) : Int) := by rw [wrap64 (by omega)]; omega
    simp only [go_sem, reduceCtorEq, Nat.reduceEqDiff, Nat.reduceAdd, Nat.reduceSub, Nat.reduceMul, Nat.reduceLeDiff, Int.reduceEq, Int.reduceLT, Int.reduceLE, Int.reduceAdd, Int.reduceMul, Int.reduceSub, Int.reduceNeg, Int.reduceToNat, reduceIte, Nat.reduceLT, idxI, hk1, hw1]
    have loop : ∀ (d j i : Nat) (R : List (List Cell)) (e : Env) (G : Heap), j + d = l.length → i < j → R.length = (l.map Fact.cells ++ ext).length → R.take i = ((l.take j).filter fun f => !q f).map Fact.cells → R.drop j = (l.map Fact.cells ++ ext).drop j → (∀ i r, i < l.length → R[i]? = some r → r.length = 6) → G[b]? = some { sz := 6, rows := R, own := true, live := true } →
        e 0 = .c (.slc b 0 l.length 6 false) → e 1 = .c (.fn g caps) → e 5 = iC i → e 6 = iC j → Run (progT Tryz.prog T) ⟨[.tmp 4], p⟩ [.loop slices_DeleteFunc_Fact_L0, .blk 0, .code slices_DeleteFunc_Fact_K1] e G := by
      intro d
      induction d with
      | zero =>
        intro j i R e G hj hij hR hA hC h6l hG h0 h1 h5 h6
        have hc : ¬ ((j : Int) < (l.length : Int)) := by omega
        have hil : i ≤ l.length := by omega
        refine run_again ?_
        conv => enter [3, 1]; unfold slices_DeleteFunc_Fact_L0
        simp only [go_sem, reduceCtorEq, Nat.reduceEqDiff, Nat.reduceAdd, Nat.reduceSub, Nat.reduceMul, Nat.reduceLeDiff, Int.reduceEq, Int.reduceLT, Int.reduceLE, Int.reduceAdd, Int.reduceMul, Int.reduceSub, Int.reduceNeg, Int.reduceToNat, reduceIte, Nat.reduceLT, h0, h1, h5, h6, hc]
        unfold slices_DeleteFunc_Fact_K1
        have hRl : R.length = l.length + ext.length := by rw [hR]; simp
        have hsl1 : ∀ (e : Env) (G : Heap), e 37 = iC i → vSl 6 (.c (.slc b 0 l.length 6 false)) e (some (.t 37)) none none G = some (.c (.slc b i (l.length - i) 6 false), G) := fun e G h => by
          simp [vSl, fitsSz, evSl, boundO, bound, Opd.ev, h, vPure, hil]
        have hsl2 : ∀ (e : Env) (G : Heap), e 40 = iC i → vSl 6 (.c (.slc b 0 l.length 6 false)) e none (some (.t 40)) none G = some (.c (.slc b 0 i 6 false), G) := fun e G h => by
          simp [vSl, fitsSz, evSl, boundO, bound, Opd.ev, h, vPure, hil]
        have hclr : vClr 6 [.int .i64 0, .int .i64 0, .str ⟨#[]⟩, .int .i64 0, .str ⟨#[]⟩, .int .i64 0] (.c (.slc b i (l.length - i) 6 false)) G = some (.tup [], G.set b { sz := 6, rows := R.take i ++ List.replicate (l.length - i) [.int .i64 0, .int .i64 0, .str ⟨#[]⟩, .int .i64 0, .str ⟨#[]⟩, .int .i64 0] ++ R.drop (i + (l.length - i)), own := true, live := true }) := by
          have hn0 : ¬ (l.length - i = 0) := by omega
          simp only [vClr, evClr, hn0, if_false, hG]
          rw [if_pos ⟨trivial, trivial, trivial, by omega⟩]
        simp only [go_sem, reduceCtorEq, Nat.reduceEqDiff, Nat.reduceAdd, Nat.reduceSub, Nat.reduceMul, Nat.reduceLeDiff, Int.reduceEq, Int.reduceLT, Int.reduceLE, Int.reduceAdd, Int.reduceMul, Int.reduceSub, Int.reduceNeg, Int.reduceToNat, reduceIte, Nat.reduceLT, h0, h5, hsl1, hclr, hsl2]
        refine hp _ _ ?_
        have hjl : j = l.length := by omega
        subst hjl
        rw [List.take_length] at hA
        refine .inr ⟨b, List.replicate (l.length - i) [.int .i64 0, .int .i64 0, .str ⟨#[]⟩, .int .i64 0, .str ⟨#[]⟩, .int .i64 0] ++ R.drop (i + (l.length - i)), ?_, ?_⟩
        · rw [← hA]
          have : (R.take i).length = i := by rw [List.length_take]; omega
          rw [this]
        · rw [← hA, ← List.append_assoc]
          exact set_get hG
      | succ d ih =>
        intro j i R e G hj hij hR hA hC h6l hG h0 h1 h5 h6
        have hjl : j < l.length := by omega
        have hc : ((j : Int) < (l.length : Int)) := by omega
        have hbl : b < G.length := (List.getElem?_eq_some_iff.1 hG).1
        have hRl : R.length = l.length + ext.length := by rw [hR]; simp
        obtain ⟨x, hx⟩ : ∃ x, l[j]? = some x := ⟨l[j], by simp [hjl]⟩
        have hRj : R[j]? = some x.cells := by
          have : (R.drop j)[0]? = some x.cells := by
            rw [hC, List.getElem?_drop, Nat.add_zero, List.getElem?_append_left (by simp; omega)]
            simp [hx]
          rw [List.getElem?_drop, Nat.add_zero] at this
          exact this
        have hxj : ∀ G : Heap, vIx 6 (.c (.slc b 0 l.length 6 false)) (iC j) G = some (.c (.ptr b j 0), G) := fun G => vIx_slc hjl
        have hxi : ∀ G : Heap, vIx 6 (.c (.slc b 0 l.length 6 false)) (iC i) G = some (.c (.ptr b i 0), G) := fun G => vIx_slc (by omega)
        have hrow : Heap.row G b j = some x.cells := by rw [row_of hG rfl]; exact hRj
        have hmine : Heap.mine G b = true := mine_of hG rfl rfl
        obtain ⟨y, hy⟩ : ∃ y, R[i]? = some y := ⟨R[i]'(by omega), by simp⟩
        have hrowi : Heap.row G b i = some y := by rw [row_of hG rfl]; exact hy
        have hput : ∀ r, Heap.put G b i r = G.set b { sz := 6, rows := R.set i r, own := true, live := true } := fun r => by rw [put_of hG]
        have hwj : IntKind.wrap .i64 ((j : Int) + 1) = ((j + 1 : Nat) : Int) := by rw [wrap64 (by omega)]; omega
        have hwi : IntKind.wrap .i64 ((i : Int) + 1) = ((i + 1 : Nat) : Int) := by rw [wrap64 (by omega)]; omega
        have htk : l.take (j + 1) = l.take j ++ [x] := by
          rw [List.take_add_one, hx]; rfl
        refine run_again ?_
        conv => enter [3, 1]; unfold slices_DeleteFunc_Fact_L0
        simp only [go_sem, reduceCtorEq, Nat.reduceEqDiff, Nat.reduceAdd, Nat.reduceSub, Nat.reduceMul, Nat.reduceLeDiff, Int.reduceEq, Int.reduceLT, Int.reduceLE, Int.reduceAdd, Int.reduceMul, Int.reduceSub, Int.reduceNeg, Int.reduceToNat, reduceIte, Nat.reduceLT, h0, h1, h5, h6, hc, hxj, hrow, Fact.cells]
        refine callW_pure (hg x) ?_
        cases hq : q x with
        | true =>
          simp only [go_sem, reduceCtorEq, Nat.reduceEqDiff, Nat.reduceAdd, Nat.reduceSub, Nat.reduceMul, Nat.reduceLeDiff, Int.reduceEq, Int.reduceLT, Int.reduceLE, Int.reduceAdd, Int.reduceMul, Int.reduceSub, Int.reduceNeg, Int.reduceToNat, reduceIte, Nat.reduceLT, h0, h1, h5, h6, hwj]
          refine ih (j + 1) i R _ _ (by omega) (by omega) hR ?_ ?_ h6l ?_ ?_ ?_ ?_ ?_
          · rw [hA, htk, List.filter_append, List.filter_cons_of_neg (by simp [hq])]; simp
          · rw [← List.drop_drop (i := 1), hC, List.drop_drop, Nat.add_comm]
          · rw [get_prev hbl]; exact hG
          all_goals simp only [go_sem, reduceCtorEq, Nat.reduceEqDiff, Nat.reduceAdd, Nat.reduceSub, Nat.reduceMul, Nat.reduceLeDiff, Int.reduceEq, Int.reduceLT, Int.reduceLE, Int.reduceAdd, Int.reduceMul, Int.reduceSub, Int.reduceNeg, Int.reduceToNat, reduceIte, Nat.reduceLT, h0, h1, h5]
        | false =>
          have hy6 : y.length = 6 := h6l i y (by omega) hy
          have hy6' : (6 ≤ y.length) = True := by simp [hy6]
          have hyd : y.drop 6 = [] := List.drop_eq_nil_of_le (by omega)
          simp only [go_sem, reduceCtorEq, Nat.reduceEqDiff, Nat.reduceAdd, Nat.reduceSub, Nat.reduceMul, Nat.reduceLeDiff, Int.reduceEq, Int.reduceLT, Int.reduceLE, Int.reduceAdd, Int.reduceMul, Int.reduceSub, Int.reduceNeg, Int.reduceToNat, reduceIte, Nat.reduceLT, h0, h1, h5, h6, hxi, hbl, hmine, hrowi, hput, hwi, hwj, hy6', hyd]
          refine ih (j + 1) (i + 1) (R.set i x.cells) _ _ (by omega) (by omega) (by rw [List.length_set]; exact hR) ?_ ?_ ?_ ?_ ?_ ?_ ?_ ?_
          · rw [htk, List.filter_append, List.filter_cons_of_pos (by simp [hq]), List.map_append, ← hA, List.take_add_one, List.getElem?_set_self (by omega), List.take_set_of_le (Nat.le_refl _)]
            rfl
          · rw [List.drop_set_of_lt (by omega), ← List.drop_drop (i := 1), hC, List.drop_drop, Nat.add_comm]
          · intro i' r hi' hr
            rw [List.getElem?_set] at hr
            split at hr
            · split at hr
              · injection hr with hr; subst hr; rfl
              · cases hr
            · exact h6l i' r hi' hr
          · rw [get_prev (by simpa using hbl)]
            exact set_get hG
          all_goals simp only [go_sem, reduceCtorEq, Nat.reduceEqDiff, Nat.reduceAdd, Nat.reduceSub, Nat.reduceMul, Nat.reduceLeDiff, Int.reduceEq, Int.reduceLT, Int.reduceLE, Int.reduceAdd, Int.reduceMul, Int.reduceSub, Int.reduceNeg, Int.reduceToNat, reduceIte, Nat.reduceLT, h0, h1]
    refine loop (l.length - (k + 1)) (k + 1) k (l.map Fact.cells ++ ext) _ _ (by omega) (by omega) rfl ?_ rfl ?_ hb ?_ ?_ ?_ ?_
    · rw [h3, List.take_append_of_le_length (by simp; omega), List.map_take]
    · intro i r hi hr
      rw [List.getElem?_append_left (by simpa using hi)] at hr
      obtain ⟨f, _, rfl⟩ := List.mem_map.1 (List.mem_of_getElem? hr)
      rfl
    all_goals simp only [go_sem, reduceCtorEq, Nat.reduceEqDiff, Nat.reduceAdd, Nat.reduceSub, Nat.reduceMul, Nat.reduceLeDiff, Int.reduceEq, Int.reduceLT, Int.reduceLE, Int.reduceAdd, Int.reduceMul, Int.reduceSub, Int.reduceNeg, Int.reduceToNat, reduceIte, Nat.reduceLT]

end Go.Proofs.YtpjbjdicdjlmeaaGreatDoor.Eng

/- Contracts of facts.Find in memory of its own, of the document's Find and SameFacts. No statement of the seat is proved here. -/
namespace Go.Proofs.YtpjbjdicdjlmeaaGreatDoor.Eng
open Go
set_option linter.unusedVariables false
set_option linter.unusedSimpArgs false

/-- The facts of a key and a kind. -/
def Fact.of (key : ByteArray) (kind : Int) (f : Fact) : Bool := decide (f.key = key) && (decide (kind = 0) || decide (f.kind = kind))

theorem facts_Find_ok (s : State) (key : ByteArray) (kind : Int) (hb : s.facts.length ≤ 1000000000) : Pr 24 [.agg s.cells, sC key, iC kind] (.c (factsC (s.facts.filter (Fact.of key kind)))) := by
  obtain ⟨seen, l⟩ := s
  refine pure_ofW mixed is_facts_Find (by simp [closedAs, closedA, closedC, State.closed]) fun hl T => ?_
  have hlen : l.length ≤ maxLen := by simp [lenAs, lenA, lenC, State.cells, runsC, factsC] at hl; exact hl.2
  unfold c_facts_Find
  simp only at hb ⊢
  generalize hv : l.filter (Fact.of key kind) = v
  simp only [go_sem, reduceCtorEq, Nat.reduceEqDiff, Nat.reduceAdd, Nat.reduceSub, Nat.reduceMul, Nat.reduceLeDiff, Int.reduceEq, Int.reduceLT, Int.reduceLE, Int.reduceAdd, Int.reduceMul, Int.reduceSub, Int.reduceNeg, Int.reduceToNat, reduceIte, Nat.reduceLT, List.length_map]
  have loop : ∀ (rest pre acc : List Fact) (e : Env) (H : Heap), l = pre ++ rest → e 1 = sC key → e 2 = iC kind → e 11 = .c (factsC l) → e 12 = iC l.length → e 13 = iC pre.length → Acc 6 (acc.map Fact.cells) (e 7) H → acc.length ≤ pre.length →
      acc ++ rest.filter (Fact.of key kind) = v → Run (progT Tryz.prog T) ⟨[.tmp 6], fun u E => viewW E u (.c (.lst 6 (v.map Fact.cells)))⟩ [.loop facts_Find_L0, .blk 0, .code facts_Find_K1] e H := by
    intro rest
    induction rest with
    | nil =>
      intro pre acc e H hp h1 h2 h11 h12 h13 hacc hle hm
      have hc : ¬ ((pre.length : Int) < (l.length : Int)) := by rw [hp]; simp
      refine run_again ?_
      conv => enter [3, 1]; unfold facts_Find_L0
      simp only [go_sem, reduceCtorEq, Nat.reduceEqDiff, Nat.reduceAdd, Nat.reduceSub, Nat.reduceMul, Nat.reduceLeDiff, Int.reduceEq, Int.reduceLT, Int.reduceLE, Int.reduceAdd, Int.reduceMul, Int.reduceSub, Int.reduceNeg, Int.reduceToNat, reduceIte, Nat.reduceLT, h1, h2, h11, h12, h13, hc]
      unfold facts_Find_K1
      simp only [go_sem, reduceCtorEq, Nat.reduceEqDiff, Nat.reduceAdd, Nat.reduceSub, Nat.reduceMul, Nat.reduceLeDiff, Int.reduceEq, Int.reduceLT, Int.reduceLE, Int.reduceAdd, Int.reduceMul, Int.reduceSub, Int.reduceNeg, Int.reduceToNat, reduceIte, Nat.reduceLT]
      have := hacc.told (closed_facts acc)
      simp at hm
      rw [← hm]
      exact this
    | cons r rest ih =>
      intro pre acc e H hp h1 h2 h11 h12 h13 hacc hle hm
      have hc : ((pre.length : Int) < (l.length : Int)) := by rw [hp]; simp; omega
      have hr := map_at' (f := Fact.cells) hp
      have hn := next_at hp hlen
      have hpl : pre.length < l.length := by rw [hp]; simp
      refine run_again ?_
      conv => enter [3, 1]; unfold facts_Find_L0
      simp only [go_sem, reduceCtorEq, Nat.reduceEqDiff, Nat.reduceAdd, Nat.reduceSub, Nat.reduceMul, Nat.reduceLeDiff, Int.reduceEq, Int.reduceLT, Int.reduceLE, Int.reduceAdd, Int.reduceMul, Int.reduceSub, Int.reduceNeg, Int.reduceToNat, reduceIte, Nat.reduceLT, h1, h2, h11, h12, h13, hc, hr]
      have go : ∀ (e' : Env) (H' : Heap), e' 1 = e 1 → e' 2 = e 2 → e' 11 = e 11 → e' 12 = e 12 → e' 7 = e 7 → Acc 6 (acc.map Fact.cells) (e 7) H' → e' 13 = iC (pre ++ [r]).length → Fact.of key kind r = false → Run (progT Tryz.prog T) ⟨[.tmp 6], fun u E => viewW E u (.c (.lst 6 (v.map Fact.cells)))⟩ [.loop facts_Find_L0, .blk 0, .code facts_Find_K1] e' H' := by
        intro e' H' g1 g2 g11 g12 g7 ga g13 gm
        exact ih (pre ++ [r]) acc e' H' (by simp [hp]) (by rw [g1, h1]) (by rw [g2, h2]) (by rw [g11, h11]) (by rw [g12, h12]) g13 (by rw [g7]; exact ga) (by simp; omega) (by rw [← hm]; simp [gm])
      have goA : ∀ (e' : Env) (H' : Heap) (row : List Cell), e' 1 = e 1 → e' 2 = e 2 → e' 11 = e 11 → e' 12 = e 12 → Acc 6 (acc.map Fact.cells ++ [row]) (e' 7) H' → row = r.cells → e' 13 = iC (pre ++ [r]).length → Fact.of key kind r = true → Run (progT Tryz.prog T) ⟨[.tmp 6], fun u E => viewW E u (.c (.lst 6 (v.map Fact.cells)))⟩ [.loop facts_Find_L0, .blk 0, .code facts_Find_K1] e' H' := by
        intro e' H' row g1 g2 g11 g12 ga gr g13 gm
        subst gr
        exact ih (pre ++ [r]) (acc ++ [r]) e' H' (by simp [hp]) (by rw [g1, h1]) (by rw [g2, h2]) (by rw [g11, h11]) (by rw [g12, h12]) g13 (by simpa using ga) (by simp; omega) (by rw [← hm]; simp [gm])
      have hroom : ((acc.map Fact.cells).length + [r.cells].length) * 64 ≤ 140737488355328 := by simp; omega
      clear ih hp hl hr hc
      repeat' (first | (first | refine guardW_split (fun h => ?_) (fun h => ?_) | refine condW_split (fun h => ?_) (fun h => ?_) | refine guardW_nsplit (fun h => ?_) (fun h => ?_) | refine condW_nsplit (fun h => ?_) (fun h => ?_) | refine guardW_nbool (fun h => ?_) (fun h => ?_) | refine condW_ncases (fun h => ?_) (fun h => ?_) | refine guardW_bool (fun h => ?_) (fun h => ?_) | refine condW_cases (fun h => ?_) (fun h => ?_)) | (refine Acc.app_step (hacc.snoc) hroom fun v' H' hacc' => ?_) | simp only [go_sem, reduceCtorEq, Nat.reduceEqDiff, Nat.reduceAdd, Nat.reduceSub, Nat.reduceMul, Nat.reduceLeDiff, Int.reduceEq, Int.reduceLT, Int.reduceLE, Int.reduceAdd, Int.reduceMul, Int.reduceSub, Int.reduceNeg, Int.reduceToNat, reduceIte, Nat.reduceLT, h13, hn, *])
      all_goals first
        | (refine goA _ _ _ ?_ ?_ ?_ ?_ (by simp only [go_sem, reduceCtorEq, Nat.reduceEqDiff, Nat.reduceAdd, Nat.reduceSub, Nat.reduceMul, Nat.reduceLeDiff, Int.reduceEq, Int.reduceLT, Int.reduceLE, Int.reduceAdd, Int.reduceMul, Int.reduceSub, Int.reduceNeg, Int.reduceToNat, reduceIte, Nat.reduceLT]; assumption) ?_ ?_ ?_ <;> first | (simp only [go_sem, reduceCtorEq, Nat.reduceEqDiff, Nat.reduceAdd, Nat.reduceSub, Nat.reduceMul, Nat.reduceLeDiff, Int.reduceEq, Int.reduceLT, Int.reduceLE, Int.reduceAdd, Int.reduceMul, Int.reduceSub, Int.reduceNeg, Int.reduceToNat, reduceIte, Nat.reduceLT, hn]; done) | (simp [Fact.of, Fact.cells, *]; done))
        | (refine go _ _ ?_ ?_ ?_ ?_ ?_ hacc.snoc ?_ ?_ <;> first | (simp only [go_sem, reduceCtorEq, Nat.reduceEqDiff, Nat.reduceAdd, Nat.reduceSub, Nat.reduceMul, Nat.reduceLeDiff, Int.reduceEq, Int.reduceLT, Int.reduceLE, Int.reduceAdd, Int.reduceMul, Int.reduceSub, Int.reduceNeg, Int.reduceToNat, reduceIte, Nat.reduceLT, hn]; done) | (simp [Fact.of, *]; done))
  refine loop l [] [] _ _ rfl rfl rfl rfl ?_ rfl .nil (Nat.le_refl _) hv
  simp only [go_sem, reduceCtorEq, Nat.reduceEqDiff, Nat.reduceAdd, Nat.reduceSub, Nat.reduceMul, Nat.reduceLeDiff, Int.reduceEq, Int.reduceLT, Int.reduceLE, Int.reduceAdd, Int.reduceMul, Int.reduceSub, Int.reduceNeg, Int.reduceToNat, reduceIte, Nat.reduceLT, List.length_map]

theorem facts_Find_own (s : State) (key : ByteArray) (kind : Int) (hb : s.facts.length ≤ 1000000) (H : Heap) : ∃ v G, CallSound Tryz.prog 24 [.agg s.cells, sC key, iC kind] H v G ∧ Acc 6 ((s.facts.filter (Fact.of key kind)).map Fact.cells) v G := by
  obtain ⟨seen, l⟩ := s
  refine sound_ex mixed is_facts_Find fun T => ?_
  have hlen : l.length ≤ maxLen := by unfold maxLen; simp only at hb; omega
  have hcs := closed_runs seen
  have hcf := closed_facts l
  unfold c_facts_Find
  simp only at hb ⊢
  generalize hv : l.filter (Fact.of key kind) = v
  simp only [go_sem, reduceCtorEq, Nat.reduceEqDiff, Nat.reduceAdd, Nat.reduceSub, Nat.reduceMul, Nat.reduceLeDiff, Int.reduceEq, Int.reduceLT, Int.reduceLE, Int.reduceAdd, Int.reduceMul, Int.reduceSub, Int.reduceNeg, Int.reduceToNat, reduceIte, Nat.reduceLT, hcs, hcf, List.length_map]
  have loop : ∀ (rest pre acc : List Fact) (e : Env) (H : Heap), l = pre ++ rest → e 1 = sC key → e 2 = iC kind → e 11 = .c (factsC l) → e 12 = iC l.length → e 13 = iC pre.length → Acc 6 (acc.map Fact.cells) (e 7) H → acc.length ≤ pre.length →
      acc ++ rest.filter (Fact.of key kind) = v → Run (progT Tryz.prog T) ⟨[.tmp 6], fun u E => Acc 6 (v.map Fact.cells) u E⟩ [.loop facts_Find_L0, .blk 0, .code facts_Find_K1] e H := by
    intro rest
    induction rest with
    | nil =>
      intro pre acc e H hp h1 h2 h11 h12 h13 hacc hle hm
      have hc : ¬ ((pre.length : Int) < (l.length : Int)) := by rw [hp]; simp
      refine run_again ?_
      conv => enter [3, 1]; unfold facts_Find_L0
      simp only [go_sem, reduceCtorEq, Nat.reduceEqDiff, Nat.reduceAdd, Nat.reduceSub, Nat.reduceMul, Nat.reduceLeDiff, Int.reduceEq, Int.reduceLT, Int.reduceLE, Int.reduceAdd, Int.reduceMul, Int.reduceSub, Int.reduceNeg, Int.reduceToNat, reduceIte, Nat.reduceLT, h1, h2, h11, h12, h13, hc]
      unfold facts_Find_K1
      simp only [go_sem, reduceCtorEq, Nat.reduceEqDiff, Nat.reduceAdd, Nat.reduceSub, Nat.reduceMul, Nat.reduceLeDiff, Int.reduceEq, Int.reduceLT, Int.reduceLE, Int.reduceAdd, Int.reduceMul, Int.reduceSub, Int.reduceNeg, Int.reduceToNat, reduceIte, Nat.reduceLT]
      simp at hm
      rw [← hm]
      exact hacc
    | cons r rest ih =>
      intro pre acc e H hp h1 h2 h11 h12 h13 hacc hle hm
      have hc : ((pre.length : Int) < (l.length : Int)) := by rw [hp]; simp; omega
      have hr := map_at' (f := Fact.cells) hp
      have hn := next_at hp hlen
      have hpl : pre.length < l.length := by rw [hp]; simp
      refine run_again ?_
      conv => enter [3, 1]; unfold facts_Find_L0
      simp only [go_sem, reduceCtorEq, Nat.reduceEqDiff, Nat.reduceAdd, Nat.reduceSub, Nat.reduceMul, Nat.reduceLeDiff, Int.reduceEq, Int.reduceLT, Int.reduceLE, Int.reduceAdd, Int.reduceMul, Int.reduceSub, Int.reduceNeg, Int.reduceToNat, reduceIte, Nat.reduceLT, h1, h2, h11, h12, h13, hc, hr]
      have go : ∀ (e' : Env) (H' : Heap), e' 1 = e 1 → e' 2 = e 2 → e' 11 = e 11 → e' 12 = e 12 → e' 7 = e 7 → Acc 6 (acc.map Fact.cells) (e 7) H' → e' 13 = iC (pre ++ [r]).length → Fact.of key kind r = false → Run (progT Tryz.prog T) ⟨[.tmp 6], fun u E => Acc 6 (v.map Fact.cells) u E⟩ [.loop facts_Find_L0, .blk 0, .code facts_Find_K1] e' H' := by
        intro e' H' g1 g2 g11 g12 g7 ga g13 gm
        exact ih (pre ++ [r]) acc e' H' (by simp [hp]) (by rw [g1, h1]) (by rw [g2, h2]) (by rw [g11, h11]) (by rw [g12, h12]) g13 (by rw [g7]; exact ga) (by simp; omega) (by rw [← hm]; simp [gm])
      have goA : ∀ (e' : Env) (H' : Heap) (row : List Cell), e' 1 = e 1 → e' 2 = e 2 → e' 11 = e 11 → e' 12 = e 12 → Acc 6 (acc.map Fact.cells ++ [row]) (e' 7) H' → row = r.cells → e' 13 = iC (pre ++ [r]).length → Fact.of key kind r = true → Run (progT Tryz.prog T) ⟨[.tmp 6], fun u E => Acc 6 (v.map Fact.cells) u E⟩ [.loop facts_Find_L0, .blk 0, .code facts_Find_K1] e' H' := by
        intro e' H' row g1 g2 g11 g12 ga gr g13 gm
        subst gr
        exact ih (pre ++ [r]) (acc ++ [r]) e' H' (by simp [hp]) (by rw [g1, h1]) (by rw [g2, h2]) (by rw [g11, h11]) (by rw [g12, h12]) g13 (by simpa using ga) (by simp; omega) (by rw [← hm]; simp [gm])
      have hroom : ((acc.map Fact.cells).length + [r.cells].length) * 64 ≤ 140737488355328 := by simp; omega
      clear ih hp hr hc
      repeat' (first | (first | refine guardW_split (fun h => ?_) (fun h => ?_) | refine condW_split (fun h => ?_) (fun h => ?_) | refine guardW_nsplit (fun h => ?_) (fun h => ?_) | refine condW_nsplit (fun h => ?_) (fun h => ?_) | refine guardW_nbool (fun h => ?_) (fun h => ?_) | refine condW_ncases (fun h => ?_) (fun h => ?_) | refine guardW_bool (fun h => ?_) (fun h => ?_) | refine condW_cases (fun h => ?_) (fun h => ?_)) | (refine Acc.app_step (hacc.snoc) hroom fun v' H' hacc' => ?_) | simp only [go_sem, reduceCtorEq, Nat.reduceEqDiff, Nat.reduceAdd, Nat.reduceSub, Nat.reduceMul, Nat.reduceLeDiff, Int.reduceEq, Int.reduceLT, Int.reduceLE, Int.reduceAdd, Int.reduceMul, Int.reduceSub, Int.reduceNeg, Int.reduceToNat, reduceIte, Nat.reduceLT, h13, hn, *])
      all_goals first
        | (refine goA _ _ _ ?_ ?_ ?_ ?_ (by simp only [go_sem, reduceCtorEq, Nat.reduceEqDiff, Nat.reduceAdd, Nat.reduceSub, Nat.reduceMul, Nat.reduceLeDiff, Int.reduceEq, Int.reduceLT, Int.reduceLE, Int.reduceAdd, Int.reduceMul, Int.reduceSub, Int.reduceNeg, Int.reduceToNat, reduceIte, Nat.reduceLT]; assumption) ?_ ?_ ?_ <;> first | (simp only [go_sem, reduceCtorEq, Nat.reduceEqDiff, Nat.reduceAdd, Nat.reduceSub, Nat.reduceMul, Nat.reduceLeDiff, Int.reduceEq, Int.reduceLT, Int.reduceLE, Int.reduceAdd, Int.reduceMul, Int.reduceSub, Int.reduceNeg, Int.reduceToNat, reduceIte, Nat.reduceLT, hn]; done) | (simp [Fact.of, Fact.cells, *]; done))
        | (refine go _ _ ?_ ?_ ?_ ?_ ?_ hacc.snoc ?_ ?_ <;> first | (simp only [go_sem, reduceCtorEq, Nat.reduceEqDiff, Nat.reduceAdd, Nat.reduceSub, Nat.reduceMul, Nat.reduceLeDiff, Int.reduceEq, Int.reduceLT, Int.reduceLE, Int.reduceAdd, Int.reduceMul, Int.reduceSub, Int.reduceNeg, Int.reduceToNat, reduceIte, Nat.reduceLT, hn]; done) | (simp [Fact.of, *]; done))
  refine loop l [] [] _ _ rfl rfl rfl rfl ?_ rfl .nil (Nat.le_refl _) hv
  simp only [go_sem, reduceCtorEq, Nat.reduceEqDiff, Nat.reduceAdd, Nat.reduceSub, Nat.reduceMul, Nat.reduceLeDiff, Int.reduceEq, Int.reduceLT, Int.reduceLE, Int.reduceAdd, Int.reduceMul, Int.reduceSub, Int.reduceNeg, Int.reduceToNat, reduceIte, Nat.reduceLT, List.length_map]

end Go.Proofs.YtpjbjdicdjlmeaaGreatDoor.Eng

/- Contracts of the package mutate: may, gone, made. No statement of the seat is proved here. -/
namespace Go.Proofs.YtpjbjdicdjlmeaaGreatDoor.Eng
open Go
set_option linter.unusedVariables false
set_option linter.unusedSimpArgs false

def wideN (n : Int) : Bool := decide (-1099511627776 ≤ n) && decide (n ≤ 1099511627776)
theorem mutate_wide_ok (n : Int) : Pr 18 [iC n] (bC (wideN n)) := by
  refine pure_of mixed is_mutate_wide rfl fun hl T => ?_
  unfold c_mutate_wide
  have w1 : IntKind.wrap .i64 (-1099511627776) = -1099511627776 := by decide
  simp only [go_sem, reduceCtorEq, Nat.reduceEqDiff, Nat.reduceAdd, Nat.reduceSub, Nat.reduceMul, Nat.reduceLeDiff, Int.reduceEq, Int.reduceLT, Int.reduceLE, Int.reduceAdd, Int.reduceMul, Int.reduceSub, Int.reduceNeg, Int.reduceToNat, reduceIte, Nat.reduceLT, w1]
  repeat' (first | (first | refine guardW_split (fun h => ?_) (fun h => ?_) | refine condW_split (fun h => ?_) (fun h => ?_) | refine guardW_nsplit (fun h => ?_) (fun h => ?_) | refine condW_nsplit (fun h => ?_) (fun h => ?_) | refine guardW_nbool (fun h => ?_) (fun h => ?_) | refine condW_ncases (fun h => ?_) (fun h => ?_) | refine guardW_bool (fun h => ?_) (fun h => ?_) | refine condW_cases (fun h => ?_) (fun h => ?_)) | simp only [go_sem, reduceCtorEq, Nat.reduceEqDiff, Nat.reduceAdd, Nat.reduceSub, Nat.reduceMul, Nat.reduceLeDiff, Int.reduceEq, Int.reduceLT, Int.reduceLE, Int.reduceAdd, Int.reduceMul, Int.reduceSub, Int.reduceNeg, Int.reduceToNat, reduceIte, Nat.reduceLT, w1, *])
  all_goals simp [viewA, viewFn, viewC, viewFs, viewCs, viewAs, closedC, closedCs, wideN, *]
theorem mutate_gone_1_ok (f : Fact) (o : OpR) : Pr 26 [.agg f.cells, .c (.fp o.cells 0)] (bC (decide (f.item ≠ o.item))) := by
  refine pure_of mixed is_mutate_gone_1 rfl fun hl T => ?_
  unfold c_mutate_gone_1
  simp only [go_sem, reduceCtorEq, Nat.reduceEqDiff, Nat.reduceAdd, Nat.reduceSub, Nat.reduceMul, Nat.reduceLeDiff, Int.reduceEq, Int.reduceLT, Int.reduceLE, Int.reduceAdd, Int.reduceMul, Int.reduceSub, Int.reduceNeg, Int.reduceToNat, reduceIte, Nat.reduceLT]
  simp [viewA, viewFn, viewC, viewFs, viewCs, viewAs, closedC, closedCs]
theorem mutate_gone_2_ok (f : Fact) (dev : Int) : Pr 27 [.agg f.cells, .c (.fp [.int .i64 dev] 0)] (bC (decide (f.dev ≠ dev))) := by
  refine pure_of mixed is_mutate_gone_2 rfl fun hl T => ?_
  unfold c_mutate_gone_2
  simp only [go_sem, reduceCtorEq, Nat.reduceEqDiff, Nat.reduceAdd, Nat.reduceSub, Nat.reduceMul, Nat.reduceLeDiff, Int.reduceEq, Int.reduceLT, Int.reduceLE, Int.reduceAdd, Int.reduceMul, Int.reduceSub, Int.reduceNeg, Int.reduceToNat, reduceIte, Nat.reduceLT]
  simp [viewA, viewFn, viewC, viewFs, viewCs, viewAs, closedC, closedCs]

theorem mutate_may_ok (dev : Int) (o : OpR) : Pr 12 [iC dev, .agg o.cells] (bC (!badOp dev o)) := by
  refine pure_of mixed is_mutate_may rfl fun hl T => ?_
  unfold c_mutate_may
  obtain ⟨kind, key, item, n⟩ := o
  generalize hv : (!badOp dev ⟨kind, key, item, n⟩) = v
  simp only [go_sem, reduceCtorEq, Nat.reduceEqDiff, Nat.reduceAdd, Nat.reduceSub, Nat.reduceMul, Nat.reduceLeDiff, Int.reduceEq, Int.reduceLT, Int.reduceLE, Int.reduceAdd, Int.reduceMul, Int.reduceSub, Int.reduceNeg, Int.reduceToNat, reduceIte, Nat.reduceLT]
  repeat' (first | (first | refine guardW_split (fun h => ?_) (fun h => ?_) | refine condW_split (fun h => ?_) (fun h => ?_) | refine guardW_nsplit (fun h => ?_) (fun h => ?_) | refine condW_nsplit (fun h => ?_) (fun h => ?_) | refine guardW_nbool (fun h => ?_) (fun h => ?_) | refine condW_ncases (fun h => ?_) (fun h => ?_) | refine guardW_bool (fun h => ?_) (fun h => ?_) | refine condW_cases (fun h => ?_) (fun h => ?_)) | refine callW_pure (mutate_wide_ok n) ?_ | simp only [go_sem, reduceCtorEq, Nat.reduceEqDiff, Nat.reduceAdd, Nat.reduceSub, Nat.reduceMul, Nat.reduceLeDiff, Int.reduceEq, Int.reduceLT, Int.reduceLE, Int.reduceAdd, Int.reduceMul, Int.reduceSub, Int.reduceNeg, Int.reduceToNat, reduceIte, Nat.reduceLT, *])
  all_goals (subst hv; simp [viewA, viewFn, viewC, viewFs, viewCs, viewAs, closedC, closedCs, badOp, wideN, *])
  all_goals first | (rw [Bool.eq_iff_iff]; simp; done) | (rw [Bool.eq_iff_iff]; simp; omega) | omega

theorem slices_DeleteFunc_Fact_own (l : List Fact) (g : Nat) (caps : List Cell) (q : Fact → Bool) (hcc : closedCs caps = true) (hs : l.length ≤ 1000000) (hg : ∀ f : Fact, Pr g (.agg f.cells :: caps.map .c) (bC (q f))) {v : AVal} {G : Heap}
    (ha : Acc 6 (l.map Fact.cells) v G) : ∃ v' G', CallSound Tryz.prog 25 [v, .c (.fn g caps)] G v' G' ∧ Acc 6 ((l.filter fun f => !q f).map Fact.cells) v' G' := by
  rcases ha with ⟨h0, hv⟩ | ⟨b, ext, rfl, hb⟩
  · have hl : l = [] := by simpa using h0
    subst hl
    have hix := slices_IndexFunc_Fact_ok [] g caps q hcc hg
    have h1 : Pr 25 [.c .nilS, .c (.fn g caps)] (.c .nilS) := by
      refine pure_of mixed is_slices_DeleteFunc_Fact (by simp [closedAs, closedA, closedC, hcc]) fun hl T => ?_
      unfold c_slices_DeleteFunc_Fact
      simp only [go_sem, reduceCtorEq, Nat.reduceEqDiff, Nat.reduceAdd, Nat.reduceSub, Nat.reduceMul, Nat.reduceLeDiff, Int.reduceEq, Int.reduceLT, Int.reduceLE, Int.reduceAdd, Int.reduceMul, Int.reduceSub, Int.reduceNeg, Int.reduceToNat, reduceIte, Nat.reduceLT]
      refine callW_pure (hix.wk (.cons (.c (.nilS _)) (.cons (.same _) .nil))) ?_
      simp only [go_sem, reduceCtorEq, Nat.reduceEqDiff, Nat.reduceAdd, Nat.reduceSub, Nat.reduceMul, Nat.reduceLeDiff, Int.reduceEq, Int.reduceLT, Int.reduceLE, Int.reduceAdd, Int.reduceMul, Int.reduceSub, Int.reduceNeg, Int.reduceToNat, reduceIte, Nat.reduceLT, firstF, idxI]
      simp [viewA, viewFn, viewC, viewFs, viewCs, viewAs, closedC, closedCs]
    have h2 : Pr 25 [.c (.zer 6), .c (.fn g caps)] (.c (.zer 6)) := by
      refine pure_of mixed is_slices_DeleteFunc_Fact (by simp [closedAs, closedA, closedC, hcc]) fun hl T => ?_
      unfold c_slices_DeleteFunc_Fact
      simp only [go_sem, reduceCtorEq, Nat.reduceEqDiff, Nat.reduceAdd, Nat.reduceSub, Nat.reduceMul, Nat.reduceLeDiff, Int.reduceEq, Int.reduceLT, Int.reduceLE, Int.reduceAdd, Int.reduceMul, Int.reduceSub, Int.reduceNeg, Int.reduceToNat, reduceIte, Nat.reduceLT]
      refine callW_pure (hix.wk (.cons (.c (.zer _)) (.cons (.same _) .nil))) ?_
      simp only [go_sem, reduceCtorEq, Nat.reduceEqDiff, Nat.reduceAdd, Nat.reduceSub, Nat.reduceMul, Nat.reduceLeDiff, Int.reduceEq, Int.reduceLT, Int.reduceLE, Int.reduceAdd, Int.reduceMul, Int.reduceSub, Int.reduceNeg, Int.reduceToNat, reduceIte, Nat.reduceLT, firstF, idxI]
      simp [viewA, viewFn, viewC, viewFs, viewCs, viewAs, closedC, closedCs]
    rcases hv with rfl | rfl
    · exact ⟨_, _, h1 G, .inl ⟨rfl, .inl rfl⟩⟩
    · exact ⟨_, _, h2 G, .inl ⟨rfl, .inr rfl⟩⟩
  · rw [List.length_map]
    exact sound_ex mixed is_slices_DeleteFunc_Fact (R := fun v' G' => Acc 6 ((l.filter fun f => !q f).map Fact.cells) v' G') fun T => slices_DeleteFunc_Fact_run l ext b g caps q hcc hs hg hb T _ fun v G h => h

theorem filter_two {α : Type} (p q : α → Bool) (l : List α) : (l.filter p).filter q = l.filter (fun x => p x && q x) := by
  rw [List.filter_filter]
  exact List.filter_congr fun x _ => Bool.and_comm _ _

theorem mutate_gone_ok (s : State) (dev : Int) (o : OpR) (hk : 1 ≤ o.kind ∧ o.kind ≤ 5) (hs : s.facts.length ≤ 1000000) : Pr 13 [.agg s.cells, iC dev, .agg o.cells] (.c (factsC (goneL s dev o))) := by
  refine pure_ofW mixed is_mutate_gone (by simp [closedAs, closedA, closedC, State.closed, OpR.cells, closedCs]) fun hl T => ?_
  unfold c_mutate_gone
  have hfl : ∀ p : Fact → Bool, (s.facts.filter p).length ≤ 1000000 := fun p => Nat.le_trans (List.length_filter_le _ _) hs
  have gen : goneL s dev o = s.facts.filter (goesF dev o) := rfl
  rw [gen]
  obtain ⟨kind, key, item, n⟩ := o
  simp only at hk
  have hbx : ∀ H : Heap, mkF H (vBox (iC dev) H) = some (.c (.fp [.int .i64 dev] 0)) := fun H => mkF_boxc rfl
  simp only [go_sem, reduceCtorEq, Nat.reduceEqDiff, Nat.reduceAdd, Nat.reduceSub, Nat.reduceMul, Nat.reduceLeDiff, Int.reduceEq, Int.reduceLT, Int.reduceLE, Int.reduceAdd, Int.reduceMul, Int.reduceSub, Int.reduceNeg, Int.reduceToNat, reduceIte, Nat.reduceLT, closed_runs, closed_facts, hbx]
  by_cases h1 : kind = 1
  · subst h1
    simp only [go_sem, reduceCtorEq, Nat.reduceEqDiff, Nat.reduceAdd, Nat.reduceSub, Nat.reduceMul, Nat.reduceLeDiff, Int.reduceEq, Int.reduceLT, Int.reduceLE, Int.reduceAdd, Int.reduceMul, Int.reduceSub, Int.reduceNeg, Int.reduceToNat, reduceIte, Nat.reduceLT]
    refine callW_pure (facts_Find_ok s key 1 (by omega)) ?_
    simp only [go_sem, reduceCtorEq, Nat.reduceEqDiff, Nat.reduceAdd, Nat.reduceSub, Nat.reduceMul, Nat.reduceLeDiff, Int.reduceEq, Int.reduceLT, Int.reduceLE, Int.reduceAdd, Int.reduceMul, Int.reduceSub, Int.reduceNeg, Int.reduceToNat, reduceIte, Nat.reduceLT]
    have : s.facts.filter (Fact.of key 1) = s.facts.filter (goesF dev ⟨1, key, item, n⟩) := List.filter_congr fun f _ => by simp [Fact.of, goesF]
    rw [this]
    exact ⟨_, by simp [viewA, viewFn, viewC, viewFs, viewCs, viewAs, closedC, closedCs, closed_facts], .same _⟩
  by_cases h23 : kind = 2 ∨ kind = 3
  · have hgo : (s.facts.filter (Fact.of key 2)).filter (fun f => !decide (f.item ≠ item)) = s.facts.filter (goesF dev ⟨kind, key, item, n⟩) := by
      rw [filter_two]
      exact List.filter_congr fun f _ => by simp [Fact.of, goesF, h1, h23, Bool.and_assoc]
    rcases h23 with rfl | rfl
    all_goals
      simp only [go_sem, reduceCtorEq, Nat.reduceEqDiff, Nat.reduceAdd, Nat.reduceSub, Nat.reduceMul, Nat.reduceLeDiff, Int.reduceEq, Int.reduceLT, Int.reduceLE, Int.reduceAdd, Int.reduceMul, Int.reduceSub, Int.reduceNeg, Int.reduceToNat, reduceIte, Nat.reduceLT]
      obtain ⟨v, G, hc, ha⟩ := facts_Find_own s key 2 hs []
      refine callW_at hc (fun h => by cases h) ?_
      simp only [go_sem, reduceCtorEq, Nat.reduceEqDiff, Nat.reduceAdd, Nat.reduceSub, Nat.reduceMul, Nat.reduceLeDiff, Int.reduceEq, Int.reduceLT, Int.reduceLE, Int.reduceAdd, Int.reduceMul, Int.reduceSub, Int.reduceNeg, Int.reduceToNat, reduceIte, Nat.reduceLT]
      obtain ⟨v', G', hd, ha'⟩ := slices_DeleteFunc_Fact_own (s.facts.filter (Fact.of key 2)) 26 [.fp [.int .i64 _, .str key, .str item, .int .i64 n] 0] (fun f => decide (f.item ≠ item)) rfl (hfl _) (fun f => mutate_gone_1_ok f ⟨_, key, item, n⟩) ha
      refine callW_at hd (fun h => by cases h) ?_
      simp only [go_sem, reduceCtorEq, Nat.reduceEqDiff, Nat.reduceAdd, Nat.reduceSub, Nat.reduceMul, Nat.reduceLeDiff, Int.reduceEq, Int.reduceLT, Int.reduceLE, Int.reduceAdd, Int.reduceMul, Int.reduceSub, Int.reduceNeg, Int.reduceToNat, reduceIte, Nat.reduceLT]
      rw [hgo] at ha'
      exact ha'.told (closed_facts _)
  by_cases h4 : kind = 4
  · subst h4
    have hgo : (s.facts.filter (Fact.of key 3)).filter (fun f => !decide (f.dev ≠ dev)) = s.facts.filter (goesF dev ⟨4, key, item, n⟩) := by
      rw [filter_two]
      exact List.filter_congr fun f _ => by simp [Fact.of, goesF, Bool.and_assoc]
    simp only [go_sem, reduceCtorEq, Nat.reduceEqDiff, Nat.reduceAdd, Nat.reduceSub, Nat.reduceMul, Nat.reduceLeDiff, Int.reduceEq, Int.reduceLT, Int.reduceLE, Int.reduceAdd, Int.reduceMul, Int.reduceSub, Int.reduceNeg, Int.reduceToNat, reduceIte, Nat.reduceLT]
    obtain ⟨v, G, hc, ha⟩ := facts_Find_own s key 3 hs []
    refine callW_at hc (fun h => by cases h) ?_
    simp only [go_sem, reduceCtorEq, Nat.reduceEqDiff, Nat.reduceAdd, Nat.reduceSub, Nat.reduceMul, Nat.reduceLeDiff, Int.reduceEq, Int.reduceLT, Int.reduceLE, Int.reduceAdd, Int.reduceMul, Int.reduceSub, Int.reduceNeg, Int.reduceToNat, reduceIte, Nat.reduceLT]
    obtain ⟨v', G', hd, ha'⟩ := slices_DeleteFunc_Fact_own (s.facts.filter (Fact.of key 3)) 27 [.fp [.int .i64 dev] 0] (fun f => decide (f.dev ≠ dev)) rfl (hfl _) (fun f => mutate_gone_2_ok f dev) ha
    refine callW_at hd (fun h => by cases h) ?_
    simp only [go_sem, reduceCtorEq, Nat.reduceEqDiff, Nat.reduceAdd, Nat.reduceSub, Nat.reduceMul, Nat.reduceLeDiff, Int.reduceEq, Int.reduceLT, Int.reduceLE, Int.reduceAdd, Int.reduceMul, Int.reduceSub, Int.reduceNeg, Int.reduceToNat, reduceIte, Nat.reduceLT]
    rw [hgo] at ha'
    exact ha'.told (closed_facts _)
  have h5 : kind = 5 := by omega
  subst h5
  simp only [go_sem, reduceCtorEq, Nat.reduceEqDiff, Nat.reduceAdd, Nat.reduceSub, Nat.reduceMul, Nat.reduceLeDiff, Int.reduceEq, Int.reduceLT, Int.reduceLE, Int.reduceAdd, Int.reduceMul, Int.reduceSub, Int.reduceNeg, Int.reduceToNat, reduceIte, Nat.reduceLT]
  refine callW_pure (facts_Find_ok s key 0 (by omega)) ?_
  simp only [go_sem, reduceCtorEq, Nat.reduceEqDiff, Nat.reduceAdd, Nat.reduceSub, Nat.reduceMul, Nat.reduceLeDiff, Int.reduceEq, Int.reduceLT, Int.reduceLE, Int.reduceAdd, Int.reduceMul, Int.reduceSub, Int.reduceNeg, Int.reduceToNat, reduceIte, Nat.reduceLT]
  have : s.facts.filter (Fact.of key 0) = s.facts.filter (goesF dev ⟨5, key, item, n⟩) := List.filter_congr fun f _ => by simp [Fact.of, goesF]
  rw [this]
  exact ⟨_, by simp [viewA, viewFn, viewC, viewFs, viewCs, viewAs, closedC, closedCs, closed_facts], .same _⟩

/-- The fact that a deed makes, behind those that it takes away. -/
def sumUp (n : Int) (l : List Fact) : Int := l.foldl (fun n f => W (n + f.num)) n
theorem sumFrom_gone {dev : Int} {o : OpR} : ∀ {l : List Fact} {n : Int}, sumFrom dev o n l = sumUp n (l.filter (goesF dev o))
  | [], n => rfl
  | f :: l, n => by
    unfold sumFrom
    cases h : goesF dev o f with
    | true => rw [if_pos rfl, List.filter_cons_of_pos h, sumFrom_gone]; rfl
    | false => rw [if_neg (by simp), List.filter_cons_of_neg (by simp [h]), sumFrom_gone]
def madeBy (o : OpR) (d : Dot) (old : List Fact) : Fact := ⟨d.dev, d.n, o.key, if o.kind = 4 then 3 else o.kind, if o.kind = 4 then emptyB else o.item, if o.kind = 4 then sumUp o.n old else 0⟩

theorem mutate_made_ok (o : OpR) (d : Dot) (old : List Fact) (hk : 1 ≤ o.kind ∧ o.kind ≤ 5) (hs : old.length ≤ 1000000) :
    Pr 14 [.agg o.cells, .agg d.cells, .c (factsC old)] (.c (factsC (if makes o then [madeBy o d old] else []))) := by
  refine pure_ofW mixed is_mutate_made (by simp [closedAs, closedA, closedC, closed_factsC, OpR.cells, Dot.cells, closedCs]) fun hl T => ?_
  unfold c_mutate_made
  obtain ⟨kind, key, item, n⟩ := o
  obtain ⟨dev, num⟩ := d
  simp only at hk
  have none : ∀ H : Heap, viewW H (.c .nilS) (.c (.lst 6 [])) := fun H => ⟨_, rfl, .c (.nilS _)⟩
  have one : ∀ (f : Fact) (H : Heap), viewW H (.c (.lst 6 [f.cells])) (.c (.lst 6 [f.cells])) := fun f H => ⟨_, by simp [viewA, viewFn, viewC, viewFs, viewCs, viewAs, closedC, closedCs, closedR, Fact.cells], .same _⟩
  dsimp only [factsC]
  simp only [go_sem, reduceCtorEq, Nat.reduceEqDiff, Nat.reduceAdd, Nat.reduceSub, Nat.reduceMul, Nat.reduceLeDiff, Int.reduceEq, Int.reduceLT, Int.reduceLE, Int.reduceAdd, Int.reduceMul, Int.reduceSub, Int.reduceNeg, Int.reduceToNat, reduceIte, Nat.reduceLT]
  by_cases h1 : kind = 1
  · subst h1
    simp only [go_sem, reduceCtorEq, Nat.reduceEqDiff, Nat.reduceAdd, Nat.reduceSub, Nat.reduceMul, Nat.reduceLeDiff, Int.reduceEq, Int.reduceLT, Int.reduceLE, Int.reduceAdd, Int.reduceMul, Int.reduceSub, Int.reduceNeg, Int.reduceToNat, reduceIte, Nat.reduceLT]
    unfold mutate_made_K1
    simp only [go_sem, reduceCtorEq, Nat.reduceEqDiff, Nat.reduceAdd, Nat.reduceSub, Nat.reduceMul, Nat.reduceLeDiff, Int.reduceEq, Int.reduceLT, Int.reduceLE, Int.reduceAdd, Int.reduceMul, Int.reduceSub, Int.reduceNeg, Int.reduceToNat, reduceIte, Nat.reduceLT]
    exact one ⟨dev, num, key, 1, item, 0⟩ _
  by_cases h2 : kind = 2
  · subst h2
    simp only [go_sem, reduceCtorEq, Nat.reduceEqDiff, Nat.reduceAdd, Nat.reduceSub, Nat.reduceMul, Nat.reduceLeDiff, Int.reduceEq, Int.reduceLT, Int.reduceLE, Int.reduceAdd, Int.reduceMul, Int.reduceSub, Int.reduceNeg, Int.reduceToNat, reduceIte, Nat.reduceLT]
    unfold mutate_made_K1
    simp only [go_sem, reduceCtorEq, Nat.reduceEqDiff, Nat.reduceAdd, Nat.reduceSub, Nat.reduceMul, Nat.reduceLeDiff, Int.reduceEq, Int.reduceLT, Int.reduceLE, Int.reduceAdd, Int.reduceMul, Int.reduceSub, Int.reduceNeg, Int.reduceToNat, reduceIte, Nat.reduceLT]
    exact one ⟨dev, num, key, 2, item, 0⟩ _
  by_cases h4 : kind = 4
  · subst h4
    have hmk : (if makes ⟨4, key, item, n⟩ = true then [madeBy ⟨4, key, item, n⟩ ⟨dev, num⟩ old] else []) = [madeBy ⟨4, key, item, n⟩ ⟨dev, num⟩ old] := if_pos rfl
    rw [hmk]
    have hlo : old.length ≤ maxLen := by unfold maxLen; omega
    have hcl : closedR (old.map Fact.cells) = true := closed_facts old
    simp only [go_sem, reduceCtorEq, Nat.reduceEqDiff, Nat.reduceAdd, Nat.reduceSub, Nat.reduceMul, Nat.reduceLeDiff, Int.reduceEq, Int.reduceLT, Int.reduceLE, Int.reduceAdd, Int.reduceMul, Int.reduceSub, Int.reduceNeg, Int.reduceToNat, reduceIte, Nat.reduceLT, List.length_map]
    have loop : ∀ (rest pre : List Fact) (x : Int) (e : Env) (H : Heap), old = pre ++ rest → e 7 = .c (.ptr 0 0 0) → e 34 = .c (.lst 6 (old.map Fact.cells)) → e 35 = iC old.length → e 36 = iC pre.length → sumUp x rest = sumUp n old →
        Run (progT Tryz.prog T) ⟨[.tmp 6], fun u E => viewW E u (.c (.lst 6 [(madeBy ⟨4, key, item, n⟩ ⟨dev, num⟩ old).cells]))⟩ [.loop mutate_made_L0, .blk 1, .blk 0, .code mutate_made_K1] e ({ sz := 6, rows := [[.int .i64 dev, .int .i64 num, .str key, .int .i64 3, .str emptyB, .int .i64 x]] } :: H) := by
      intro rest
      induction rest with
      | nil =>
        intro pre x e H hp h7 h34 h35 h36 hm
        have hc := not_lt_at (f := Fact.cells) hp
        simp only [List.length_map] at hc
        refine run_again ?_
        conv => enter [3, 1]; unfold mutate_made_L0
        simp only [go_sem, reduceCtorEq, Nat.reduceEqDiff, Nat.reduceAdd, Nat.reduceSub, Nat.reduceMul, Nat.reduceLeDiff, Int.reduceEq, Int.reduceLT, Int.reduceLE, Int.reduceAdd, Int.reduceMul, Int.reduceSub, Int.reduceNeg, Int.reduceToNat, reduceIte, Nat.reduceLT, h7, h34, h35, h36, hc]
        unfold mutate_made_K1
        simp only [go_sem, reduceCtorEq, Nat.reduceEqDiff, Nat.reduceAdd, Nat.reduceSub, Nat.reduceMul, Nat.reduceLeDiff, Int.reduceEq, Int.reduceLT, Int.reduceLE, Int.reduceAdd, Int.reduceMul, Int.reduceSub, Int.reduceNeg, Int.reduceToNat, reduceIte, Nat.reduceLT, h7]
        have hx : x = sumUp n old := hm
        rw [hx]
        exact one (madeBy ⟨4, key, item, n⟩ ⟨dev, num⟩ old) _
      | cons r rest ih =>
        intro pre x e H hp h7 h34 h35 h36 hm
        have hc := lt_at (f := Fact.cells) hp
        simp only [List.length_map] at hc
        have hr := map_at' (f := Fact.cells) hp
        have hn := next_at hp hlo
        refine run_again ?_
        conv => enter [3, 1]; unfold mutate_made_L0
        simp only [go_sem, reduceCtorEq, Nat.reduceEqDiff, Nat.reduceAdd, Nat.reduceSub, Nat.reduceMul, Nat.reduceLeDiff, Int.reduceEq, Int.reduceLT, Int.reduceLE, Int.reduceAdd, Int.reduceMul, Int.reduceSub, Int.reduceNeg, Int.reduceToNat, reduceIte, Nat.reduceLT, h7, h34, h35, h36, hc, hr, hn]
        refine ih (pre ++ [r]) (W (x + r.num)) _ _ (by simp [hp]) ?_ ?_ ?_ ?_ ?_
        all_goals first | (simp only [go_sem, reduceCtorEq, Nat.reduceEqDiff, Nat.reduceAdd, Nat.reduceSub, Nat.reduceMul, Nat.reduceLeDiff, Int.reduceEq, Int.reduceLT, Int.reduceLE, Int.reduceAdd, Int.reduceMul, Int.reduceSub, Int.reduceNeg, Int.reduceToNat, reduceIte, Nat.reduceLT, h7, h34, h35, hn]; done) | exact hm
    refine loop old [] n _ _ rfl ?_ ?_ ?_ ?_ rfl
    all_goals simp only [go_sem, reduceCtorEq, Nat.reduceEqDiff, Nat.reduceAdd, Nat.reduceSub, Nat.reduceMul, Nat.reduceLeDiff, Int.reduceEq, Int.reduceLT, Int.reduceLE, Int.reduceAdd, Int.reduceMul, Int.reduceSub, Int.reduceNeg, Int.reduceToNat, reduceIte, Nat.reduceLT, List.length_nil, Int.natCast_zero]
  have hm : makes ⟨kind, key, item, n⟩ = false := by
    have : kind = 3 ∨ kind = 5 := by omega
    rcases this with rfl | rfl <;> rfl
  simp only [go_sem, reduceCtorEq, Nat.reduceEqDiff, Nat.reduceAdd, Nat.reduceSub, Nat.reduceMul, Nat.reduceLeDiff, Int.reduceEq, Int.reduceLT, Int.reduceLE, Int.reduceAdd, Int.reduceMul, Int.reduceSub, Int.reduceNeg, Int.reduceToNat, reduceIte, Nat.reduceLT, h1, h2, h4, hm]
  exact none _

end Go.Proofs.YtpjbjdicdjlmeaaGreatDoor.Eng

/- The contract of mutate.delta. No statement of the seat is proved here. -/
namespace Go.Proofs.YtpjbjdicdjlmeaaGreatDoor.Eng
open Go
set_option linter.unusedVariables false
set_option linter.unusedSimpArgs false

def errC (e : Int) : Cell := if e = 0 then .nilI else refusalC e
def madeL (s : State) (dev : Int) (o : OpR) : List Fact := if makes o then [madeF s dev o] else []
theorem delta_out (s : State) (dev : Int) (o : OpR) : deltaL s dev o = ⟨dotsL ((goneL s dev o ++ madeL s dev o).map Fact.dot), madeL s dev o⟩ := by
  unfold deltaL madeL
  cases makes o <;> simp
theorem madeBy_is (s : State) (dev : Int) (o : OpR) : madeBy o ⟨dev, lastL s.seen dev + 1⟩ (goneL s dev o) = madeF s dev o := by
  unfold madeBy madeF
  rw [sumFrom_gone]
  rfl
theorem slices_Concat_Fact_ok (a b : List Fact) (hs : a.length + b.length ≤ 1000000) (h0 : a ++ b ≠ []) : Pr 16 [.c (.lst 1 [[factsC a], [factsC b]])] (.c (factsC (a ++ b))) := by
  obtain ⟨v, G, h1, _, _, _, h2⟩ := slices_Concat_Fact_own a b hs []
  obtain ⟨blk, rfl, hb⟩ := h2 (by simpa using h0)
  refine h1.pure (by simp [closedAs, closedA, closedC, closedR, closedCs, closed_factsC]) ?_
  have hl : (List.map Fact.cells (a ++ b)).length ≠ 0 := by
    intro e; exact h0 (by simpa using List.eq_nil_of_length_eq_zero e)
  have ht : ((a ++ b).map Fact.cells).take ((a ++ b).map Fact.cells).length = (a ++ b).map Fact.cells := List.take_length
  simp only [viewA, viewFn, viewC, hl, if_false, hb, ht, closed_facts, Nat.zero_add, Nat.le_refl, and_self, if_true, List.drop_zero]
  rfl

section
variable {s : State} {dev : Int} {o : OpR} {v : State × Int}
theorem told_err {E : Heap} {q : Int} (hq : q ≠ 0) : viewW E (.tup [.agg [.nilS, .nilS], .c (.iface 52 true [.int .i64 q])]) (.tup [.agg (State.cells ⟨[], []⟩), .c (errC q)]) := by
  refine viewW_tup2 (SC.nil.told) ?_
  unfold errC
  rw [if_neg hq]
  exact ⟨_, by simp [viewA, viewFn, viewC, viewFs, viewCs, viewAs, closedC, closedCs], .same _⟩

/-- Behind all tests: whether there is room. -/
theorem mutate_delta_K2_ok (T : Nat → Option AFun) (hg : Good s) (hd : Good (deltaL s dev o)) (hs1 : s.seen.length ≤ 100000) (hs2 : s.facts.length ≤ 1000) (hv : (if 400 < (joinL s (deltaL s dev o)).facts.length then (⟨[], []⟩, 4) else (deltaL s dev o, 0)) = v)
    {e : Env} {H : Heap} (h3 : e 3 = .c (.fp s.cells 0)) (h6 : e 6 = .c (.ptr 0 0 0)) (h9 : e 9 = .c (.ptr 1 0 0)) (k0 : H[0]? = some { sz := 2, rows := [[.nilS, .nilS]], own := true, live := true }) (k1 : H[1]? = some { sz := 2, rows := [(deltaL s dev o).cells], own := true, live := true }) :
    Run (progT Tryz.prog T) ⟨[.cell 6 true 2, .tmp 7], fun u E => viewW E u (.tup [.agg v.1.cells, .c (errC v.2)])⟩ [.code mutate_delta_K2] e H := by
  obtain ⟨l1, l2⟩ := delta_len (s := s) (dev := dev) (o := o)
  have hj := join_Join_ok s (deltaL s dev o) hg hd (by omega) (by omega)
  unfold mutate_delta_K2
  generalize deltaL s dev o = d at *
  simp only [State.cells, runsC, factsC] at k1
  simp only [go_sem, reduceCtorEq, Nat.reduceEqDiff, Nat.reduceAdd, Nat.reduceSub, Nat.reduceMul, Nat.reduceLeDiff, Int.reduceEq, Int.reduceLT, Int.reduceLE, Int.reduceAdd, Int.reduceMul, Int.reduceSub, Int.reduceNeg, Int.reduceToNat, reduceIte, Nat.reduceLT, h3, h6, h9, box_row k1]
  refine callW_pure hj ?_
  generalize joinL s d = j at *
  by_cases hl : 400 < j.facts.length
  · have hl' : ((j.facts.map Fact.cells).length : Int) > 400 := by simp; omega
    rw [if_pos hl] at hv
    subst hv
    have n0 := set_get (B' := { sz := 2, rows := [[.nilS, .nilS]], own := true, live := true }) k0
    simp only [go_sem, reduceCtorEq, Nat.reduceEqDiff, Nat.reduceAdd, Nat.reduceSub, Nat.reduceMul, Nat.reduceLeDiff, Int.reduceEq, Int.reduceLT, Int.reduceLE, Int.reduceAdd, Int.reduceMul, Int.reduceSub, Int.reduceNeg, Int.reduceToNat, reduceIte, Nat.reduceLT, h6, hl', box_mine k0, box_put k0, box_row k0, box_row n0]
    exact told_err (by omega)
  · have hl' : ¬ ((j.facts.map Fact.cells).length : Int) > 400 := by simp; omega
    rw [if_neg hl] at hv
    subst hv
    have n0 := set_get (B' := { sz := 2, rows := [d.cells], own := true, live := true }) k0
    simp only [State.cells, runsC, factsC] at n0
    simp only [go_sem, reduceCtorEq, Nat.reduceEqDiff, Nat.reduceAdd, Nat.reduceSub, Nat.reduceMul, Nat.reduceLeDiff, Int.reduceEq, Int.reduceLT, Int.reduceLE, Int.reduceAdd, Int.reduceMul, Int.reduceSub, Int.reduceNeg, Int.reduceToNat, reduceIte, Nat.reduceLT, h6, h9, hl', box_mine k0, box_put k0, box_row k0, box_row k1, box_row n0]
    refine viewW_tup2 (told_S _ d) ?_
    exact ⟨_, rfl, .same _⟩

theorem mutate_delta_L1_ok (T : Nat → Option AFun) (hg : Good s) (hb : badOp dev o = false) (hs1 : s.seen.length ≤ 100000) (hs2 : s.facts.length ≤ 1000)
    (hv : (if (makes o && largeF (madeF s dev o)) = true then (⟨[], []⟩, 4) else if 400 < (joinL s (deltaL s dev o)).facts.length then (⟨[], []⟩, 4) else (deltaL s dev o, 0)) = v)
    {e : Env} {H : Heap} (h3 : e 3 = .c (.fp s.cells 0)) (h6 : e 6 = .c (.ptr 0 0 0)) (h9 : e 9 = .c (.ptr 1 0 0)) (h67 : e 67 = .c (.lst 6 ((madeL s dev o).map Fact.cells))) (h68 : e 68 = iC (madeL s dev o).length) (h69 : e 69 = iC 0)
    (k0 : H[0]? = some { sz := 2, rows := [[.nilS, .nilS]], own := true, live := true }) (k1 : H[1]? = some { sz := 2, rows := [(deltaL s dev o).cells], own := true, live := true }) :
    Run (progT Tryz.prog T) ⟨[.cell 6 true 2, .tmp 7], fun u E => viewW E u (.tup [.agg v.1.cells, .c (errC v.2)])⟩ [.loop mutate_delta_L1, .blk 2, .code mutate_delta_K2] e H := by
  have hl0 := (List.getElem?_eq_some_iff.1 k0).1
  have hl1 := (List.getElem?_eq_some_iff.1 k1).1
  refine run_again ?_
  conv => enter [3, 1]; unfold mutate_delta_L1
  cases hm : makes o with
  | false =>
    have hml : madeL s dev o = [] := by unfold madeL; rw [hm]; rfl
    have hd := delta_good hg hb (by rw [hm]; rfl : (makes o && largeF (madeF s dev o)) = false)
    rw [hm, Bool.false_and, if_neg (by simp)] at hv
    rw [hml] at h67 h68
    simp only [go_sem, reduceCtorEq, Nat.reduceEqDiff, Nat.reduceAdd, Nat.reduceSub, Nat.reduceMul, Nat.reduceLeDiff, Int.reduceEq, Int.reduceLT, Int.reduceLE, Int.reduceAdd, Int.reduceMul, Int.reduceSub, Int.reduceNeg, Int.reduceToNat, reduceIte, Nat.reduceLT, h67, h68, h69]
    refine mutate_delta_K2_ok T hg hd hs1 hs2 hv ?_ ?_ ?_ k0 k1
    all_goals simp only [go_sem, reduceCtorEq, Nat.reduceEqDiff, Nat.reduceAdd, Nat.reduceSub, Nat.reduceMul, Nat.reduceLeDiff, Int.reduceEq, Int.reduceLT, Int.reduceLE, Int.reduceAdd, Int.reduceMul, Int.reduceSub, Int.reduceNeg, Int.reduceToNat, reduceIte, Nat.reduceLT, h3, h6, h9, State.cells]
  | true =>
    have hml : madeL s dev o = [madeF s dev o] := by unfold madeL; rw [hm]; rfl
    rw [hm, Bool.true_and] at hv
    rw [hml] at h67 h68
    have c1 : (((1 : Nat) : Int)) = 1 := rfl
    have c01 : (0 : Int) < 1 := by decide
    have cx : ∀ (x : List Cell) (H : Heap), vIx 6 (.c (.lst 6 [x])) (iC 0) H = some (.c (.fp x 0), H) := fun _ _ => rfl
    have w1 : IntKind.wrap .i64 1 = 1 := by decide
    have w01 : IntKind.wrap .i64 (0 + 1) = 1 := by decide
    generalize hf : madeF s dev o = f at *
    have hw := mutate_wide_ok f.num
    have n0 := set_get (B' := { sz := 2, rows := [[.nilS, .nilS]], own := true, live := true }) k0
    have hrr : ∀ K : Blk, Heap.row (H.set 0 { sz := 2, rows := [[.nilS, .nilS]], own := true, live := true } ++ [K]) 0 0 = some [.nilS, .nilS] := fun K => by rw [row_prev (by simpa using hl0), box_row n0]
    by_cases hn : f.n > 4503599627370496
    · have hlarge : largeF f = true := by unfold largeF; simp [hn]
      rw [if_pos hlarge] at hv
      subst hv
      simp only [go_sem, reduceCtorEq, Nat.reduceEqDiff, Nat.reduceAdd, Nat.reduceSub, Nat.reduceMul, Nat.reduceLeDiff, Int.reduceEq, Int.reduceLT, Int.reduceLE, Int.reduceAdd, Int.reduceMul, Int.reduceSub, Int.reduceNeg, Int.reduceToNat, reduceIte, Nat.reduceLT, h3, h6, h67, h68, h69, c1, c01, cx, hn, hl0, hl1, box_mine k0, box_put k0, box_row k0, hrr]
      exact told_err (by omega)
    · simp only [go_sem, reduceCtorEq, Nat.reduceEqDiff, Nat.reduceAdd, Nat.reduceSub, Nat.reduceMul, Nat.reduceLeDiff, Int.reduceEq, Int.reduceLT, Int.reduceLE, Int.reduceAdd, Int.reduceMul, Int.reduceSub, Int.reduceNeg, Int.reduceToNat, reduceIte, Nat.reduceLT, h3, h6, h67, h68, h69, c1, c01, cx, hn, hl0, hl1]
      refine callW_pure hw ?_
      cases hwd : wideN f.num with
      | false =>
        have hlarge : largeF f = true := by
          unfold wideN at hwd
          unfold largeF
          simp only [Bool.and_eq_false_iff, decide_eq_false_iff_not, Bool.or_eq_true, decide_eq_true_eq] at hwd ⊢
          omega
        rw [if_pos hlarge] at hv
        subst hv
        simp only [go_sem, reduceCtorEq, Nat.reduceEqDiff, Nat.reduceAdd, Nat.reduceSub, Nat.reduceMul, Nat.reduceLeDiff, Int.reduceEq, Int.reduceLT, Int.reduceLE, Int.reduceAdd, Int.reduceMul, Int.reduceSub, Int.reduceNeg, Int.reduceToNat, reduceIte, Nat.reduceLT, h3, h6, h67, h68, h69, hl0, hl1, box_mine k0, box_put k0, box_row k0, hrr]
        exact told_err (by omega)
      | true =>
        have hlarge : largeF f = false := by
          unfold wideN at hwd
          unfold largeF
          simp only [Bool.and_eq_true, decide_eq_true_eq, Bool.or_eq_false_iff, decide_eq_false_iff_not] at hwd ⊢
          omega
        rw [if_neg (by simp [hlarge])] at hv
        have hd := delta_good hg hb (by rw [hf, hlarge, Bool.and_false] : (makes o && largeF (madeF s dev o)) = false)
        simp only [go_sem, reduceCtorEq, Nat.reduceEqDiff, Nat.reduceAdd, Nat.reduceSub, Nat.reduceMul, Nat.reduceLeDiff, Int.reduceEq, Int.reduceLT, Int.reduceLE, Int.reduceAdd, Int.reduceMul, Int.reduceSub, Int.reduceNeg, Int.reduceToNat, reduceIte, Nat.reduceLT, h69, w1, w01]
        refine run_again ?_
        conv => enter [3, 1]; unfold mutate_delta_L1
        simp only [go_sem, reduceCtorEq, Nat.reduceEqDiff, Nat.reduceAdd, Nat.reduceSub, Nat.reduceMul, Nat.reduceLeDiff, Int.reduceEq, Int.reduceLT, Int.reduceLE, Int.reduceAdd, Int.reduceMul, Int.reduceSub, Int.reduceNeg, Int.reduceToNat, reduceIte, Nat.reduceLT, h68, c1]
        refine mutate_delta_K2_ok T hg hd hs1 hs2 hv ?_ ?_ ?_ ?_ ?_
        any_goals simp only [go_sem, reduceCtorEq, Nat.reduceEqDiff, Nat.reduceAdd, Nat.reduceSub, Nat.reduceMul, Nat.reduceLeDiff, Int.reduceEq, Int.reduceLT, Int.reduceLE, Int.reduceAdd, Int.reduceMul, Int.reduceSub, Int.reduceNeg, Int.reduceToNat, reduceIte, Nat.reduceLT, h3, h6, h9, State.cells]
        · rw [get_prev hl0]; exact k0
        · rw [get_prev hl1]; exact k1

theorem mutate_delta_loop (T : Nat → Option AFun) (hg : Good s) (hb : badOp dev o = false) (hs1 : s.seen.length ≤ 100000) (hs2 : s.facts.length ≤ 1000) (l : List Fact) (hl : l = goneL s dev o ++ madeL s dev o) (hll : l.length ≤ 1001)
    (hv : (if (makes o && largeF (madeF s dev o)) = true then (⟨[], []⟩, 4) else if 400 < (joinL s (deltaL s dev o)).facts.length then (⟨[], []⟩, 4) else (deltaL s dev o, 0)) = v) :
    ∀ (rest pre : List Fact) (e : Env) (H : Heap), l = pre ++ rest → e 3 = .c (.fp s.cells 0) → e 6 = .c (.ptr 0 0 0) → e 9 = .c (.ptr 1 0 0) → e 51 = .c (.lst 6 (l.map Fact.cells)) → e 52 = iC l.length → e 53 = iC pre.length →
      H[0]? = some { sz := 2, rows := [[.nilS, .nilS]], own := true, live := true } → H[1]? = some { sz := 2, rows := [[.nilS, factsC (madeL s dev o)]], own := true, live := true } → NB (e 10) 0 → NB (e 10) 1 → Acc 2 ((pre.map Fact.dot).map Dot.cells) (e 10) H →
      Run (progT Tryz.prog T) ⟨[.cell 6 true 2, .tmp 7], fun u E => viewW E u (.tup [.agg v.1.cells, .c (errC v.2)])⟩ [.loop mutate_delta_L0, .blk 0, .code mutate_delta_K3] e H := by
  intro rest
  induction rest with
  | nil =>
    intro pre e H hp h3 h6 h9 h51 h52 h53 k0 k1 n0 n1 hacc
    have hc : ¬ ((pre.length : Int) < (l.length : Int)) := by rw [hp]; simp
    refine run_again ?_
    conv => enter [3, 1]; unfold mutate_delta_L0
    simp only [go_sem, reduceCtorEq, Nat.reduceEqDiff, Nat.reduceAdd, Nat.reduceSub, Nat.reduceMul, Nat.reduceLeDiff, Int.reduceEq, Int.reduceLT, Int.reduceLE, Int.reduceAdd, Int.reduceMul, Int.reduceSub, Int.reduceNeg, Int.reduceToNat, reduceIte, Nat.reduceLT, h51, h52, h53, hc]
    unfold mutate_delta_K3
    refine Acc.fz_keep (sz := 2) (rows := (pre.map Fact.dot).map Dot.cells) (by simp only [go_sem, reduceCtorEq, Nat.reduceEqDiff, Nat.reduceAdd, Nat.reduceSub, Nat.reduceMul, Nat.reduceLeDiff, Int.reduceEq, Int.reduceLT, Int.reduceLE, Int.reduceAdd, Int.reduceMul, Int.reduceSub, Int.reduceNeg, Int.reduceToNat, reduceIte, Nat.reduceLT]; exact hacc) fun e' H' g10 gc gp gh gl => ?_
    have g3 : e' 3 = .c (.fp s.cells 0) := gc 3 _ (by simp only [go_sem, reduceCtorEq, Nat.reduceEqDiff, Nat.reduceAdd, Nat.reduceSub, Nat.reduceMul, Nat.reduceLeDiff, Int.reduceEq, Int.reduceLT, Int.reduceLE, Int.reduceAdd, Int.reduceMul, Int.reduceSub, Int.reduceNeg, Int.reduceToNat, reduceIte, Nat.reduceLT, h3]) (State.closed s) (by omega)
    have g6 : e' 6 = .c (.ptr 0 0 0) := gp 6 0 0 0 (by simp only [go_sem, reduceCtorEq, Nat.reduceEqDiff, Nat.reduceAdd, Nat.reduceSub, Nat.reduceMul, Nat.reduceLeDiff, Int.reduceEq, Int.reduceLT, Int.reduceLE, Int.reduceAdd, Int.reduceMul, Int.reduceSub, Int.reduceNeg, Int.reduceToNat, reduceIte, Nat.reduceLT, h6]) (by simp only [go_sem, reduceCtorEq, Nat.reduceEqDiff, Nat.reduceAdd, Nat.reduceSub, Nat.reduceMul, Nat.reduceLeDiff, Int.reduceEq, Int.reduceLT, Int.reduceLE, Int.reduceAdd, Int.reduceMul, Int.reduceSub, Int.reduceNeg, Int.reduceToNat, reduceIte, Nat.reduceLT]; exact n0)
    have g9 : e' 9 = .c (.ptr 1 0 0) := gp 9 1 0 0 (by simp only [go_sem, reduceCtorEq, Nat.reduceEqDiff, Nat.reduceAdd, Nat.reduceSub, Nat.reduceMul, Nat.reduceLeDiff, Int.reduceEq, Int.reduceLT, Int.reduceLE, Int.reduceAdd, Int.reduceMul, Int.reduceSub, Int.reduceNeg, Int.reduceToNat, reduceIte, Nat.reduceLT, h9]) (by simp only [go_sem, reduceCtorEq, Nat.reduceEqDiff, Nat.reduceAdd, Nat.reduceSub, Nat.reduceMul, Nat.reduceLeDiff, Int.reduceEq, Int.reduceLT, Int.reduceLE, Int.reduceAdd, Int.reduceMul, Int.reduceSub, Int.reduceNeg, Int.reduceToNat, reduceIte, Nat.reduceLT]; exact n1)
    have j0 := gh 0 _ k0 (by simp only [go_sem, reduceCtorEq, Nat.reduceEqDiff, Nat.reduceAdd, Nat.reduceSub, Nat.reduceMul, Nat.reduceLeDiff, Int.reduceEq, Int.reduceLT, Int.reduceLE, Int.reduceAdd, Int.reduceMul, Int.reduceSub, Int.reduceNeg, Int.reduceToNat, reduceIte, Nat.reduceLT]; exact n0)
    have j1 := gh 1 _ k1 (by simp only [go_sem, reduceCtorEq, Nat.reduceEqDiff, Nat.reduceAdd, Nat.reduceSub, Nat.reduceMul, Nat.reduceLeDiff, Int.reduceEq, Int.reduceLT, Int.reduceLE, Int.reduceAdd, Int.reduceMul, Int.reduceSub, Int.reduceNeg, Int.reduceToNat, reduceIte, Nat.reduceLT]; exact n1)
    rw [List.append_nil] at hp
    have hof := dots_Of_is (pre.map Fact.dot) (by unfold Sm; rw [← hp]; simp; omega)
    have hdel : deltaL s dev o = ⟨dotsL (pre.map Fact.dot), madeL s dev o⟩ := by rw [delta_out, ← hl, hp]
    simp only [go_sem, reduceCtorEq, Nat.reduceEqDiff, Nat.reduceAdd, Nat.reduceSub, Nat.reduceMul, Nat.reduceLeDiff, Int.reduceEq, Int.reduceLT, Int.reduceLE, Int.reduceAdd, Int.reduceMul, Int.reduceSub, Int.reduceNeg, Int.reduceToNat, reduceIte, Nat.reduceLT, g10]
    refine callW_pure hof ?_
    have m1 := set_get (B' := { sz := 2, rows := [[runsC (dotsL (pre.map Fact.dot)), factsC (madeL s dev o)]], own := true, live := true }) j1
    have m0 := set_get_ne (B' := { sz := 2, rows := [[runsC (dotsL (pre.map Fact.dot)), factsC (madeL s dev o)]], own := true, live := true }) j0 (b := 1) (by omega)
    simp only [runsC, factsC] at j1 m1 m0
    simp only [go_sem, reduceCtorEq, Nat.reduceEqDiff, Nat.reduceAdd, Nat.reduceSub, Nat.reduceMul, Nat.reduceLeDiff, Int.reduceEq, Int.reduceLT, Int.reduceLE, Int.reduceAdd, Int.reduceMul, Int.reduceSub, Int.reduceNeg, Int.reduceToNat, reduceIte, Nat.reduceLT, g9, box_row j1, box_mine j1, box_put j1, box_row m1, List.length_map]
    refine mutate_delta_L1_ok T hg hb hs1 hs2 hv ?_ ?_ ?_ ?_ ?_ ?_ m0 (by rw [hdel]; exact m1)
    all_goals simp only [go_sem, reduceCtorEq, Nat.reduceEqDiff, Nat.reduceAdd, Nat.reduceSub, Nat.reduceMul, Nat.reduceLeDiff, Int.reduceEq, Int.reduceLT, Int.reduceLE, Int.reduceAdd, Int.reduceMul, Int.reduceSub, Int.reduceNeg, Int.reduceToNat, reduceIte, Nat.reduceLT, g3, g6, g9, State.cells]
  | cons r rest ih =>
    intro pre e H hp h3 h6 h9 h51 h52 h53 k0 k1 n0 n1 hacc
    have hc : ((pre.length : Int) < (l.length : Int)) := by rw [hp]; simp; omega
    have hr := map_at' (f := Fact.cells) hp
    have hn := next_at hp (by unfold maxLen; omega)
    have hpl : pre.length < l.length := by rw [hp]; simp
    have hl0 := (List.getElem?_eq_some_iff.1 k0).1
    have hl1 := (List.getElem?_eq_some_iff.1 k1).1
    refine run_again ?_
    conv => enter [3, 1]; unfold mutate_delta_L0
    simp only [go_sem, reduceCtorEq, Nat.reduceEqDiff, Nat.reduceAdd, Nat.reduceSub, Nat.reduceMul, Nat.reduceLeDiff, Int.reduceEq, Int.reduceLT, Int.reduceLE, Int.reduceAdd, Int.reduceMul, Int.reduceSub, Int.reduceNeg, Int.reduceToNat, reduceIte, Nat.reduceLT, h51, h52, h53, hc, hr]
    refine (hacc.snoc).app_keep (bytes := 16) (new := [[.int .i64 r.dev, .int .i64 r.n]]) (by simp; omega) fun v' H' hv' hkeep => ?_
    obtain ⟨q0, q0'⟩ := hkeep 0 _ n0 (by rw [get_prev hl0]; exact k0)
    obtain ⟨q1, q1'⟩ := hkeep 1 _ n1 (by rw [get_prev hl1]; exact k1)
    simp only [go_sem, reduceCtorEq, Nat.reduceEqDiff, Nat.reduceAdd, Nat.reduceSub, Nat.reduceMul, Nat.reduceLeDiff, Int.reduceEq, Int.reduceLT, Int.reduceLE, Int.reduceAdd, Int.reduceMul, Int.reduceSub, Int.reduceNeg, Int.reduceToNat, reduceIte, Nat.reduceLT, h53, hn]
    refine ih (pre ++ [r]) _ _ (by simp [hp]) ?_ ?_ ?_ ?_ ?_ ?_ q0 q1 ?_ ?_ ?_
    any_goals simp only [go_sem, reduceCtorEq, Nat.reduceEqDiff, Nat.reduceAdd, Nat.reduceSub, Nat.reduceMul, Nat.reduceLeDiff, Int.reduceEq, Int.reduceLT, Int.reduceLE, Int.reduceAdd, Int.reduceMul, Int.reduceSub, Int.reduceNeg, Int.reduceToNat, reduceIte, Nat.reduceLT, h3, h6, h9, h51, h52, hn]
    · exact q0'
    · exact q1'
    · simpa [Dot.cells, Fact.dot] using hv'
end

end Go.Proofs.YtpjbjdicdjlmeaaGreatDoor.Eng

/- The contracts of mutate.delta and mutate.Do. No statement of the seat is proved here. -/
namespace Go.Proofs.YtpjbjdicdjlmeaaGreatDoor.Eng
open Go
set_option linter.unusedVariables false
set_option linter.unusedSimpArgs false

theorem mutate_delta_ok (s : State) (dev : Int) (o : OpR) (hg : Good s) (hs1 : s.seen.length ≤ 100000) (hs2 : s.facts.length ≤ 1000) :
    Pr 10 [.agg s.cells, iC dev, .agg o.cells] (.tup [.agg (doL s dev o).1.cells, .c (errC (doL s dev o).2)]) := by
  refine pure_ofW mixed is_mutate_delta (by simp [closedAs, closedA, closedC, State.closed, OpR.cells, closedCs]) fun _ T => ?_
  have hmay := mutate_may_ok dev o
  have hlast := dots_Last_ok s.seen dev
  have hln := lastL_le (d := dev) hg.norm.right
  have hgl : (goneL s dev o).length ≤ 1000 := Nat.le_trans (List.length_filter_le _ _) hs2
  have hml : (madeL s dev o).length ≤ 1 := by unfold madeL; split <;> simp
  generalize hv : doL s dev o = v
  unfold doL at hv
  unfold c_mutate_delta
  have w1 : IntKind.wrap .i64 (lastL s.seen dev + 1) = lastL s.seen dev + 1 := wrap64 (by omega)
  have ho : closedCs o.cells = true := rfl
  simp only [go_sem, reduceCtorEq, Nat.reduceEqDiff, Nat.reduceAdd, Nat.reduceSub, Nat.reduceMul, Nat.reduceLeDiff, Int.reduceEq, Int.reduceLT, Int.reduceLE, Int.reduceAdd, Int.reduceMul, Int.reduceSub, Int.reduceNeg, Int.reduceToNat, reduceIte, Nat.reduceLT, closed_runs, closed_facts]
  refine callW_pure hmay ?_
  cases hb : badOp dev o with
  | true =>
    rw [hb, if_pos rfl] at hv
    subst hv
    simp only [go_sem, reduceCtorEq, Nat.reduceEqDiff, Nat.reduceAdd, Nat.reduceSub, Nat.reduceMul, Nat.reduceLeDiff, Int.reduceEq, Int.reduceLT, Int.reduceLE, Int.reduceAdd, Int.reduceMul, Int.reduceSub, Int.reduceNeg, Int.reduceToNat, reduceIte, Nat.reduceLT]
    exact told_err (by omega)
  | false =>
    obtain ⟨_, _, hk1, hk5⟩ := badOp_dev hb
    rw [hb, if_neg (by simp)] at hv
    have hmade := mutate_made_ok o ⟨dev, lastL s.seen dev + 1⟩ (goneL s dev o) ⟨hk1, hk5⟩ (by omega)
    rw [madeBy_is] at hmade
    have hmade' : Pr 14 [.agg o.cells, .agg (Dot.cells ⟨dev, lastL s.seen dev + 1⟩), .c (factsC (goneL s dev o))] (.c (factsC (madeL s dev o))) := hmade
    simp only [go_sem, reduceCtorEq, Nat.reduceEqDiff, Nat.reduceAdd, Nat.reduceSub, Nat.reduceMul, Nat.reduceLeDiff, Int.reduceEq, Int.reduceLT, Int.reduceLE, Int.reduceAdd, Int.reduceMul, Int.reduceSub, Int.reduceNeg, Int.reduceToNat, reduceIte, Nat.reduceLT]
    refine callW_pure (mutate_gone_ok s dev o ⟨hk1, hk5⟩ (by omega)) ?_
    simp only [go_sem, reduceCtorEq, Nat.reduceEqDiff, Nat.reduceAdd, Nat.reduceSub, Nat.reduceMul, Nat.reduceLeDiff, Int.reduceEq, Int.reduceLT, Int.reduceLE, Int.reduceAdd, Int.reduceMul, Int.reduceSub, Int.reduceNeg, Int.reduceToNat, reduceIte, Nat.reduceLT]
    refine callW_pure hlast ?_
    simp only [go_sem, reduceCtorEq, Nat.reduceEqDiff, Nat.reduceAdd, Nat.reduceSub, Nat.reduceMul, Nat.reduceLeDiff, Int.reduceEq, Int.reduceLT, Int.reduceLE, Int.reduceAdd, Int.reduceMul, Int.reduceSub, Int.reduceNeg, Int.reduceToNat, reduceIte, Nat.reduceLT, w1]
    refine callW_pure hmade' ?_
    have hz : ((madeL s dev o).length : Int) + ((goneL s dev o).length : Int) = 0 ↔ (goneL s dev o = [] ∧ makes o = false) := by
      constructor
      · intro h
        refine ⟨List.eq_nil_of_length_eq_zero (by omega), ?_⟩
        cases hm : makes o with
        | false => rfl
        | true =>
          have : (madeL s dev o).length = 1 := by unfold madeL; rw [hm]; rfl
          omega
      · rintro ⟨h1, h2⟩
        unfold madeL
        rw [h1, h2]
        rfl
    have w2 : IntKind.wrap .i64 (((madeL s dev o).length : Int) + ((goneL s dev o).length : Int)) = ((madeL s dev o).length : Int) + ((goneL s dev o).length : Int) := wrap64 (by omega)
    by_cases h0 : goneL s dev o = [] ∧ makes o = false
    · rw [if_pos h0] at hv
      subst hv
      have hz' : (((madeL s dev o).length : Int) + ((goneL s dev o).length : Int) = 0) = True := eq_true (hz.2 h0)
      simp only [go_sem, reduceCtorEq, Nat.reduceEqDiff, Nat.reduceAdd, Nat.reduceSub, Nat.reduceMul, Nat.reduceLeDiff, Int.reduceEq, Int.reduceLT, Int.reduceLE, Int.reduceAdd, Int.reduceMul, Int.reduceSub, Int.reduceNeg, Int.reduceToNat, reduceIte, Nat.reduceLT, List.length_map, w2, hz']
      exact told_err (q := 2) (by omega)
    · rw [if_neg h0] at hv
      have hz' : ¬ (((madeL s dev o).length : Int) + ((goneL s dev o).length : Int) = 0) := fun h => h0 (hz.1 h)
      have hne : goneL s dev o ++ madeL s dev o ≠ [] := by
        intro h
        obtain ⟨h1, h2⟩ := List.append_eq_nil_iff.1 h
        exact hz' (by rw [h1, h2]; rfl)
      have hcat := slices_Concat_Fact_ok (goneL s dev o) (madeL s dev o) (by omega) hne
      have loop := mutate_delta_loop T hg hb hs1 hs2 (goneL s dev o ++ madeL s dev o) rfl (by simp; omega) hv
      simp only [go_sem, reduceCtorEq, Nat.reduceEqDiff, Nat.reduceAdd, Nat.reduceSub, Nat.reduceMul, Nat.reduceLeDiff, Int.reduceEq, Int.reduceLT, Int.reduceLE, Int.reduceAdd, Int.reduceMul, Int.reduceSub, Int.reduceNeg, Int.reduceToNat, reduceIte, Nat.reduceLT, List.length_map, w2, hz', closed_facts]
      refine callW_pure hcat ?_
      simp only [go_sem, reduceCtorEq, Nat.reduceEqDiff, Nat.reduceAdd, Nat.reduceSub, Nat.reduceMul, Nat.reduceLeDiff, Int.reduceEq, Int.reduceLT, Int.reduceLE, Int.reduceAdd, Int.reduceMul, Int.reduceSub, Int.reduceNeg, Int.reduceToNat, reduceIte, Nat.reduceLT, List.length_map]
      refine loop (goneL s dev o ++ madeL s dev o) [] _ _ rfl ?_ ?_ ?_ ?_ ?_ ?_ rfl rfl ?_ ?_ ?_
      any_goals simp only [go_sem, reduceCtorEq, Nat.reduceEqDiff, Nat.reduceAdd, Nat.reduceSub, Nat.reduceMul, Nat.reduceLeDiff, Int.reduceEq, Int.reduceLT, Int.reduceLE, Int.reduceAdd, Int.reduceMul, Int.reduceSub, Int.reduceNeg, Int.reduceToNat, reduceIte, Nat.reduceLT, List.length_nil, Int.natCast_zero, State.cells]
      · intro n s q z e; cases e
      · intro n s q z e; cases e
      · exact .nil

theorem mutate_Do_ok (s : State) (dev : Int) (o : OpR) (hg : Good s) (hs1 : s.seen.length ≤ 100000) (hs2 : s.facts.length ≤ 1000) :
    Pr 5 [.agg s.cells, iC dev, .agg o.cells] (.tup [.agg (doL s dev o).1.cells, iC (doL s dev o).2]) := by
  refine pure_ofW mixed is_mutate_Do (by simp [closedAs, closedA, closedC, State.closed, OpR.cells, closedCs]) fun _ T => ?_
  have hdel := mutate_delta_ok s dev o hg hs1 hs2
  have hnone : (doL s dev o).2 ≠ 0 → (doL s dev o).1 = ⟨[], []⟩ := by
    unfold doL
    intro h
    split
    · rfl
    split
    · rfl
    split
    · rfl
    split
    · rfl
    · exfalso; simp_all
  generalize doL s dev o = v at *
  obtain ⟨d, q⟩ := v
  obtain ⟨kind, key, item, n⟩ := o
  unfold c_mutate_Do
  simp only [go_sem, reduceCtorEq, Nat.reduceEqDiff, Nat.reduceAdd, Nat.reduceSub, Nat.reduceMul, Nat.reduceLeDiff, Int.reduceEq, Int.reduceLT, Int.reduceLE, Int.reduceAdd, Int.reduceMul, Int.reduceSub, Int.reduceNeg, Int.reduceToNat, reduceIte, Nat.reduceLT, closed_runs, closed_facts]
  refine callW_pure hdel ?_
  by_cases hq : q = 0
  · subst hq
    have he : errC 0 = .nilI := rfl
    simp only [go_sem, reduceCtorEq, Nat.reduceEqDiff, Nat.reduceAdd, Nat.reduceSub, Nat.reduceMul, Nat.reduceLeDiff, Int.reduceEq, Int.reduceLT, Int.reduceLE, Int.reduceAdd, Int.reduceMul, Int.reduceSub, Int.reduceNeg, Int.reduceToNat, reduceIte, Nat.reduceLT, he, bne_self_eq_false]
    refine callW_at (errors_As_nil _ _) (fun h => by cases h) ?_
    simp only [go_sem, reduceCtorEq, Nat.reduceEqDiff, Nat.reduceAdd, Nat.reduceSub, Nat.reduceMul, Nat.reduceLeDiff, Int.reduceEq, Int.reduceLT, Int.reduceLE, Int.reduceAdd, Int.reduceMul, Int.reduceSub, Int.reduceNeg, Int.reduceToNat, reduceIte, Nat.reduceLT]
    exact viewW_tup2 (told_S _ d) ⟨_, rfl, .same _⟩
  · have he : errC q = refusalC q := by unfold errC; rw [if_neg hq]
    have tb : (true != false) = true := rfl
    have hd : d = ⟨[], []⟩ := hnone hq
    subst hd
    simp only [go_sem, reduceCtorEq, Nat.reduceEqDiff, Nat.reduceAdd, Nat.reduceSub, Nat.reduceMul, Nat.reduceLeDiff, Int.reduceEq, Int.reduceLT, Int.reduceLE, Int.reduceAdd, Int.reduceMul, Int.reduceSub, Int.reduceNeg, Int.reduceToNat, reduceIte, Nat.reduceLT, he, tb]
    refine callW_at (errors_As_at kind key item n q 0 rfl) (fun h => by cases h) ?_
    simp only [go_sem, reduceCtorEq, Nat.reduceEqDiff, Nat.reduceAdd, Nat.reduceSub, Nat.reduceMul, Nat.reduceLeDiff, Int.reduceEq, Int.reduceLT, Int.reduceLE, Int.reduceAdd, Int.reduceMul, Int.reduceSub, Int.reduceNeg, Int.reduceToNat, reduceIte, Nat.reduceLT]
    refine run_fz ⟨2, { sz := 1, rows := [[.int .i64 q]] }, (by simp only [go_sem, reduceCtorEq, Nat.reduceEqDiff, Nat.reduceAdd, Nat.reduceSub, Nat.reduceMul, Nat.reduceLeDiff, Int.reduceEq, Int.reduceLT, Int.reduceLE, Int.reduceAdd, Int.reduceMul, Int.reduceSub, Int.reduceNeg, Int.reduceToNat, reduceIte, Nat.reduceLT]; rfl), rfl, rfl, rfl, ?_⟩
    have g10 : ∀ e : Env, e 10 = .c (.ptr 2 0 0) → frzEnv 2 { sz := 1, rows := [[.int .i64 q]] } e 10 = .c (.fp [.int .i64 q] 0) := fun e h => by rw [frzEnv_at, h]; rfl
    have g6 : ∀ e : Env, e 6 = .c (.ptr 0 0 0) → frzEnv 2 { sz := 1, rows := [[.int .i64 q]] } e 6 = .c (.ptr 0 0 0) := fun e h => by rw [frzEnv_at, h]; rfl
    have fin : ∀ e : Env, e 10 = .c (.fp [.int .i64 q] 0) → e 6 = .c (.ptr 0 0 0) → ∀ K, Run (progT Tryz.prog T) ⟨[.cell 6 true 2, .tmp 7], fun u E => viewW E u (.tup [.agg (State.cells ⟨[], []⟩), iC q])⟩
        (.code (.seq (.region [⟨some 27, .build [.nilS, .nilS] [], none, false⟩, ⟨some 28, .fld 0 (.t 10), none, false⟩, ⟨some 29, .loadF false 1 (.t 28), none, false⟩, ⟨none, .store 2 (.t 6) (.t 27), none, false⟩, ⟨some 7, .mv (.t 29), none, false⟩] true) .ret) :: K) e
        [{ sz := 2, rows := [[.nilS, .nilS]] }, { sz := 2, rows := [[.lst 3 [], .lst 6 []]] }, { sz := 1, rows := [[.int .i64 q]], live := false }] := fun e h10 h6 K => by
      simp only [go_sem, reduceCtorEq, Nat.reduceEqDiff, Nat.reduceAdd, Nat.reduceSub, Nat.reduceMul, Nat.reduceLeDiff, Int.reduceEq, Int.reduceLT, Int.reduceLE, Int.reduceAdd, Int.reduceMul, Int.reduceSub, Int.reduceNeg, Int.reduceToNat, reduceIte, Nat.reduceLT, h10, h6]
      exact viewW_tup2 SC.nil.told ⟨_, rfl, .same _⟩
    refine fin _ (g10 _ ?_) (g6 _ ?_) _
    all_goals simp only [go_sem, reduceCtorEq, Nat.reduceEqDiff, Nat.reduceAdd, Nat.reduceSub, Nat.reduceMul, Nat.reduceLeDiff, Int.reduceEq, Int.reduceLT, Int.reduceLE, Int.reduceAdd, Int.reduceMul, Int.reduceSub, Int.reduceNeg, Int.reduceToNat, reduceIte, Nat.reduceLT]

end Go.Proofs.YtpjbjdicdjlmeaaGreatDoor.Eng
