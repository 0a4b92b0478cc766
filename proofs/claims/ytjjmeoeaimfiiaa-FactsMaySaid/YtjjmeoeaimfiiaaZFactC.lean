/- Contracts of the package facts. No statement of the seat is proved here. -/
import Derived.Test.YtjjmeoeaimfiiaaZFactB
import Derived.Test.YtjjmeoeaimfiiaaZLitF
namespace Go.Proofs.Ytjjmeoeaimfiiaa.Eng
open Go
set_option linter.unusedVariables false
set_option linter.unusedSimpArgs false

theorem facts_Right_ok (f : Fact) : Pr 17 [.agg f.cells] (bC f.right) := by
  refine pure_of mixed is_facts_Right rfl fun hl T => ?_
  unfold c_facts_Right
  simp only [go_sem, reduceCtorEq, Nat.reduceEqDiff, Nat.reduceAdd, Nat.reduceSub, Nat.reduceMul, Nat.reduceLeDiff, Int.reduceEq, Int.reduceLT, Int.reduceLE, Int.reduceAdd, Int.reduceMul, Int.reduceSub, Int.reduceNeg, Int.reduceToNat, reduceIte, Nat.reduceLT]
  repeat' (first | (first | refine guardW_split (fun h => ?_) (fun h => ?_) | refine condW_split (fun h => ?_) (fun h => ?_) | refine guardW_nsplit (fun h => ?_) (fun h => ?_) | refine condW_nsplit (fun h => ?_) (fun h => ?_) | refine guardW_nbool (fun h => ?_) (fun h => ?_) | refine condW_ncases (fun h => ?_) (fun h => ?_) | refine guardW_bool (fun h => ?_) (fun h => ?_) | refine condW_cases (fun h => ?_) (fun h => ?_)) | simp only [go_sem, reduceCtorEq, Nat.reduceEqDiff, Nat.reduceAdd, Nat.reduceSub, Nat.reduceMul, Nat.reduceLeDiff, Int.reduceEq, Int.reduceLT, Int.reduceLE, Int.reduceAdd, Int.reduceMul, Int.reduceSub, Int.reduceNeg, Int.reduceToNat, reduceIte, Nat.reduceLT, *])
  all_goals simp [viewA, viewFn, viewC, viewFs, viewCs, viewAs, closedC, closedCs, Fact.right, *]

theorem facts_May_ok (s : State) : Pr 15 [.agg s.cells] (bC (mayState s)) := by
  obtain ⟨seen, l⟩ := s
  refine pure_of mixed is_facts_May (by simp [closedAs, closedA, State.closed]) fun hl T => ?_
  have hlen : l.length ≤ maxLen := by simp [lenAs, lenA, lenC, State.cells, runsC, factsC] at hl; exact hl.2
  unfold c_facts_May
  generalize hv : mayState ⟨seen, l⟩ = v
  simp only [go_sem, reduceCtorEq, Nat.reduceEqDiff, Nat.reduceAdd, Nat.reduceSub, Nat.reduceMul, Nat.reduceLeDiff, Int.reduceEq, Int.reduceLT, Int.reduceLE, Int.reduceAdd, Int.reduceMul, Int.reduceSub, Int.reduceNeg, Int.reduceToNat, reduceIte, Nat.reduceLT]
  refine callW_pure (dots_May_ok seen) ?_
  simp only [go_sem, reduceCtorEq, Nat.reduceEqDiff, Nat.reduceAdd, Nat.reduceSub, Nat.reduceMul, Nat.reduceLeDiff, Int.reduceEq, Int.reduceLT, Int.reduceLE, Int.reduceAdd, Int.reduceMul, Int.reduceSub, Int.reduceNeg, Int.reduceToNat, reduceIte, Nat.reduceLT]
  unfold mayState at hv
  cases hms : mayRuns seen with
  | false =>
    simp only [go_sem, reduceCtorEq, Nat.reduceEqDiff, Nat.reduceAdd, Nat.reduceSub, Nat.reduceMul, Nat.reduceLeDiff, Int.reduceEq, Int.reduceLT, Int.reduceLE, Int.reduceAdd, Int.reduceMul, Int.reduceSub, Int.reduceNeg, Int.reduceToNat, reduceIte, Nat.reduceLT]
    simp [viewA, viewFn, viewC, viewFs, viewCs, viewAs, closedC, closedCs, ← hv, hms]
  | true =>
    simp only [go_sem, reduceCtorEq, Nat.reduceEqDiff, Nat.reduceAdd, Nat.reduceSub, Nat.reduceMul, Nat.reduceLeDiff, Int.reduceEq, Int.reduceLT, Int.reduceLE, Int.reduceAdd, Int.reduceMul, Int.reduceSub, Int.reduceNeg, Int.reduceToNat, reduceIte, Nat.reduceLT, List.length_map]
    by_cases h400 : (400 : Int) < l.length
    · simp only [go_sem, reduceCtorEq, Nat.reduceEqDiff, Nat.reduceAdd, Nat.reduceSub, Nat.reduceMul, Nat.reduceLeDiff, Int.reduceEq, Int.reduceLT, Int.reduceLE, Int.reduceAdd, Int.reduceMul, Int.reduceSub, Int.reduceNeg, Int.reduceToNat, reduceIte, Nat.reduceLT, h400]
      have : ¬ ((l.length : Int) ≤ 400) := by omega
      simp [viewA, viewFn, viewC, viewFs, viewCs, viewAs, closedC, closedCs, ← hv, hms, this]
    simp only [go_sem, reduceCtorEq, Nat.reduceEqDiff, Nat.reduceAdd, Nat.reduceSub, Nat.reduceMul, Nat.reduceLeDiff, Int.reduceEq, Int.reduceLT, Int.reduceLE, Int.reduceAdd, Int.reduceMul, Int.reduceSub, Int.reduceNeg, Int.reduceToNat, reduceIte, Nat.reduceLT, h400]
    have h400' : ((l.length : Int) ≤ 400) := by omega
    simp only [hms, h400', decide_true, Bool.true_and] at hv
    have loop : ∀ (rest pre : List Fact) (e : Env) (H : Heap), l = pre ++ rest → e 1 = .c (.fp [runsC seen, factsC l] 0) → e 16 = .c (factsC l) → e 17 = iC l.length → e 18 = iC pre.length →
        factsFrom seen pre.getLast? rest = v → Run (progT Try.prog T) ⟨[.tmp 2], fun u E => viewA E u = some (bC v)⟩ [.loop facts_May_L0, .blk 0, .code facts_May_K1] e H := by
      intro rest
      induction rest with
      | nil =>
        intro pre e H hp h1 h16 h17 h18 hm
        have hc : ¬ ((pre.length : Int) < (l.length : Int)) := by rw [hp]; simp
        refine run_again ?_
        conv => enter [3, 1]; unfold facts_May_L0
        simp only [go_sem, reduceCtorEq, Nat.reduceEqDiff, Nat.reduceAdd, Nat.reduceSub, Nat.reduceMul, Nat.reduceLeDiff, Int.reduceEq, Int.reduceLT, Int.reduceLE, Int.reduceAdd, Int.reduceMul, Int.reduceSub, Int.reduceNeg, Int.reduceToNat, reduceIte, Nat.reduceLT, h1, h16, h17, h18, hc]
        unfold facts_May_K1
        simp only [go_sem, reduceCtorEq, Nat.reduceEqDiff, Nat.reduceAdd, Nat.reduceSub, Nat.reduceMul, Nat.reduceLeDiff, Int.reduceEq, Int.reduceLT, Int.reduceLE, Int.reduceAdd, Int.reduceMul, Int.reduceSub, Int.reduceNeg, Int.reduceToNat, reduceIte, Nat.reduceLT]
        simp [viewA, viewFn, viewC, viewFs, viewCs, viewAs, closedC, closedCs, ← hm, factsFrom]
      | cons r rest ih =>
        intro pre e H hp h1 h16 h17 h18 hm
        have hc : ((pre.length : Int) < (l.length : Int)) := by rw [hp]; simp; omega
        have hr := map_at' (f := Fact.cells) hp
        have hn := next_at hp hlen
        have go : ∀ e' : Env, e' 1 = e 1 → e' 16 = e 16 → e' 17 = e 17 → e' 18 = iC (pre ++ [r]).length → factsFrom seen (some r) rest = v → ∀ H', Run (progT Try.prog T) ⟨[.tmp 2], fun u E => viewA E u = some (bC v)⟩ [.loop facts_May_L0, .blk 0, .code facts_May_K1] e' H' := by
          intro e' g1 g16 g17 g18 gm H'
          exact ih (pre ++ [r]) e' H' (by simp [hp]) (by rw [g1, h1]) (by rw [g16, h16]) (by rw [g17, h17]) g18 (by rw [← gm]; simp)
        refine run_again ?_
        conv => enter [3, 1]; unfold facts_May_L0
        simp only [go_sem, reduceCtorEq, Nat.reduceEqDiff, Nat.reduceAdd, Nat.reduceSub, Nat.reduceMul, Nat.reduceLeDiff, Int.reduceEq, Int.reduceLT, Int.reduceLE, Int.reduceAdd, Int.reduceMul, Int.reduceSub, Int.reduceNeg, Int.reduceToNat, reduceIte, Nat.reduceLT, h1, h16, h17, h18, hc, hr]
        refine callW_pure (facts_Right_ok r) ?_
        simp only [go_sem, reduceCtorEq, Nat.reduceEqDiff, Nat.reduceAdd, Nat.reduceSub, Nat.reduceMul, Nat.reduceLeDiff, Int.reduceEq, Int.reduceLT, Int.reduceLE, Int.reduceAdd, Int.reduceMul, Int.reduceSub, Int.reduceNeg, Int.reduceToNat, reduceIte, Nat.reduceLT]
        cases hright : r.right with
        | false =>
          simp only [go_sem, reduceCtorEq, Nat.reduceEqDiff, Nat.reduceAdd, Nat.reduceSub, Nat.reduceMul, Nat.reduceLeDiff, Int.reduceEq, Int.reduceLT, Int.reduceLE, Int.reduceAdd, Int.reduceMul, Int.reduceSub, Int.reduceNeg, Int.reduceToNat, reduceIte, Nat.reduceLT]
          simp [viewA, viewFn, viewC, viewFs, viewCs, viewAs, closedC, closedCs, ← hm, factsFrom, hright]
        | true =>
          simp only [go_sem, reduceCtorEq, Nat.reduceEqDiff, Nat.reduceAdd, Nat.reduceSub, Nat.reduceMul, Nat.reduceLeDiff, Int.reduceEq, Int.reduceLT, Int.reduceLE, Int.reduceAdd, Int.reduceMul, Int.reduceSub, Int.reduceNeg, Int.reduceToNat, reduceIte, Nat.reduceLT, h1]
          refine callW_pure (dots_Has_ok seen r.dot) ?_
          simp only [go_sem, reduceCtorEq, Nat.reduceEqDiff, Nat.reduceAdd, Nat.reduceSub, Nat.reduceMul, Nat.reduceLeDiff, Int.reduceEq, Int.reduceLT, Int.reduceLE, Int.reduceAdd, Int.reduceMul, Int.reduceSub, Int.reduceNeg, Int.reduceToNat, reduceIte, Nat.reduceLT]
          cases hhas : hasDot seen r.dot with
          | false =>
            simp only [go_sem, reduceCtorEq, Nat.reduceEqDiff, Nat.reduceAdd, Nat.reduceSub, Nat.reduceMul, Nat.reduceLeDiff, Int.reduceEq, Int.reduceLT, Int.reduceLE, Int.reduceAdd, Int.reduceMul, Int.reduceSub, Int.reduceNeg, Int.reduceToNat, reduceIte, Nat.reduceLT]
            simp [viewA, viewFn, viewC, viewFs, viewCs, viewAs, closedC, closedCs, ← hm, factsFrom, hright, hhas]
          | true =>
            rcases List.eq_nil_or_concat pre with rfl | ⟨pre', q, rfl⟩
            · simp only [go_sem, reduceCtorEq, Nat.reduceEqDiff, Nat.reduceAdd, Nat.reduceSub, Nat.reduceMul, Nat.reduceLeDiff, Int.reduceEq, Int.reduceLT, Int.reduceLE, Int.reduceAdd, Int.reduceMul, Int.reduceSub, Int.reduceNeg, Int.reduceToNat, reduceIte, Nat.reduceLT, h18]
              refine go _ ?_ ?_ ?_ ?_ ?_ _
              all_goals first | (simp only [go_sem, reduceCtorEq, Nat.reduceEqDiff, Nat.reduceAdd, Nat.reduceSub, Nat.reduceMul, Nat.reduceLeDiff, Int.reduceEq, Int.reduceLT, Int.reduceLE, Int.reduceAdd, Int.reduceMul, Int.reduceSub, Int.reduceNeg, Int.reduceToNat, reduceIte, Nat.reduceLT]; done) | rfl | (simp [← hm, factsFrom, hright, hhas]; done)
            · have hq : (l.map Fact.cells)[pre'.length]? = some q.cells := by rw [hp]; simp
              have hprev := prev_at (pre := pre') (x := q) (by rw [hp] at hlen; simp at hlen ⊢; omega)
              simp only [List.concat_eq_append] at h18 hn go hm ⊢
              clear ih hp hl hr hc
              simp only [go_sem, reduceCtorEq, Nat.reduceEqDiff, Nat.reduceAdd, Nat.reduceSub, Nat.reduceMul, Nat.reduceLeDiff, Int.reduceEq, Int.reduceLT, Int.reduceLE, Int.reduceAdd, Int.reduceMul, Int.reduceSub, Int.reduceNeg, Int.reduceToNat, reduceIte, Nat.reduceLT, pos_at, h1, h18, hprev, hq]
              refine callW_pure (facts_Cmp_ok q.dot r.dot) ?_
              by_cases hcmp : 0 ≤ cmpDot q.dot r.dot
              · simp only [go_sem, reduceCtorEq, Nat.reduceEqDiff, Nat.reduceAdd, Nat.reduceSub, Nat.reduceMul, Nat.reduceLeDiff, Int.reduceEq, Int.reduceLT, Int.reduceLE, Int.reduceAdd, Int.reduceMul, Int.reduceSub, Int.reduceNeg, Int.reduceToNat, reduceIte, Nat.reduceLT, hcmp]
                have : ¬ (cmpDot q.dot r.dot < 0) := by omega
                simp [viewA, viewFn, viewC, viewFs, viewCs, viewAs, closedC, closedCs, ← hm, factsFrom, hright, hhas, this]
              · simp only [go_sem, reduceCtorEq, Nat.reduceEqDiff, Nat.reduceAdd, Nat.reduceSub, Nat.reduceMul, Nat.reduceLeDiff, Int.reduceEq, Int.reduceLT, Int.reduceLE, Int.reduceAdd, Int.reduceMul, Int.reduceSub, Int.reduceNeg, Int.reduceToNat, reduceIte, Nat.reduceLT, hcmp, h18, hn]
                have : (cmpDot q.dot r.dot < 0) := by omega
                refine go _ ?_ ?_ ?_ ?_ ?_ _ <;> first | (simp only [go_sem, reduceCtorEq, Nat.reduceEqDiff, Nat.reduceAdd, Nat.reduceSub, Nat.reduceMul, Nat.reduceLeDiff, Int.reduceEq, Int.reduceLT, Int.reduceLE, Int.reduceAdd, Int.reduceMul, Int.reduceSub, Int.reduceNeg, Int.reduceToNat, reduceIte, Nat.reduceLT, hn]; done) | (simp [← hm, factsFrom, hright, hhas, this]; done)
    refine loop l [] _ _ rfl rfl rfl ?_ rfl hv
    simp only [go_sem, reduceCtorEq, Nat.reduceEqDiff, Nat.reduceAdd, Nat.reduceSub, Nat.reduceMul, Nat.reduceLeDiff, Int.reduceEq, Int.reduceLT, Int.reduceLE, Int.reduceAdd, Int.reduceMul, Int.reduceSub, Int.reduceNeg, Int.reduceToNat, reduceIte, Nat.reduceLT, List.length_map]

theorem r7_SameFacts_ok (a b : List Fact) : Pr 21 [.c (factsC a), .c (factsC b)] (bC (decide (a = b))) := by
  refine pure_of mixed is_r7_SameFacts (by simp [closedAs, closedA, closed_factsC]) fun hl T => ?_
  unfold c_r7_SameFacts
  simp only [go_sem, reduceCtorEq, Nat.reduceEqDiff, Nat.reduceAdd, Nat.reduceSub, Nat.reduceMul, Nat.reduceLeDiff, Int.reduceEq, Int.reduceLT, Int.reduceLE, Int.reduceAdd, Int.reduceMul, Int.reduceSub, Int.reduceNeg, Int.reduceToNat, reduceIte, Nat.reduceLT]
  refine callW_pure ((r7_Same_ok ⟨[], a⟩ ⟨[], b⟩).wk (.cons (.agg (.cons (.nilS _) (.cons (.same _) .nil))) (.cons (.agg (.cons (.nilS _) (.cons (.same _) .nil))) .nil))) ?_
  simp only [go_sem, reduceCtorEq, Nat.reduceEqDiff, Nat.reduceAdd, Nat.reduceSub, Nat.reduceMul, Nat.reduceLeDiff, Int.reduceEq, Int.reduceLT, Int.reduceLE, Int.reduceAdd, Int.reduceMul, Int.reduceSub, Int.reduceNeg, Int.reduceToNat, reduceIte, Nat.reduceLT]
  simp [viewA, viewFn, viewC, viewFs, viewCs, viewAs, closedC, closedCs]

/-- The facts of a key and a kind. -/
def Fact.of (key : ByteArray) (kind : Int) (f : Fact) : Bool := decide (f.key = key) && (decide (kind = 0) || decide (f.kind = kind))

theorem facts_Find_ok (s : State) (key : ByteArray) (kind : Int) (hb : s.facts.length ≤ 1000000000) : Pr 22 [.agg s.cells, sC key, iC kind] (.c (factsC (s.facts.filter (Fact.of key kind)))) := by
  obtain ⟨seen, l⟩ := s
  refine pure_ofW mixed is_facts_Find (by simp [closedAs, closedA, closedC, State.closed]) fun hl T => ?_
  have hlen : l.length ≤ maxLen := by simp [lenAs, lenA, lenC, State.cells, runsC, factsC] at hl; exact hl.2
  unfold c_facts_Find
  simp only at hb ⊢
  generalize hv : l.filter (Fact.of key kind) = v
  simp only [go_sem, reduceCtorEq, Nat.reduceEqDiff, Nat.reduceAdd, Nat.reduceSub, Nat.reduceMul, Nat.reduceLeDiff, Int.reduceEq, Int.reduceLT, Int.reduceLE, Int.reduceAdd, Int.reduceMul, Int.reduceSub, Int.reduceNeg, Int.reduceToNat, reduceIte, Nat.reduceLT, List.length_map]
  have loop : ∀ (rest pre acc : List Fact) (e : Env) (H : Heap), l = pre ++ rest → e 1 = sC key → e 2 = iC kind → e 11 = .c (factsC l) → e 12 = iC l.length → e 13 = iC pre.length → Acc 6 (acc.map Fact.cells) (e 7) H → acc.length ≤ pre.length →
      acc ++ rest.filter (Fact.of key kind) = v → Run (progT Try.prog T) ⟨[.tmp 6], fun u E => viewW E u (.c (.lst 6 (v.map Fact.cells)))⟩ [.loop facts_Find_L0, .blk 0, .code facts_Find_K1] e H := by
    intro rest
    induction rest with
    | nil =>
      intro pre acc e H hp h1 h2 h11 h12 h13 hacc hle hm
      have hc : ¬ ((pre.length : Int) < (l.length : Int)) := by rw [hp]; simp
      refine run_again ?_
      conv => enter [3, 1]; unfold facts_Find_L0
      simp only [go_sem, reduceCtorEq, Nat.reduceEqDiff, Nat.reduceAdd, Nat.reduceSub, Nat.reduceMul, Nat.reduceLeDiff, Int.reduceEq, Int.reduceLT, Int.reduceLE, Int.reduceAdd, Int.reduceMul, Int.reduceSub, Int.reduceNeg, Int.reduceToNat, reduceIte, Nat.reduceLT, h1, h2, h11, h12, h13, hc]
      unfold facts_Find_K1
      simp only [go_sem, reduceCtorEq, Nat.reduceEqDiff, Nat.reduceAdd, Nat.reduceSub, Nat.reduceMul, Nat.reduceLeDiff, Int.reduceEq, Int.reduceLT, Int.reduceLE, Int.reduceAdd, Int.reduceMul, Int.reduceSub, Int.reduceNeg, Int.reduceToNat, reduceIte, Nat.reduceLT]
      have := hacc.told (closed_facts acc)
      simp at hm
      rw [← hm]
      exact this
    | cons r rest ih =>
      intro pre acc e H hp h1 h2 h11 h12 h13 hacc hle hm
      have hc : ((pre.length : Int) < (l.length : Int)) := by rw [hp]; simp; omega
      have hr := map_at' (f := Fact.cells) hp
      have hn := next_at hp hlen
      have hpl : pre.length < l.length := by rw [hp]; simp
      refine run_again ?_
      conv => enter [3, 1]; unfold facts_Find_L0
      simp only [go_sem, reduceCtorEq, Nat.reduceEqDiff, Nat.reduceAdd, Nat.reduceSub, Nat.reduceMul, Nat.reduceLeDiff, Int.reduceEq, Int.reduceLT, Int.reduceLE, Int.reduceAdd, Int.reduceMul, Int.reduceSub, Int.reduceNeg, Int.reduceToNat, reduceIte, Nat.reduceLT, h1, h2, h11, h12, h13, hc, hr]
      have go : ∀ (e' : Env) (H' : Heap), e' 1 = e 1 → e' 2 = e 2 → e' 11 = e 11 → e' 12 = e 12 → e' 7 = e 7 → Acc 6 (acc.map Fact.cells) (e 7) H' → e' 13 = iC (pre ++ [r]).length → Fact.of key kind r = false → Run (progT Try.prog T) ⟨[.tmp 6], fun u E => viewW E u (.c (.lst 6 (v.map Fact.cells)))⟩ [.loop facts_Find_L0, .blk 0, .code facts_Find_K1] e' H' := by
        intro e' H' g1 g2 g11 g12 g7 ga g13 gm
        exact ih (pre ++ [r]) acc e' H' (by simp [hp]) (by rw [g1, h1]) (by rw [g2, h2]) (by rw [g11, h11]) (by rw [g12, h12]) g13 (by rw [g7]; exact ga) (by simp; omega) (by rw [← hm]; simp [gm])
      have goA : ∀ (e' : Env) (H' : Heap) (row : List Cell), e' 1 = e 1 → e' 2 = e 2 → e' 11 = e 11 → e' 12 = e 12 → Acc 6 (acc.map Fact.cells ++ [row]) (e' 7) H' → row = r.cells → e' 13 = iC (pre ++ [r]).length → Fact.of key kind r = true → Run (progT Try.prog T) ⟨[.tmp 6], fun u E => viewW E u (.c (.lst 6 (v.map Fact.cells)))⟩ [.loop facts_Find_L0, .blk 0, .code facts_Find_K1] e' H' := by
        intro e' H' row g1 g2 g11 g12 ga gr g13 gm
        subst gr
        exact ih (pre ++ [r]) (acc ++ [r]) e' H' (by simp [hp]) (by rw [g1, h1]) (by rw [g2, h2]) (by rw [g11, h11]) (by rw [g12, h12]) g13 (by simpa using ga) (by simp; omega) (by rw [← hm]; simp [gm])
      have hroom : ((acc.map Fact.cells).length + [r.cells].length) * 64 ≤ 140737488355328 := by simp; omega
      clear ih hp hl hr hc
      repeat' (first | (first | refine guardW_split (fun h => ?_) (fun h => ?_) | refine condW_split (fun h => ?_) (fun h => ?_) | refine guardW_nsplit (fun h => ?_) (fun h => ?_) | refine condW_nsplit (fun h => ?_) (fun h => ?_) | refine guardW_nbool (fun h => ?_) (fun h => ?_) | refine condW_ncases (fun h => ?_) (fun h => ?_) | refine guardW_bool (fun h => ?_) (fun h => ?_) | refine condW_cases (fun h => ?_) (fun h => ?_)) | (refine Acc.app_step (hacc.snoc) hroom fun v' H' hacc' => ?_) | simp only [go_sem, reduceCtorEq, Nat.reduceEqDiff, Nat.reduceAdd, Nat.reduceSub, Nat.reduceMul, Nat.reduceLeDiff, Int.reduceEq, Int.reduceLT, Int.reduceLE, Int.reduceAdd, Int.reduceMul, Int.reduceSub, Int.reduceNeg, Int.reduceToNat, reduceIte, Nat.reduceLT, h13, hn, *])
      all_goals first
        | (refine goA _ _ _ ?_ ?_ ?_ ?_ (by simp only [go_sem, reduceCtorEq, Nat.reduceEqDiff, Nat.reduceAdd, Nat.reduceSub, Nat.reduceMul, Nat.reduceLeDiff, Int.reduceEq, Int.reduceLT, Int.reduceLE, Int.reduceAdd, Int.reduceMul, Int.reduceSub, Int.reduceNeg, Int.reduceToNat, reduceIte, Nat.reduceLT]; assumption) ?_ ?_ ?_ <;> first | (simp only [go_sem, reduceCtorEq, Nat.reduceEqDiff, Nat.reduceAdd, Nat.reduceSub, Nat.reduceMul, Nat.reduceLeDiff, Int.reduceEq, Int.reduceLT, Int.reduceLE, Int.reduceAdd, Int.reduceMul, Int.reduceSub, Int.reduceNeg, Int.reduceToNat, reduceIte, Nat.reduceLT, hn]; done) | (simp [Fact.of, Fact.cells, *]; done))
        | (refine go _ _ ?_ ?_ ?_ ?_ ?_ hacc.snoc ?_ ?_ <;> first | (simp only [go_sem, reduceCtorEq, Nat.reduceEqDiff, Nat.reduceAdd, Nat.reduceSub, Nat.reduceMul, Nat.reduceLeDiff, Int.reduceEq, Int.reduceLT, Int.reduceLE, Int.reduceAdd, Int.reduceMul, Int.reduceSub, Int.reduceNeg, Int.reduceToNat, reduceIte, Nat.reduceLT, hn]; done) | (simp [Fact.of, *]; done))
  refine loop l [] [] _ _ rfl rfl rfl rfl ?_ rfl .nil (Nat.le_refl _) hv
  simp only [go_sem, reduceCtorEq, Nat.reduceEqDiff, Nat.reduceAdd, Nat.reduceSub, Nat.reduceMul, Nat.reduceLeDiff, Int.reduceEq, Int.reduceLT, Int.reduceLE, Int.reduceAdd, Int.reduceMul, Int.reduceSub, Int.reduceNeg, Int.reduceToNat, reduceIte, Nat.reduceLT, List.length_map]

theorem r7_Find_ok (s : State) (key : ByteArray) (kind : Int) (hb : s.facts.length ≤ 1000000000) : Pr 23 [.agg s.cells, sC key, iC kind] (.c (factsC (s.facts.filter (Fact.of key kind)))) := by
  obtain ⟨seen, l⟩ := s
  refine pure_ofW mixed is_r7_Find (by simp [closedAs, closedA, closedC, State.closed]) fun hl T => ?_
  have hlen : l.length ≤ maxLen := by simp [lenAs, lenA, lenC, State.cells, runsC, factsC] at hl; exact hl.2
  unfold c_r7_Find
  simp only at hb ⊢
  generalize hv : l.filter (Fact.of key kind) = v
  simp only [go_sem, reduceCtorEq, Nat.reduceEqDiff, Nat.reduceAdd, Nat.reduceSub, Nat.reduceMul, Nat.reduceLeDiff, Int.reduceEq, Int.reduceLT, Int.reduceLE, Int.reduceAdd, Int.reduceMul, Int.reduceSub, Int.reduceNeg, Int.reduceToNat, reduceIte, Nat.reduceLT, List.length_map]
  have loop : ∀ (rest pre acc : List Fact) (e : Env) (H : Heap), l = pre ++ rest → e 1 = sC key → e 2 = iC kind → e 3 = .c (.fp [runsC seen, factsC l] 0) → e 8 = iC pre.length → Acc 6 (acc.map Fact.cells) (e 7) H → acc.length ≤ pre.length →
      acc ++ rest.filter (Fact.of key kind) = v → Run (progT Try.prog T) ⟨[.tmp 6], fun u E => viewW E u (.c (.lst 6 (v.map Fact.cells)))⟩ [.loop r7_Find_L0, .blk 0, .code r7_Find_K1] e H := by
    intro rest
    induction rest with
    | nil =>
      intro pre acc e H hp h1 h2 h3 h8 hacc hle hm
      have hc := not_lt_at (f := Fact.cells) hp
      refine run_again ?_
      conv => enter [3, 1]; unfold r7_Find_L0
      simp only [go_sem, reduceCtorEq, Nat.reduceEqDiff, Nat.reduceAdd, Nat.reduceSub, Nat.reduceMul, Nat.reduceLeDiff, Int.reduceEq, Int.reduceLT, Int.reduceLE, Int.reduceAdd, Int.reduceMul, Int.reduceSub, Int.reduceNeg, Int.reduceToNat, reduceIte, Nat.reduceLT, h1, h2, h3, h8, hc]
      unfold r7_Find_K1
      simp only [go_sem, reduceCtorEq, Nat.reduceEqDiff, Nat.reduceAdd, Nat.reduceSub, Nat.reduceMul, Nat.reduceLeDiff, Int.reduceEq, Int.reduceLT, Int.reduceLE, Int.reduceAdd, Int.reduceMul, Int.reduceSub, Int.reduceNeg, Int.reduceToNat, reduceIte, Nat.reduceLT]
      have := hacc.told (closed_facts acc)
      simp at hm
      rw [← hm]
      exact this
    | cons r rest ih =>
      intro pre acc e H hp h1 h2 h3 h8 hacc hle hm
      have hc := lt_at (f := Fact.cells) hp
      have hr := map_at' (f := Fact.cells) hp
      have hn := next_at hp hlen
      have hpl : pre.length < l.length := by rw [hp]; simp
      refine run_again ?_
      conv => enter [3, 1]; unfold r7_Find_L0
      simp only [go_sem, reduceCtorEq, Nat.reduceEqDiff, Nat.reduceAdd, Nat.reduceSub, Nat.reduceMul, Nat.reduceLeDiff, Int.reduceEq, Int.reduceLT, Int.reduceLE, Int.reduceAdd, Int.reduceMul, Int.reduceSub, Int.reduceNeg, Int.reduceToNat, reduceIte, Nat.reduceLT, h1, h2, h3, h8, hc, hr]
      have go : ∀ (e' : Env), e' 1 = e 1 → e' 2 = e 2 → e' 3 = e 3 → e' 7 = e 7 → e' 8 = iC (pre ++ [r]).length → Fact.of key kind r = false → Run (progT Try.prog T) ⟨[.tmp 6], fun u E => viewW E u (.c (.lst 6 (v.map Fact.cells)))⟩ [.loop r7_Find_L0, .blk 0, .code r7_Find_K1] e' H := by
        intro e' g1 g2 g3 g7 g8 gm
        exact ih (pre ++ [r]) acc e' H (by simp [hp]) (by rw [g1, h1]) (by rw [g2, h2]) (by rw [g3, h3]) g8 (by rw [g7]; exact hacc) (by simp; omega) (by rw [← hm]; simp [gm])
      have goA : ∀ (e' : Env) (H' : Heap) (row : List Cell), e' 1 = e 1 → e' 2 = e 2 → e' 3 = e 3 → Acc 6 (acc.map Fact.cells ++ [row]) (e' 7) H' → row = r.cells → e' 8 = iC (pre ++ [r]).length → Fact.of key kind r = true → Run (progT Try.prog T) ⟨[.tmp 6], fun u E => viewW E u (.c (.lst 6 (v.map Fact.cells)))⟩ [.loop r7_Find_L0, .blk 0, .code r7_Find_K1] e' H' := by
        intro e' H' row g1 g2 g3 ga gr g8 gm
        subst gr
        exact ih (pre ++ [r]) (acc ++ [r]) e' H' (by simp [hp]) (by rw [g1, h1]) (by rw [g2, h2]) (by rw [g3, h3]) g8 (by simpa using ga) (by simp; omega) (by rw [← hm]; simp [gm])
      have hroom : ((acc.map Fact.cells).length + [r.cells].length) * 64 ≤ 140737488355328 := by simp; omega
      clear ih hp hl hc
      repeat' (first | (first | refine guardW_split (fun h => ?_) (fun h => ?_) | refine condW_split (fun h => ?_) (fun h => ?_) | refine guardW_nsplit (fun h => ?_) (fun h => ?_) | refine condW_nsplit (fun h => ?_) (fun h => ?_) | refine guardW_nbool (fun h => ?_) (fun h => ?_) | refine condW_ncases (fun h => ?_) (fun h => ?_) | refine guardW_bool (fun h => ?_) (fun h => ?_) | refine condW_cases (fun h => ?_) (fun h => ?_)) | (refine Acc.app_step hacc hroom fun v' H' hacc' => ?_) | simp only [go_sem, reduceCtorEq, Nat.reduceEqDiff, Nat.reduceAdd, Nat.reduceSub, Nat.reduceMul, Nat.reduceLeDiff, Int.reduceEq, Int.reduceLT, Int.reduceLE, Int.reduceAdd, Int.reduceMul, Int.reduceSub, Int.reduceNeg, Int.reduceToNat, reduceIte, Nat.reduceLT, h3, h8, hn, *])
      all_goals first
        | (refine goA _ _ _ ?_ ?_ ?_ (by simp only [go_sem, reduceCtorEq, Nat.reduceEqDiff, Nat.reduceAdd, Nat.reduceSub, Nat.reduceMul, Nat.reduceLeDiff, Int.reduceEq, Int.reduceLT, Int.reduceLE, Int.reduceAdd, Int.reduceMul, Int.reduceSub, Int.reduceNeg, Int.reduceToNat, reduceIte, Nat.reduceLT]; assumption) ?_ ?_ ?_ <;> first | (simp only [go_sem, reduceCtorEq, Nat.reduceEqDiff, Nat.reduceAdd, Nat.reduceSub, Nat.reduceMul, Nat.reduceLeDiff, Int.reduceEq, Int.reduceLT, Int.reduceLE, Int.reduceAdd, Int.reduceMul, Int.reduceSub, Int.reduceNeg, Int.reduceToNat, reduceIte, Nat.reduceLT, hn]; done) | (simp [Fact.of, Fact.cells, *]; done))
        | (refine go _ ?_ ?_ ?_ ?_ ?_ ?_ <;> first | (simp only [go_sem, reduceCtorEq, Nat.reduceEqDiff, Nat.reduceAdd, Nat.reduceSub, Nat.reduceMul, Nat.reduceLeDiff, Int.reduceEq, Int.reduceLT, Int.reduceLE, Int.reduceAdd, Int.reduceMul, Int.reduceSub, Int.reduceNeg, Int.reduceToNat, reduceIte, Nat.reduceLT, hn]; done) | (simp [Fact.of, *]; done))
  exact loop l [] [] _ _ rfl rfl rfl rfl rfl .nil (Nat.le_refl _) hv

theorem l8_awake_ok : Pr 14 [] (bC true) := pure_bool TF_ok mixed 40 rfl (by kernel_rfl)

end Go.Proofs.Ytjjmeoeaimfiiaa.Eng
