/- Contracts of facts.Find in memory of its own, of the document's Find and SameFacts. No statement of the seat is proved here. -/
import Derived.Test.YtnccbccnjjachaaGreatDoorZDelR
import Derived.Test.YtnccbccnjjachaaGreatDoorZLitZ
namespace Go.Proofs.YtnccbccnjjachaaGreatDoor.Eng
open Go
set_option linter.unusedVariables false
set_option linter.unusedSimpArgs false

theorem r7_SameFacts_ok (a b : List Fact) : Pr 25 [.c (factsC a), .c (factsC b)] (bC (decide (a = b))) := by
  refine pure_of mixed is_r7_SameFacts (by simp [closedAs, closedA, closed_factsC]) fun hl T => ?_
  unfold c_r7_SameFacts
  simp only [go_sem, reduceCtorEq, Nat.reduceEqDiff, Nat.reduceAdd, Nat.reduceSub, Nat.reduceMul, Nat.reduceLeDiff, Int.reduceEq, Int.reduceLT, Int.reduceLE, Int.reduceAdd, Int.reduceMul, Int.reduceSub, Int.reduceNeg, Int.reduceToNat, reduceIte, Nat.reduceLT]
  refine callW_pure ((r7_Same_ok ⟨[], a⟩ ⟨[], b⟩).wk (.cons (.agg (.cons (.nilS _) (.cons (.same _) .nil))) (.cons (.agg (.cons (.nilS _) (.cons (.same _) .nil))) .nil))) ?_
  simp only [go_sem, reduceCtorEq, Nat.reduceEqDiff, Nat.reduceAdd, Nat.reduceSub, Nat.reduceMul, Nat.reduceLeDiff, Int.reduceEq, Int.reduceLT, Int.reduceLE, Int.reduceAdd, Int.reduceMul, Int.reduceSub, Int.reduceNeg, Int.reduceToNat, reduceIte, Nat.reduceLT]
  simp [viewA, viewFn, viewC, viewFs, viewCs, viewAs, closedC, closedCs]

/-- The facts of a key and a kind. -/
def Fact.of (key : ByteArray) (kind : Int) (f : Fact) : Bool := decide (f.key = key) && (decide (kind = 0) || decide (f.kind = kind))

theorem facts_Find_ok (s : State) (key : ByteArray) (kind : Int) (hb : s.facts.length ≤ 1000000000) : Pr 55 [.agg s.cells, sC key, iC kind] (.c (factsC (s.facts.filter (Fact.of key kind)))) := by
  obtain ⟨seen, l⟩ := s
  refine pure_ofW mixed is_facts_Find (by simp [closedAs, closedA, closedC, State.closed]) fun hl T => ?_
  have hlen : l.length ≤ maxLen := by simp [lenAs, lenA, lenC, State.cells, runsC, factsC] at hl; exact hl.2
  unfold c_facts_Find
  simp only at hb ⊢
  generalize hv : l.filter (Fact.of key kind) = v
  simp only [go_sem, reduceCtorEq, Nat.reduceEqDiff, Nat.reduceAdd, Nat.reduceSub, Nat.reduceMul, Nat.reduceLeDiff, Int.reduceEq, Int.reduceLT, Int.reduceLE, Int.reduceAdd, Int.reduceMul, Int.reduceSub, Int.reduceNeg, Int.reduceToNat, reduceIte, Nat.reduceLT, List.length_map]
  have loop : ∀ (rest pre acc : List Fact) (e : Env) (H : Heap), l = pre ++ rest → e 1 = sC key → e 2 = iC kind → e 11 = .c (factsC l) → e 12 = iC l.length → e 13 = iC pre.length → Acc 6 (acc.map Fact.cells) (e 7) H → acc.length ≤ pre.length →
      acc ++ rest.filter (Fact.of key kind) = v → Run (progT Tryz.prog T) ⟨[.tmp 6], fun u E => viewW E u (.c (.lst 6 (v.map Fact.cells)))⟩ [.loop facts_Find_L0, .blk 0, .code facts_Find_K1] e H := by
    intro rest
    induction rest with
    | nil =>
      intro pre acc e H hp h1 h2 h11 h12 h13 hacc hle hm
      have hc : ¬ ((pre.length : Int) < (l.length : Int)) := by rw [hp]; simp
      refine run_again ?_
      conv => enter [3, 1]; unfold facts_Find_L0
      simp only [go_sem, reduceCtorEq, Nat.reduceEqDiff, Nat.reduceAdd, Nat.reduceSub, Nat.reduceMul, Nat.reduceLeDiff, Int.reduceEq, Int.reduceLT, Int.reduceLE, Int.reduceAdd, Int.reduceMul, Int.reduceSub, Int.reduceNeg, Int.reduceToNat, reduceIte, Nat.reduceLT, h1, h2, h11, h12, h13, hc]
      unfold facts_Find_K1
      simp only [go_sem, reduceCtorEq, Nat.reduceEqDiff, Nat.reduceAdd, Nat.reduceSub, Nat.reduceMul, Nat.reduceLeDiff, Int.reduceEq, Int.reduceLT, Int.reduceLE, Int.reduceAdd, Int.reduceMul, Int.reduceSub, Int.reduceNeg, Int.reduceToNat, reduceIte, Nat.reduceLT]
      have := hacc.told (closed_facts acc)
      simp at hm
      rw [← hm]
      exact this
    | cons r rest ih =>
      intro pre acc e H hp h1 h2 h11 h12 h13 hacc hle hm
      have hc : ((pre.length : Int) < (l.length : Int)) := by rw [hp]; simp; omega
      have hr := map_at' (f := Fact.cells) hp
      have hn := next_at hp hlen
      have hpl : pre.length < l.length := by rw [hp]; simp
      refine run_again ?_
      conv => enter [3, 1]; unfold facts_Find_L0
      simp only [go_sem, reduceCtorEq, Nat.reduceEqDiff, Nat.reduceAdd, Nat.reduceSub, Nat.reduceMul, Nat.reduceLeDiff, Int.reduceEq, Int.reduceLT, Int.reduceLE, Int.reduceAdd, Int.reduceMul, Int.reduceSub, Int.reduceNeg, Int.reduceToNat, reduceIte, Nat.reduceLT, h1, h2, h11, h12, h13, hc, hr]
      have go : ∀ (e' : Env) (H' : Heap), e' 1 = e 1 → e' 2 = e 2 → e' 11 = e 11 → e' 12 = e 12 → e' 7 = e 7 → Acc 6 (acc.map Fact.cells) (e 7) H' → e' 13 = iC (pre ++ [r]).length → Fact.of key kind r = false → Run (progT Tryz.prog T) ⟨[.tmp 6], fun u E => viewW E u (.c (.lst 6 (v.map Fact.cells)))⟩ [.loop facts_Find_L0, .blk 0, .code facts_Find_K1] e' H' := by
        intro e' H' g1 g2 g11 g12 g7 ga g13 gm
        exact ih (pre ++ [r]) acc e' H' (by simp [hp]) (by rw [g1, h1]) (by rw [g2, h2]) (by rw [g11, h11]) (by rw [g12, h12]) g13 (by rw [g7]; exact ga) (by simp; omega) (by rw [← hm]; simp [gm])
      have goA : ∀ (e' : Env) (H' : Heap) (row : List Cell), e' 1 = e 1 → e' 2 = e 2 → e' 11 = e 11 → e' 12 = e 12 → Acc 6 (acc.map Fact.cells ++ [row]) (e' 7) H' → row = r.cells → e' 13 = iC (pre ++ [r]).length → Fact.of key kind r = true → Run (progT Tryz.prog T) ⟨[.tmp 6], fun u E => viewW E u (.c (.lst 6 (v.map Fact.cells)))⟩ [.loop facts_Find_L0, .blk 0, .code facts_Find_K1] e' H' := by
        intro e' H' row g1 g2 g11 g12 ga gr g13 gm
        subst gr
        exact ih (pre ++ [r]) (acc ++ [r]) e' H' (by simp [hp]) (by rw [g1, h1]) (by rw [g2, h2]) (by rw [g11, h11]) (by rw [g12, h12]) g13 (by simpa using ga) (by simp; omega) (by rw [← hm]; simp [gm])
      have hroom : ((acc.map Fact.cells).length + [r.cells].length) * 64 ≤ 140737488355328 := by simp; omega
      clear ih hp hl hr hc
      repeat' (first | (first | refine guardW_split (fun h => ?_) (fun h => ?_) | refine condW_split (fun h => ?_) (fun h => ?_) | refine guardW_nsplit (fun h => ?_) (fun h => ?_) | refine condW_nsplit (fun h => ?_) (fun h => ?_) | refine guardW_nbool (fun h => ?_) (fun h => ?_) | refine condW_ncases (fun h => ?_) (fun h => ?_) | refine guardW_bool (fun h => ?_) (fun h => ?_) | refine condW_cases (fun h => ?_) (fun h => ?_)) | (refine Acc.app_step (hacc.snoc) hroom fun v' H' hacc' => ?_) | simp only [go_sem, reduceCtorEq, Nat.reduceEqDiff, Nat.reduceAdd, Nat.reduceSub, Nat.reduceMul, Nat.reduceLeDiff, Int.reduceEq, Int.reduceLT, Int.reduceLE, Int.reduceAdd, Int.reduceMul, Int.reduceSub, Int.reduceNeg, Int.reduceToNat, reduceIte, Nat.reduceLT, h13, hn, *])
      all_goals first
        | (refine goA _ _ _ ?_ ?_ ?_ ?_ (by simp only [go_sem, reduceCtorEq, Nat.reduceEqDiff, Nat.reduceAdd, Nat.reduceSub, Nat.reduceMul, Nat.reduceLeDiff, Int.reduceEq, Int.reduceLT, Int.reduceLE, Int.reduceAdd, Int.reduceMul, Int.reduceSub, Int.reduceNeg, Int.reduceToNat, reduceIte, Nat.reduceLT]; assumption) ?_ ?_ ?_ <;> first | (simp only [go_sem, reduceCtorEq, Nat.reduceEqDiff, Nat.reduceAdd, Nat.reduceSub, Nat.reduceMul, Nat.reduceLeDiff, Int.reduceEq, Int.reduceLT, Int.reduceLE, Int.reduceAdd, Int.reduceMul, Int.reduceSub, Int.reduceNeg, Int.reduceToNat, reduceIte, Nat.reduceLT, hn]; done) | (simp [Fact.of, Fact.cells, *]; done))
        | (refine go _ _ ?_ ?_ ?_ ?_ ?_ hacc.snoc ?_ ?_ <;> first | (simp only [go_sem, reduceCtorEq, Nat.reduceEqDiff, Nat.reduceAdd, Nat.reduceSub, Nat.reduceMul, Nat.reduceLeDiff, Int.reduceEq, Int.reduceLT, Int.reduceLE, Int.reduceAdd, Int.reduceMul, Int.reduceSub, Int.reduceNeg, Int.reduceToNat, reduceIte, Nat.reduceLT, hn]; done) | (simp [Fact.of, *]; done))
  refine loop l [] [] _ _ rfl rfl rfl rfl ?_ rfl .nil (Nat.le_refl _) hv
  simp only [go_sem, reduceCtorEq, Nat.reduceEqDiff, Nat.reduceAdd, Nat.reduceSub, Nat.reduceMul, Nat.reduceLeDiff, Int.reduceEq, Int.reduceLT, Int.reduceLE, Int.reduceAdd, Int.reduceMul, Int.reduceSub, Int.reduceNeg, Int.reduceToNat, reduceIte, Nat.reduceLT, List.length_map]

theorem facts_Find_own (s : State) (key : ByteArray) (kind : Int) (hb : s.facts.length ≤ 1000000) (H : Heap) : ∃ v G, CallSound Tryz.prog 55 [.agg s.cells, sC key, iC kind] H v G ∧ Acc 6 ((s.facts.filter (Fact.of key kind)).map Fact.cells) v G := by
  obtain ⟨seen, l⟩ := s
  refine sound_ex mixed is_facts_Find fun T => ?_
  have hlen : l.length ≤ maxLen := by unfold maxLen; simp only at hb; omega
  have hcs := closed_runs seen
  have hcf := closed_facts l
  unfold c_facts_Find
  simp only at hb ⊢
  generalize hv : l.filter (Fact.of key kind) = v
  simp only [go_sem, reduceCtorEq, Nat.reduceEqDiff, Nat.reduceAdd, Nat.reduceSub, Nat.reduceMul, Nat.reduceLeDiff, Int.reduceEq, Int.reduceLT, Int.reduceLE, Int.reduceAdd, Int.reduceMul, Int.reduceSub, Int.reduceNeg, Int.reduceToNat, reduceIte, Nat.reduceLT, hcs, hcf, List.length_map]
  have loop : ∀ (rest pre acc : List Fact) (e : Env) (H : Heap), l = pre ++ rest → e 1 = sC key → e 2 = iC kind → e 11 = .c (factsC l) → e 12 = iC l.length → e 13 = iC pre.length → Acc 6 (acc.map Fact.cells) (e 7) H → acc.length ≤ pre.length →
      acc ++ rest.filter (Fact.of key kind) = v → Run (progT Tryz.prog T) ⟨[.tmp 6], fun u E => Acc 6 (v.map Fact.cells) u E⟩ [.loop facts_Find_L0, .blk 0, .code facts_Find_K1] e H := by
    intro rest
    induction rest with
    | nil =>
      intro pre acc e H hp h1 h2 h11 h12 h13 hacc hle hm
      have hc : ¬ ((pre.length : Int) < (l.length : Int)) := by rw [hp]; simp
      refine run_again ?_
      conv => enter [3, 1]; unfold facts_Find_L0
      simp only [go_sem, reduceCtorEq, Nat.reduceEqDiff, Nat.reduceAdd, Nat.reduceSub, Nat.reduceMul, Nat.reduceLeDiff, Int.reduceEq, Int.reduceLT, Int.reduceLE, Int.reduceAdd, Int.reduceMul, Int.reduceSub, Int.reduceNeg, Int.reduceToNat, reduceIte, Nat.reduceLT, h1, h2, h11, h12, h13, hc]
      unfold facts_Find_K1
      simp only [go_sem, reduceCtorEq, Nat.reduceEqDiff, Nat.reduceAdd, Nat.reduceSub, Nat.reduceMul, Nat.reduceLeDiff, Int.reduceEq, Int.reduceLT, Int.reduceLE, Int.reduceAdd, Int.reduceMul, Int.reduceSub, Int.reduceNeg, Int.reduceToNat, reduceIte, Nat.reduceLT]
      simp at hm
      rw [← hm]
      exact hacc
    | cons r rest ih =>
      intro pre acc e H hp h1 h2 h11 h12 h13 hacc hle hm
      have hc : ((pre.length : Int) < (l.length : Int)) := by rw [hp]; simp; omega
      have hr := map_at' (f := Fact.cells) hp
      have hn := next_at hp hlen
      have hpl : pre.length < l.length := by rw [hp]; simp
      refine run_again ?_
      conv => enter [3, 1]; unfold facts_Find_L0
      simp only [go_sem, reduceCtorEq, Nat.reduceEqDiff, Nat.reduceAdd, Nat.reduceSub, Nat.reduceMul, Nat.reduceLeDiff, Int.reduceEq, Int.reduceLT, Int.reduceLE, Int.reduceAdd, Int.reduceMul, Int.reduceSub, Int.reduceNeg, Int.reduceToNat, reduceIte, Nat.reduceLT, h1, h2, h11, h12, h13, hc, hr]
      have go : ∀ (e' : Env) (H' : Heap), e' 1 = e 1 → e' 2 = e 2 → e' 11 = e 11 → e' 12 = e 12 → e' 7 = e 7 → Acc 6 (acc.map Fact.cells) (e 7) H' → e' 13 = iC (pre ++ [r]).length → Fact.of key kind r = false → Run (progT Tryz.prog T) ⟨[.tmp 6], fun u E => Acc 6 (v.map Fact.cells) u E⟩ [.loop facts_Find_L0, .blk 0, .code facts_Find_K1] e' H' := by
        intro e' H' g1 g2 g11 g12 g7 ga g13 gm
        exact ih (pre ++ [r]) acc e' H' (by simp [hp]) (by rw [g1, h1]) (by rw [g2, h2]) (by rw [g11, h11]) (by rw [g12, h12]) g13 (by rw [g7]; exact ga) (by simp; omega) (by rw [← hm]; simp [gm])
      have goA : ∀ (e' : Env) (H' : Heap) (row : List Cell), e' 1 = e 1 → e' 2 = e 2 → e' 11 = e 11 → e' 12 = e 12 → Acc 6 (acc.map Fact.cells ++ [row]) (e' 7) H' → row = r.cells → e' 13 = iC (pre ++ [r]).length → Fact.of key kind r = true → Run (progT Tryz.prog T) ⟨[.tmp 6], fun u E => Acc 6 (v.map Fact.cells) u E⟩ [.loop facts_Find_L0, .blk 0, .code facts_Find_K1] e' H' := by
        intro e' H' row g1 g2 g11 g12 ga gr g13 gm
        subst gr
        exact ih (pre ++ [r]) (acc ++ [r]) e' H' (by simp [hp]) (by rw [g1, h1]) (by rw [g2, h2]) (by rw [g11, h11]) (by rw [g12, h12]) g13 (by simpa using ga) (by simp; omega) (by rw [← hm]; simp [gm])
      have hroom : ((acc.map Fact.cells).length + [r.cells].length) * 64 ≤ 140737488355328 := by simp; omega
      clear ih hp hr hc
      repeat' (first | (first | refine guardW_split (fun h => ?_) (fun h => ?_) | refine condW_split (fun h => ?_) (fun h => ?_) | refine guardW_nsplit (fun h => ?_) (fun h => ?_) | refine condW_nsplit (fun h => ?_) (fun h => ?_) | refine guardW_nbool (fun h => ?_) (fun h => ?_) | refine condW_ncases (fun h => ?_) (fun h => ?_) | refine guardW_bool (fun h => ?_) (fun h => ?_) | refine condW_cases (fun h => ?_) (fun h => ?_)) | (refine Acc.app_step (hacc.snoc) hroom fun v' H' hacc' => ?_) | simp only [go_sem, reduceCtorEq, Nat.reduceEqDiff, Nat.reduceAdd, Nat.reduceSub, Nat.reduceMul, Nat.reduceLeDiff, Int.reduceEq, Int.reduceLT, Int.reduceLE, Int.reduceAdd, Int.reduceMul, Int.reduceSub, Int.reduceNeg, Int.reduceToNat, reduceIte, Nat.reduceLT, h13, hn, *])
      all_goals first
        | (refine goA _ _ _ ?_ ?_ ?_ ?_ (by simp only [go_sem, reduceCtorEq, Nat.reduceEqDiff, Nat.reduceAdd, Nat.reduceSub, Nat.reduceMul, Nat.reduceLeDiff, Int.reduceEq, Int.reduceLT, Int.reduceLE, Int.reduceAdd, Int.reduceMul, Int.reduceSub, Int.reduceNeg, Int.reduceToNat, reduceIte, Nat.reduceLT]; assumption) ?_ ?_ ?_ <;> first | (simp only [go_sem, reduceCtorEq, Nat.reduceEqDiff, Nat.reduceAdd, Nat.reduceSub, Nat.reduceMul, Nat.reduceLeDiff, Int.reduceEq, Int.reduceLT, Int.reduceLE, Int.reduceAdd, Int.reduceMul, Int.reduceSub, Int.reduceNeg, Int.reduceToNat, reduceIte, Nat.reduceLT, hn]; done) | (simp [Fact.of, Fact.cells, *]; done))
        | (refine go _ _ ?_ ?_ ?_ ?_ ?_ hacc.snoc ?_ ?_ <;> first | (simp only [go_sem, reduceCtorEq, Nat.reduceEqDiff, Nat.reduceAdd, Nat.reduceSub, Nat.reduceMul, Nat.reduceLeDiff, Int.reduceEq, Int.reduceLT, Int.reduceLE, Int.reduceAdd, Int.reduceMul, Int.reduceSub, Int.reduceNeg, Int.reduceToNat, reduceIte, Nat.reduceLT, hn]; done) | (simp [Fact.of, *]; done))
  refine loop l [] [] _ _ rfl rfl rfl rfl ?_ rfl .nil (Nat.le_refl _) hv
  simp only [go_sem, reduceCtorEq, Nat.reduceEqDiff, Nat.reduceAdd, Nat.reduceSub, Nat.reduceMul, Nat.reduceLeDiff, Int.reduceEq, Int.reduceLT, Int.reduceLE, Int.reduceAdd, Int.reduceMul, Int.reduceSub, Int.reduceNeg, Int.reduceToNat, reduceIte, Nat.reduceLT, List.length_map]

theorem r7_Find_ok (s : State) (key : ByteArray) (kind : Int) (hb : s.facts.length ≤ 1000000000) : Pr 22 [.agg s.cells, sC key, iC kind] (.c (factsC (s.facts.filter (Fact.of key kind)))) := by
  obtain ⟨seen, l⟩ := s
  refine pure_ofW mixed is_r7_Find (by simp [closedAs, closedA, closedC, State.closed]) fun hl T => ?_
  have hlen : l.length ≤ maxLen := by simp [lenAs, lenA, lenC, State.cells, runsC, factsC] at hl; exact hl.2
  unfold c_r7_Find
  simp only at hb ⊢
  generalize hv : l.filter (Fact.of key kind) = v
  simp only [go_sem, reduceCtorEq, Nat.reduceEqDiff, Nat.reduceAdd, Nat.reduceSub, Nat.reduceMul, Nat.reduceLeDiff, Int.reduceEq, Int.reduceLT, Int.reduceLE, Int.reduceAdd, Int.reduceMul, Int.reduceSub, Int.reduceNeg, Int.reduceToNat, reduceIte, Nat.reduceLT, List.length_map]
  have loop : ∀ (rest pre acc : List Fact) (e : Env) (H : Heap), l = pre ++ rest → e 1 = sC key → e 2 = iC kind → e 3 = .c (.fp [runsC seen, factsC l] 0) → e 8 = iC pre.length → Acc 6 (acc.map Fact.cells) (e 7) H → acc.length ≤ pre.length →
      acc ++ rest.filter (Fact.of key kind) = v → Run (progT Tryz.prog T) ⟨[.tmp 6], fun u E => viewW E u (.c (.lst 6 (v.map Fact.cells)))⟩ [.loop r7_Find_L0, .blk 0, .code r7_Find_K1] e H := by
    intro rest
    induction rest with
    | nil =>
      intro pre acc e H hp h1 h2 h3 h8 hacc hle hm
      have hc := not_lt_at (f := Fact.cells) hp
      refine run_again ?_
      conv => enter [3, 1]; unfold r7_Find_L0
      simp only [go_sem, reduceCtorEq, Nat.reduceEqDiff, Nat.reduceAdd, Nat.reduceSub, Nat.reduceMul, Nat.reduceLeDiff, Int.reduceEq, Int.reduceLT, Int.reduceLE, Int.reduceAdd, Int.reduceMul, Int.reduceSub, Int.reduceNeg, Int.reduceToNat, reduceIte, Nat.reduceLT, h1, h2, h3, h8, hc]
      unfold r7_Find_K1
      simp only [go_sem, reduceCtorEq, Nat.reduceEqDiff, Nat.reduceAdd, Nat.reduceSub, Nat.reduceMul, Nat.reduceLeDiff, Int.reduceEq, Int.reduceLT, Int.reduceLE, Int.reduceAdd, Int.reduceMul, Int.reduceSub, Int.reduceNeg, Int.reduceToNat, reduceIte, Nat.reduceLT]
      have := hacc.told (closed_facts acc)
      simp at hm
      rw [← hm]
      exact this
    | cons r rest ih =>
      intro pre acc e H hp h1 h2 h3 h8 hacc hle hm
      have hc := lt_at (f := Fact.cells) hp
      have hr := map_at' (f := Fact.cells) hp
      have hn := next_at hp hlen
      have hpl : pre.length < l.length := by rw [hp]; simp
      refine run_again ?_
      conv => enter [3, 1]; unfold r7_Find_L0
      simp only [go_sem, reduceCtorEq, Nat.reduceEqDiff, Nat.reduceAdd, Nat.reduceSub, Nat.reduceMul, Nat.reduceLeDiff, Int.reduceEq, Int.reduceLT, Int.reduceLE, Int.reduceAdd, Int.reduceMul, Int.reduceSub, Int.reduceNeg, Int.reduceToNat, reduceIte, Nat.reduceLT, h1, h2, h3, h8, hc, hr]
      have go : ∀ (e' : Env), e' 1 = e 1 → e' 2 = e 2 → e' 3 = e 3 → e' 7 = e 7 → e' 8 = iC (pre ++ [r]).length → Fact.of key kind r = false → Run (progT Tryz.prog T) ⟨[.tmp 6], fun u E => viewW E u (.c (.lst 6 (v.map Fact.cells)))⟩ [.loop r7_Find_L0, .blk 0, .code r7_Find_K1] e' H := by
        intro e' g1 g2 g3 g7 g8 gm
        exact ih (pre ++ [r]) acc e' H (by simp [hp]) (by rw [g1, h1]) (by rw [g2, h2]) (by rw [g3, h3]) g8 (by rw [g7]; exact hacc) (by simp; omega) (by rw [← hm]; simp [gm])
      have goA : ∀ (e' : Env) (H' : Heap) (row : List Cell), e' 1 = e 1 → e' 2 = e 2 → e' 3 = e 3 → Acc 6 (acc.map Fact.cells ++ [row]) (e' 7) H' → row = r.cells → e' 8 = iC (pre ++ [r]).length → Fact.of key kind r = true → Run (progT Tryz.prog T) ⟨[.tmp 6], fun u E => viewW E u (.c (.lst 6 (v.map Fact.cells)))⟩ [.loop r7_Find_L0, .blk 0, .code r7_Find_K1] e' H' := by
        intro e' H' row g1 g2 g3 ga gr g8 gm
        subst gr
        exact ih (pre ++ [r]) (acc ++ [r]) e' H' (by simp [hp]) (by rw [g1, h1]) (by rw [g2, h2]) (by rw [g3, h3]) g8 (by simpa using ga) (by simp; omega) (by rw [← hm]; simp [gm])
      have hroom : ((acc.map Fact.cells).length + [r.cells].length) * 64 ≤ 140737488355328 := by simp; omega
      clear ih hp hl hc
      repeat' (first | (first | refine guardW_split (fun h => ?_) (fun h => ?_) | refine condW_split (fun h => ?_) (fun h => ?_) | refine guardW_nsplit (fun h => ?_) (fun h => ?_) | refine condW_nsplit (fun h => ?_) (fun h => ?_) | refine guardW_nbool (fun h => ?_) (fun h => ?_) | refine condW_ncases (fun h => ?_) (fun h => ?_) | refine guardW_bool (fun h => ?_) (fun h => ?_) | refine condW_cases (fun h => ?_) (fun h => ?_)) | (refine Acc.app_step hacc hroom fun v' H' hacc' => ?_) | simp only [go_sem, reduceCtorEq, Nat.reduceEqDiff, Nat.reduceAdd, Nat.reduceSub, Nat.reduceMul, Nat.reduceLeDiff, Int.reduceEq, Int.reduceLT, Int.reduceLE, Int.reduceAdd, Int.reduceMul, Int.reduceSub, Int.reduceNeg, Int.reduceToNat, reduceIte, Nat.reduceLT, h3, h8, hn, *])
      all_goals first
        | (refine goA _ _ _ ?_ ?_ ?_ (by simp only [go_sem, reduceCtorEq, Nat.reduceEqDiff, Nat.reduceAdd, Nat.reduceSub, Nat.reduceMul, Nat.reduceLeDiff, Int.reduceEq, Int.reduceLT, Int.reduceLE, Int.reduceAdd, Int.reduceMul, Int.reduceSub, Int.reduceNeg, Int.reduceToNat, reduceIte, Nat.reduceLT]; assumption) ?_ ?_ ?_ <;> first | (simp only [go_sem, reduceCtorEq, Nat.reduceEqDiff, Nat.reduceAdd, Nat.reduceSub, Nat.reduceMul, Nat.reduceLeDiff, Int.reduceEq, Int.reduceLT, Int.reduceLE, Int.reduceAdd, Int.reduceMul, Int.reduceSub, Int.reduceNeg, Int.reduceToNat, reduceIte, Nat.reduceLT, hn]; done) | (simp [Fact.of, Fact.cells, *]; done))
        | (refine go _ ?_ ?_ ?_ ?_ ?_ ?_ <;> first | (simp only [go_sem, reduceCtorEq, Nat.reduceEqDiff, Nat.reduceAdd, Nat.reduceSub, Nat.reduceMul, Nat.reduceLeDiff, Int.reduceEq, Int.reduceLT, Int.reduceLE, Int.reduceAdd, Int.reduceMul, Int.reduceSub, Int.reduceNeg, Int.reduceToNat, reduceIte, Nat.reduceLT, hn]; done) | (simp [Fact.of, *]; done))
  exact loop l [] [] _ _ rfl rfl rfl rfl rfl .nil (Nat.le_refl _) hv

end Go.Proofs.YtnccbccnjjachaaGreatDoor.Eng
