/- Wires: their bytes (that there are some), and a state's. No statement of the seat is proved here. -/
import Derived.Test.YtfbkolkkpkonfaaZWire2
import Derived.Test.YtfbkolkkpkonfaaZFactB
import Derived.Test.YtfbkolkkpkonfaaZApartR
import Derived.Test.YtfbkolkkpkonfaaZJoinV
namespace Go.Proofs.Ytfbkolkkpkonfaa.Eng
open Go
set_option linter.unusedVariables false
set_option linter.unusedSimpArgs false

/-- Rows that are bytes. -/
def AllB (rows : List (List Cell)) : Prop := ∀ r ∈ rows, ∃ n, r = [.int .u8 n]
theorem AllB.nil : AllB [] := fun r h => by simp at h
theorem AllB.app {a b : List (List Cell)} (ha : AllB a) (hb : AllB b) : AllB (a ++ b) := fun r h => (List.mem_append.1 h).elim (ha r) (hb r)
theorem AllB.one (n : Int) : AllB [[.int .u8 n]] := fun r h => by simp at h; exact ⟨n, h⟩
theorem AllB.str (s : ByteArray) : AllB ((bytesOf s).map fun c => [c]) := fun r h => by
  unfold bytesOf at h
  simp only [List.map_map, List.mem_map] at h
  obtain ⟨b, _, rfl⟩ := h
  exact ⟨_, rfl⟩
theorem AllB.closed : ∀ {rows : List (List Cell)}, AllB rows → closedR rows = true
  | [], _ => rfl
  | r :: l, h => by
    obtain ⟨n, rfl⟩ := h r (by simp)
    have := AllB.closed (rows := l) fun x hx => h x (by simp [hx])
    simp [Eng.closedR, closedCs, closedC, this]
theorem AllB.take : ∀ {rows : List (List Cell)}, AllB rows → ∃ l, takeBytes rows = some l ∧ l.length = rows.length
  | [], _ => ⟨[], rfl, rfl⟩
  | r :: rest, h => by
    obtain ⟨n, rfl⟩ := h r (by simp)
    obtain ⟨l, h1, h2⟩ := AllB.take (rows := rest) fun x hx => h x (by simp [hx])
    exact ⟨UInt8.ofNat n.toNat :: l, by simp [takeBytes, h1], by simp [h2]⟩
theorem str_len (s : ByteArray) : ((bytesOf s).map fun c => [c]).length = s.size := by
  unfold bytesOf
  rw [List.length_map, List.length_map]
  rfl

/-- A text of what was built. -/
theorem Acc.b2s {rows : List (List Cell)} {v : AVal} {H : Heap} (h : Acc 1 rows v H) (hb : AllB rows) : ∃ s : ByteArray, vB2s v H = some (sC s, H) ∧ s.size = rows.length := by
  obtain ⟨l, h1, h2⟩ := hb.take
  refine ⟨⟨l.toArray⟩, ?_, by simp [ByteArray.size, h2]⟩
  rcases h with ⟨rfl, rfl | rfl⟩ | ⟨b, ext, rfl, h3⟩
  · simp [takeBytes] at h1; subst h1; rfl
  · simp [takeBytes] at h1; subst h1; rfl
  · have hr : Heap.rowsOf H (.slc b 0 rows.length 1 false) = some rows := by
      simp only [Heap.rowsOf, h3]
      by_cases h0 : rows.length = 0
      · have : rows = [] := List.eq_nil_of_length_eq_zero h0
        subst this; rfl
      · simp [h0]
    simp only [vB2s, fitsSz, beq_self_eq_true, if_true, hr, h1]

theorem vBin_shr_any {a b : Int} {k j : IntKind} {H : Heap} (hb : 0 ≤ b) : vBin .shr (.c (.int k a)) (.c (.int j b)) H = some (.c (.int k (a.fdiv (2 ^ (Nat.min b.toNat k.bits)))), H) := by
  simp [vBin, evBin, vPure, hb]

theorem r1_Eight_ok (n : Int) : ∃ s : ByteArray, Pr 101 [iC n] (sC s) ∧ s.size = 8 := by
  have key : ∃ v, Pr 101 [iC n] v ∧ ∃ s : ByteArray, v = sC s ∧ s.size = 8 := by
    refine pure_ex mixed is_r1_Eight rfl fun T => ?_
    unfold c_r1_Eight
    have loop : ∀ (m i : Nat) (rows : List (List Cell)) (e : Env) (H : Heap), i + m = 8 → (∃ x, e 3 = .c (.int .u64 x)) → e 5 = iC i → Acc 1 rows (e 4) H → AllB rows → rows.length = i →
        Run (progT Try.prog T) ⟨[.tmp 2], fun u E => ∃ v, viewA E u = some v ∧ ∃ s : ByteArray, v = sC s ∧ s.size = 8⟩ [.loop r1_Eight_L0, .blk 0, .code r1_Eight_K1] e H := by
      intro m
      induction m with
      | zero =>
        intro i rows e H hm h3 h5 hacc hb hl
        have hi : i = 8 := by omega
        subst hi
        have hc : ¬ (((8 : Nat) : Int) < 8) := by omega
        refine run_again ?_
        conv => enter [3, 1]; unfold r1_Eight_L0
        simp only [go_sem, reduceCtorEq, Nat.reduceEqDiff, Nat.reduceAdd, Nat.reduceSub, Nat.reduceMul, Nat.reduceLeDiff, Int.reduceEq, Int.reduceLT, Int.reduceLE, Int.reduceAdd, Int.reduceMul, Int.reduceSub, Int.reduceNeg, Int.reduceToNat, reduceIte, Nat.reduceLT, h5, hc]
        unfold r1_Eight_K1
        obtain ⟨s, hs, hsz⟩ := hacc.b2s hb
        have hs' : ∀ H', H' = H → vB2s (e 4) H' = some (sC s, H') := fun H' e => by subst e; exact hs
        simp only [go_sem, reduceCtorEq, Nat.reduceEqDiff, Nat.reduceAdd, Nat.reduceSub, Nat.reduceMul, Nat.reduceLeDiff, Int.reduceEq, Int.reduceLT, Int.reduceLE, Int.reduceAdd, Int.reduceMul, Int.reduceSub, Int.reduceNeg, Int.reduceToNat, reduceIte, Nat.reduceLT, hs]
        exact ⟨sC s, rfl, s, rfl, by omega⟩
      | succ m ih =>
        intro i rows e H hm h3 h5 hacc hb hl
        obtain ⟨x, h3⟩ := h3
        have hc : ((i : Int) < 8) := by omega
        have w1 : IntKind.wrap .i64 (8 * (i : Int)) = 8 * (i : Int) := wrap64 (by omega)
        have w2 : IntKind.wrap .i64 (56 - 8 * (i : Int)) = 56 - 8 * (i : Int) := wrap64 (by omega)
        have w3 : IntKind.wrap .u64 (56 - 8 * (i : Int)) = 56 - 8 * (i : Int) := wrapu64 (by omega)
        have wi : IntKind.wrap .i64 ((i : Int) + 1) = ((i + 1 : Nat) : Int) := by rw [wrap64 (by omega)]; omega
        have hb0 : (0 : Int) ≤ 56 - 8 * (i : Int) := by omega
        refine run_again ?_
        conv => enter [3, 1]; unfold r1_Eight_L0
        simp only [go_sem, reduceCtorEq, Nat.reduceEqDiff, Nat.reduceAdd, Nat.reduceSub, Nat.reduceMul, Nat.reduceLeDiff, Int.reduceEq, Int.reduceLT, Int.reduceLE, Int.reduceAdd, Int.reduceMul, Int.reduceSub, Int.reduceNeg, Int.reduceToNat, reduceIte, Nat.reduceLT, h3, h5, hc, w1, w2, w3, vBin_shr_any hb0]
        refine hacc.app_step (by simp; omega) fun v' H' ha' => ?_
        simp only [go_sem, reduceCtorEq, Nat.reduceEqDiff, Nat.reduceAdd, Nat.reduceSub, Nat.reduceMul, Nat.reduceLeDiff, Int.reduceEq, Int.reduceLT, Int.reduceLE, Int.reduceAdd, Int.reduceMul, Int.reduceSub, Int.reduceNeg, Int.reduceToNat, reduceIte, Nat.reduceLT, h5, wi]
        obtain ⟨r', ha', hb', hl'⟩ : ∃ r', Acc 1 r' v' H' ∧ AllB r' ∧ r'.length = i + 1 := ⟨_, ha', hb.app (AllB.one _), by simp; omega⟩
        refine ih (i + 1) r' _ _ (by omega) ⟨x, ?_⟩ ?_ ?_ hb' hl'
        · simp only [go_sem, reduceCtorEq, Nat.reduceEqDiff, Nat.reduceAdd, Nat.reduceSub, Nat.reduceMul, Nat.reduceLeDiff, Int.reduceEq, Int.reduceLT, Int.reduceLE, Int.reduceAdd, Int.reduceMul, Int.reduceSub, Int.reduceNeg, Int.reduceToNat, reduceIte, Nat.reduceLT, h3]
        · simp only [go_sem, reduceCtorEq, Nat.reduceEqDiff, Nat.reduceAdd, Nat.reduceSub, Nat.reduceMul, Nat.reduceLeDiff, Int.reduceEq, Int.reduceLT, Int.reduceLE, Int.reduceAdd, Int.reduceMul, Int.reduceSub, Int.reduceNeg, Int.reduceToNat, reduceIte, Nat.reduceLT, wi]
        · simp only [go_sem, reduceCtorEq, Nat.reduceEqDiff, Nat.reduceAdd, Nat.reduceSub, Nat.reduceMul, Nat.reduceLeDiff, Int.reduceEq, Int.reduceLT, Int.reduceLE, Int.reduceAdd, Int.reduceMul, Int.reduceSub, Int.reduceNeg, Int.reduceToNat, reduceIte, Nat.reduceLT]; exact ha'
    simp only [go_sem, reduceCtorEq, Nat.reduceEqDiff, Nat.reduceAdd, Nat.reduceSub, Nat.reduceMul, Nat.reduceLeDiff, Int.reduceEq, Int.reduceLT, Int.reduceLE, Int.reduceAdd, Int.reduceMul, Int.reduceSub, Int.reduceNeg, Int.reduceToNat, reduceIte, Nat.reduceLT]
    refine loop 8 0 [] _ [] rfl ⟨IntKind.wrap .u64 n, ?_⟩ ?_ ?_ .nil rfl
    · simp only [go_sem, reduceCtorEq, Nat.reduceEqDiff, Nat.reduceAdd, Nat.reduceSub, Nat.reduceMul, Nat.reduceLeDiff, Int.reduceEq, Int.reduceLT, Int.reduceLE, Int.reduceAdd, Int.reduceMul, Int.reduceSub, Int.reduceNeg, Int.reduceToNat, reduceIte, Nat.reduceLT]
    · simp only [go_sem, reduceCtorEq, Nat.reduceEqDiff, Nat.reduceAdd, Nat.reduceSub, Nat.reduceMul, Nat.reduceLeDiff, Int.reduceEq, Int.reduceLT, Int.reduceLE, Int.reduceAdd, Int.reduceMul, Int.reduceSub, Int.reduceNeg, Int.reduceToNat, reduceIte, Nat.reduceLT, Int.natCast_zero]
    · simp only [go_sem, reduceCtorEq, Nat.reduceEqDiff, Nat.reduceAdd, Nat.reduceSub, Nat.reduceMul, Nat.reduceLeDiff, Int.reduceEq, Int.reduceLT, Int.reduceLE, Int.reduceAdd, Int.reduceMul, Int.reduceSub, Int.reduceNeg, Int.reduceToNat, reduceIte, Nat.reduceLT]; exact .nil
  obtain ⟨v, h1, s, rfl, h2⟩ := key
  exact ⟨s, h1, h2⟩

theorem r1_four_ok (n : Int) : ∃ s : ByteArray, Pr 102 [iC n] (sC s) ∧ s.size ≤ 8 := by
  obtain ⟨t, h1, h2⟩ := r1_Eight_ok n
  refine ⟨t.extract 4 8, ?_, by simp [h2]⟩
  refine pure_of mixed is_r1_four rfl fun hl T => ?_
  unfold c_r1_four
  simp only [go_sem, reduceCtorEq, Nat.reduceEqDiff, Nat.reduceAdd, Nat.reduceSub, Nat.reduceMul, Nat.reduceLeDiff, Int.reduceEq, Int.reduceLT, Int.reduceLE, Int.reduceAdd, Int.reduceMul, Int.reduceSub, Int.reduceNeg, Int.reduceToNat, reduceIte, Nat.reduceLT]
  refine callW_pure h1 ?_
  have hs : ∀ (e : Env) (H : Heap), vSlS (sC t) e (some (.k (iC 4))) none H = some (sC (t.extract 4 8), H) := fun e H => by
    simp [vSlS, evSlS, boundO, bound, Opd.ev, h2]
  simp only [go_sem, reduceCtorEq, Nat.reduceEqDiff, Nat.reduceAdd, Nat.reduceSub, Nat.reduceMul, Nat.reduceLeDiff, Int.reduceEq, Int.reduceLT, Int.reduceLE, Int.reduceAdd, Int.reduceMul, Int.reduceSub, Int.reduceNeg, Int.reduceToNat, reduceIte, Nat.reduceLT, hs]
  simp [viewA, viewFn, viewC, viewFs, viewCs, viewAs, closedC, closedCs]

mutual
def Wr.size : Wr → Nat
  | .mk _ _ s l => 20 + s.size + Wr.sizes l
def Wr.sizes : List Wr → Nat
  | [] => 0
  | w :: l => w.size + Wr.sizes l
end

theorem Acc.appS_step {G : Prog} {p : Post} {k : List Itm} {d : Bool} {e : Env} {H : Heap} {l : List AInstr} {dst : Option Nat} {bytes : Nat} {rows : List (List Cell)} {v : AVal} {s : ByteArray}
    (h : Acc 1 rows v H) (hb : (rows.length + s.size) * bytes ≤ 140737488355328) (hw : ∀ v' H', Acc 1 (rows ++ (bytesOf s).map fun c => [c]) v' H' → WL G p k d l (updO e dst v') H') : thenW G p k d (vApp 1 bytes v (sC s) H) dst l e := by
  obtain ⟨v', H', h1, h2, _⟩ := h.app (y := .str s) (new := (bytesOf s).map fun c => [c]) rfl rfl (by rw [str_len]; exact hb)
  exact thenW_of h1 (hw v' H' h2)

set_option maxHeartbeats 1000000 in
theorem r1_put_ok : ∀ (w : Wr) (v : AVal) (H : Heap) (rows : List (List Cell)), Acc 1 rows v H → rows.length + w.size ≤ 1000000000 →
    ∃ v' H', CallSound Try.prog 82 [v, .agg w.cells] H v' H' ∧ ∃ new, Acc 1 (rows ++ new) v' H' ∧ AllB new ∧ new.length ≤ w.size
  | .mk k n s l, v, H, rows, hacc, hsz => by
    have ih : ∀ x ∈ l, ∀ (v : AVal) (H : Heap) (rows : List (List Cell)), Acc 1 rows v H → rows.length + x.size ≤ 1000000000 →
      ∃ v' H', CallSound Try.prog 82 [v, .agg x.cells] H v' H' ∧ ∃ new, Acc 1 (rows ++ new) v' H' ∧ AllB new ∧ new.length ≤ x.size := fun x hx v H rows h1 h2 => r1_put_ok x v H rows h1 h2
    simp only [Wr.size] at hsz ⊢
    refine sound_ex mixed is_r1_put fun T => ?_
    unfold c_r1_put
    simp only [Wr.cells]
    have hrl : (Wr.rows l).length = l.length := Wr.rows_len l
    obtain ⟨s8, he8, hs8⟩ := r1_Eight_ok n
    obtain ⟨t4, hf4, ht4⟩ := r1_four_ok (s.size : Int)
    obtain ⟨l4, hg4, hl4⟩ := r1_four_ok (l.length : Int)
    have hll : l.length ≤ Wr.sizes l := by
      have : ∀ m : List Wr, m.length ≤ Wr.sizes m := fun m => by
        induction m with
        | nil => exact Nat.le_refl _
        | cons x m ihm => cases x; simp only [Wr.sizes, Wr.size, List.length_cons]; omega
      exact this l
    have loop : ∀ (rest pre : List Wr) (acc : List (List Cell)) (e : Env) (H : Heap), l = pre ++ rest → e 3 = .c (.fp [.int .i64 k, .int .i64 n, .str s, .lst 4 (Wr.rows l)] 0) → e 5 = iC pre.length → Acc 1 (rows ++ acc) (e 0) H → AllB acc → acc.length + Wr.sizes rest ≤ 20 + s.size + Wr.sizes l →
        Run (progT Try.prog T) ⟨[.tmp 4], fun u E => ∃ new, Acc 1 (rows ++ new) u E ∧ AllB new ∧ new.length ≤ 20 + s.size + Wr.sizes l⟩ [.loop r1_put_L0, .blk 1, .code r1_put_K1] e H := by
      intro rest
      induction rest with
      | nil =>
        intro pre acc e H hp h3 h5 ha hb hle
        have hc : ¬ ((pre.length : Int) < ((Wr.rows l).length : Int)) := by rw [hrl, hp]; simp
        refine run_again ?_
        conv => enter [3, 1]; unfold r1_put_L0
        simp only [go_sem, reduceCtorEq, Nat.reduceEqDiff, Nat.reduceAdd, Nat.reduceSub, Nat.reduceMul, Nat.reduceLeDiff, Int.reduceEq, Int.reduceLT, Int.reduceLE, Int.reduceAdd, Int.reduceMul, Int.reduceSub, Int.reduceNeg, Int.reduceToNat, reduceIte, Nat.reduceLT, h3, h5, hc]
        unfold r1_put_K1
        simp only [go_sem, reduceCtorEq, Nat.reduceEqDiff, Nat.reduceAdd, Nat.reduceSub, Nat.reduceMul, Nat.reduceLeDiff, Int.reduceEq, Int.reduceLT, Int.reduceLE, Int.reduceAdd, Int.reduceMul, Int.reduceSub, Int.reduceNeg, Int.reduceToNat, reduceIte, Nat.reduceLT]
        exact ⟨acc, ha, hb, by simp only [Wr.sizes] at hle; omega⟩
      | cons r rest ihr =>
        intro pre acc e H hp h3 h5 ha hb hle
        have hc : ((pre.length : Int) < ((Wr.rows l).length : Int)) := by rw [hrl, hp]; simp; omega
        have hr : (Wr.rows l)[pre.length]? = some r.cells := by rw [Wr.rows_map, hp]; simp
        have hn := next_at hp (by unfold maxLen; omega)
        simp only [Wr.sizes] at hle
        obtain ⟨v', H', hcs, new, ha', hb', hle'⟩ := ih r (by rw [hp]; simp) (e 0) H (rows ++ acc) ha (by simp; omega)
        refine run_again ?_
        conv => enter [3, 1]; unfold r1_put_L0
        simp only [go_sem, reduceCtorEq, Nat.reduceEqDiff, Nat.reduceAdd, Nat.reduceSub, Nat.reduceMul, Nat.reduceLeDiff, Int.reduceEq, Int.reduceLT, Int.reduceLE, Int.reduceAdd, Int.reduceMul, Int.reduceSub, Int.reduceNeg, Int.reduceToNat, reduceIte, Nat.reduceLT, h3, h5, hc, hr, Wr.len4, Wr.take4]
        refine callW_at hcs (fun h => by cases h) ?_
        simp only [go_sem, reduceCtorEq, Nat.reduceEqDiff, Nat.reduceAdd, Nat.reduceSub, Nat.reduceMul, Nat.reduceLeDiff, Int.reduceEq, Int.reduceLT, Int.reduceLE, Int.reduceAdd, Int.reduceMul, Int.reduceSub, Int.reduceNeg, Int.reduceToNat, reduceIte, Nat.reduceLT, h5, hn]
        refine ihr (pre ++ [r]) (acc ++ new) _ _ (by rw [hp]; simp) ?_ ?_ ?_ (hb.app hb') (by simp; omega)
        · simp only [go_sem, reduceCtorEq, Nat.reduceEqDiff, Nat.reduceAdd, Nat.reduceSub, Nat.reduceMul, Nat.reduceLeDiff, Int.reduceEq, Int.reduceLT, Int.reduceLE, Int.reduceAdd, Int.reduceMul, Int.reduceSub, Int.reduceNeg, Int.reduceToNat, reduceIte, Nat.reduceLT, h3]
        · simp only [go_sem, reduceCtorEq, Nat.reduceEqDiff, Nat.reduceAdd, Nat.reduceSub, Nat.reduceMul, Nat.reduceLeDiff, Int.reduceEq, Int.reduceLT, Int.reduceLE, Int.reduceAdd, Int.reduceMul, Int.reduceSub, Int.reduceNeg, Int.reduceToNat, reduceIte, Nat.reduceLT, hn]
        · simp only [go_sem, reduceCtorEq, Nat.reduceEqDiff, Nat.reduceAdd, Nat.reduceSub, Nat.reduceMul, Nat.reduceLeDiff, Int.reduceEq, Int.reduceLT, Int.reduceLE, Int.reduceAdd, Int.reduceMul, Int.reduceSub, Int.reduceNeg, Int.reduceToNat, reduceIte, Nat.reduceLT]; rw [← List.append_assoc]; exact ha'
    simp only [go_sem, reduceCtorEq, Nat.reduceEqDiff, Nat.reduceAdd, Nat.reduceSub, Nat.reduceMul, Nat.reduceLeDiff, Int.reduceEq, Int.reduceLT, Int.reduceLE, Int.reduceAdd, Int.reduceMul, Int.reduceSub, Int.reduceNeg, Int.reduceToNat, reduceIte, Nat.reduceLT, Wr.closedR]
    refine hacc.app_step (by simp; omega) fun v1 H1 ha1 => ?_
    by_cases k1 : k = 1
    · subst k1
      simp only [go_sem, reduceCtorEq, Nat.reduceEqDiff, Nat.reduceAdd, Nat.reduceSub, Nat.reduceMul, Nat.reduceLeDiff, Int.reduceEq, Int.reduceLT, Int.reduceLE, Int.reduceAdd, Int.reduceMul, Int.reduceSub, Int.reduceNeg, Int.reduceToNat, reduceIte, Nat.reduceLT]
      refine callW_pure he8 ?_
      simp only [go_sem, reduceCtorEq, Nat.reduceEqDiff, Nat.reduceAdd, Nat.reduceSub, Nat.reduceMul, Nat.reduceLeDiff, Int.reduceEq, Int.reduceLT, Int.reduceLE, Int.reduceAdd, Int.reduceMul, Int.reduceSub, Int.reduceNeg, Int.reduceToNat, reduceIte, Nat.reduceLT]
      refine ha1.appS_step (by simp; omega) fun v2 H2 ha2 => ?_
      simp only [go_sem, reduceCtorEq, Nat.reduceEqDiff, Nat.reduceAdd, Nat.reduceSub, Nat.reduceMul, Nat.reduceLeDiff, Int.reduceEq, Int.reduceLT, Int.reduceLE, Int.reduceAdd, Int.reduceMul, Int.reduceSub, Int.reduceNeg, Int.reduceToNat, reduceIte, Nat.reduceLT]
      exact ⟨_, by rw [List.append_assoc] at ha2; exact ha2, (AllB.one _).app (AllB.str s8), by rw [List.length_append, str_len]; simp; omega⟩
    by_cases k2 : k = 2
    · subst k2
      simp only [go_sem, reduceCtorEq, Nat.reduceEqDiff, Nat.reduceAdd, Nat.reduceSub, Nat.reduceMul, Nat.reduceLeDiff, Int.reduceEq, Int.reduceLT, Int.reduceLE, Int.reduceAdd, Int.reduceMul, Int.reduceSub, Int.reduceNeg, Int.reduceToNat, reduceIte, Nat.reduceLT]
      refine callW_pure hf4 ?_
      simp only [go_sem, reduceCtorEq, Nat.reduceEqDiff, Nat.reduceAdd, Nat.reduceSub, Nat.reduceMul, Nat.reduceLeDiff, Int.reduceEq, Int.reduceLT, Int.reduceLE, Int.reduceAdd, Int.reduceMul, Int.reduceSub, Int.reduceNeg, Int.reduceToNat, reduceIte, Nat.reduceLT]
      refine ha1.appS_step (by simp; omega) fun v2 H2 ha2 => ?_
      simp only [go_sem, reduceCtorEq, Nat.reduceEqDiff, Nat.reduceAdd, Nat.reduceSub, Nat.reduceMul, Nat.reduceLeDiff, Int.reduceEq, Int.reduceLT, Int.reduceLE, Int.reduceAdd, Int.reduceMul, Int.reduceSub, Int.reduceNeg, Int.reduceToNat, reduceIte, Nat.reduceLT]
      refine ha2.appS_step (by rw [List.length_append, str_len]; simp; omega) fun v3 H3 ha3 => ?_
      simp only [go_sem, reduceCtorEq, Nat.reduceEqDiff, Nat.reduceAdd, Nat.reduceSub, Nat.reduceMul, Nat.reduceLeDiff, Int.reduceEq, Int.reduceLT, Int.reduceLE, Int.reduceAdd, Int.reduceMul, Int.reduceSub, Int.reduceNeg, Int.reduceToNat, reduceIte, Nat.reduceLT]
      refine ⟨_, by rw [List.append_assoc, List.append_assoc] at ha3; exact ha3, (AllB.one _).app ((AllB.str t4).app (AllB.str s)), ?_⟩
      rw [List.length_append, List.length_append, str_len, str_len]; simp; omega
    · simp only [go_sem, reduceCtorEq, Nat.reduceEqDiff, Nat.reduceAdd, Nat.reduceSub, Nat.reduceMul, Nat.reduceLeDiff, Int.reduceEq, Int.reduceLT, Int.reduceLE, Int.reduceAdd, Int.reduceMul, Int.reduceSub, Int.reduceNeg, Int.reduceToNat, reduceIte, Nat.reduceLT, k1, k2, hrl]
      refine callW_pure hg4 ?_
      simp only [go_sem, reduceCtorEq, Nat.reduceEqDiff, Nat.reduceAdd, Nat.reduceSub, Nat.reduceMul, Nat.reduceLeDiff, Int.reduceEq, Int.reduceLT, Int.reduceLE, Int.reduceAdd, Int.reduceMul, Int.reduceSub, Int.reduceNeg, Int.reduceToNat, reduceIte, Nat.reduceLT]
      refine ha1.appS_step (by simp; omega) fun v2 H2 ha2 => ?_
      obtain ⟨acc, ha2, hb2, hl2⟩ : ∃ acc, Acc 1 (rows ++ acc) v2 H2 ∧ AllB acc ∧ acc.length ≤ 9 :=
        ⟨_, by rw [List.append_assoc] at ha2; exact ha2, (AllB.one _).app (AllB.str l4), by rw [List.length_append, str_len]; simp; omega⟩
      simp only [go_sem, reduceCtorEq, Nat.reduceEqDiff, Nat.reduceAdd, Nat.reduceSub, Nat.reduceMul, Nat.reduceLeDiff, Int.reduceEq, Int.reduceLT, Int.reduceLE, Int.reduceAdd, Int.reduceMul, Int.reduceSub, Int.reduceNeg, Int.reduceToNat, reduceIte, Nat.reduceLT]
      refine loop l [] acc _ _ rfl ?_ ?_ ?_ hb2 (by omega)
      · simp only [go_sem, reduceCtorEq, Nat.reduceEqDiff, Nat.reduceAdd, Nat.reduceSub, Nat.reduceMul, Nat.reduceLeDiff, Int.reduceEq, Int.reduceLT, Int.reduceLE, Int.reduceAdd, Int.reduceMul, Int.reduceSub, Int.reduceNeg, Int.reduceToNat, reduceIte, Nat.reduceLT]
      · simp only [go_sem, reduceCtorEq, Nat.reduceEqDiff, Nat.reduceAdd, Nat.reduceSub, Nat.reduceMul, Nat.reduceLeDiff, Int.reduceEq, Int.reduceLT, Int.reduceLE, Int.reduceAdd, Int.reduceMul, Int.reduceSub, Int.reduceNeg, Int.reduceToNat, reduceIte, Nat.reduceLT, List.length_nil, Int.natCast_zero]
      · simp only [go_sem, reduceCtorEq, Nat.reduceEqDiff, Nat.reduceAdd, Nat.reduceSub, Nat.reduceMul, Nat.reduceLeDiff, Int.reduceEq, Int.reduceLT, Int.reduceLE, Int.reduceAdd, Int.reduceMul, Int.reduceSub, Int.reduceNeg, Int.reduceToNat, reduceIte, Nat.reduceLT]; exact ha2

termination_by w => SizeOf.sizeOf w
decreasing_by
  simp_wf
  have := List.sizeOf_lt_of_mem hx
  omega

theorem r1_PutWire_ok (w : Wr) (hs : w.size ≤ 1000000000) : ∃ s : ByteArray, Pr 66 [.agg w.cells] (sC s) := by
  cases hm : mayWire w with
  | false =>
    refine ⟨⟨#[]⟩, pure_of mixed is_r1_PutWire (by simp [closedAs, closedA, Wr.closed]) fun hl T => ?_⟩
    have hmw := r1_MayWire_ok w
    rw [hm] at hmw
    unfold c_r1_PutWire
    simp only [go_sem, reduceCtorEq, Nat.reduceEqDiff, Nat.reduceAdd, Nat.reduceSub, Nat.reduceMul, Nat.reduceLeDiff, Int.reduceEq, Int.reduceLT, Int.reduceLE, Int.reduceAdd, Int.reduceMul, Int.reduceSub, Int.reduceNeg, Int.reduceToNat, reduceIte, Nat.reduceLT, Wr.closed, Wr.take4, Wr.len4]
    refine callW_pure hmw ?_
    simp only [go_sem, reduceCtorEq, Nat.reduceEqDiff, Nat.reduceAdd, Nat.reduceSub, Nat.reduceMul, Nat.reduceLeDiff, Int.reduceEq, Int.reduceLT, Int.reduceLE, Int.reduceAdd, Int.reduceMul, Int.reduceSub, Int.reduceNeg, Int.reduceToNat, reduceIte, Nat.reduceLT]
    simp [viewA, viewFn, viewC, viewFs, viewCs, viewAs, closedC, closedCs]
  | true =>
    have key : ∃ v, Pr 66 [.agg w.cells] v ∧ ∃ s : ByteArray, v = sC s := by
      refine pure_ex mixed is_r1_PutWire (by simp [closedAs, closedA, Wr.closed]) fun T => ?_
      have hmw := r1_MayWire_ok w
      rw [hm] at hmw
      unfold c_r1_PutWire
      simp only [go_sem, reduceCtorEq, Nat.reduceEqDiff, Nat.reduceAdd, Nat.reduceSub, Nat.reduceMul, Nat.reduceLeDiff, Int.reduceEq, Int.reduceLT, Int.reduceLE, Int.reduceAdd, Int.reduceMul, Int.reduceSub, Int.reduceNeg, Int.reduceToNat, reduceIte, Nat.reduceLT, Wr.closed, Wr.take4, Wr.len4]
      refine callW_pure hmw ?_
      obtain ⟨v', H', hcs, new, ha, hb, hle⟩ := r1_put_ok w (.c .nilS) [] [] .nil (by simpa using hs)
      obtain ⟨s, hs2, _⟩ := ha.b2s hb
      simp only [go_sem, reduceCtorEq, Nat.reduceEqDiff, Nat.reduceAdd, Nat.reduceSub, Nat.reduceMul, Nat.reduceLeDiff, Int.reduceEq, Int.reduceLT, Int.reduceLE, Int.reduceAdd, Int.reduceMul, Int.reduceSub, Int.reduceNeg, Int.reduceToNat, reduceIte, Nat.reduceLT, Wr.take4, Wr.len4]
      refine callW_at hcs (fun h => by cases h) ?_
      simp only [go_sem, reduceCtorEq, Nat.reduceEqDiff, Nat.reduceAdd, Nat.reduceSub, Nat.reduceMul, Nat.reduceLeDiff, Int.reduceEq, Int.reduceLT, Int.reduceLE, Int.reduceAdd, Int.reduceMul, Int.reduceSub, Int.reduceNeg, Int.reduceToNat, reduceIte, Nat.reduceLT, hs2]
      exact ⟨sC s, rfl, s, rfl⟩
    obtain ⟨v, h1, s, rfl⟩ := key
    exact ⟨s, h1⟩

/-! ### A state's bytes -/
theorem Acc.beside {sz : Nat} {rows : List (List Cell)} {v v' : AVal} {w : AVal} {H H' : Heap} (h : Acc sz rows v H) (hd : ∀ b, ¬ NB v b → NB w b) (keep : ∀ b B, NB w b → H[b]? = some B → H'[b]? = some B ∧ NB v' b) : Acc sz rows v H' ∧ ∀ b, ¬ NB v b → NB v' b := by
  rcases h with ⟨h0, hv⟩ | ⟨b, ext, rfl, hb⟩
  · refine ⟨.inl ⟨h0, hv⟩, fun b hn => (hn fun n s q z e => ?_).elim⟩
    rcases hv with hv | hv <;> (rw [hv] at e; cases e)
  · have hnb : NB w b := hd b fun h => h _ _ _ _ rfl
    obtain ⟨h1, h2⟩ := keep b _ hnb hb
    refine ⟨.inr ⟨b, ext, rfl, h1⟩, fun b' hn => ?_⟩
    by_cases e : b' = b
    · subst e; exact h2
    · refine (hn fun n s q z e' => ?_).elim
      injection e' with e'; injection e' with e1
      exact e e1.symm

def runW (r : Rn) : Wr := listW ([r.dev, r.frm, r.to].map numW)
def factW (f : Fact) : Wr := listW [numW f.dev, numW f.n, textW f.key, numW f.kind, textW f.item, numW f.num]
theorem sizes_map {α : Type} {f : α → Wr} {c : Nat} : ∀ {l : List α}, (∀ x ∈ l, (f x).size ≤ c) → Wr.sizes (l.map f) ≤ l.length * c
  | [], _ => by simp [Wr.sizes]
  | x :: l, h => by
    have h1 := h x (by simp)
    have h2 := sizes_map (l := l) fun y hy => h y (by simp [hy])
    simp only [List.map_cons, Wr.sizes, List.length_cons, Nat.add_mul, Nat.one_mul]
    omega
theorem r1_List6 (a b c d e f : Wr) : Pr 63 [.c (.lst 4 [a.cells, b.cells, c.cells, d.cells, e.cells, f.cells])] (.agg (listW [a, b, c, d, e, f]).cells) := by
  have := r1_List_ok [a, b, c, d, e, f]
  simpa only [wiresC, Wr.rows] using this
theorem r1_List2 (a b : Wr) : Pr 63 [.c (.lst 4 [a.cells, b.cells])] (.agg (listW [a, b]).cells) := by
  have := r1_List_ok [a, b]
  simpa only [wiresC, Wr.rows] using this

set_option maxHeartbeats 1000000 in
theorem r7_PutState_ok (s : State) (h1 : s.seen.length ≤ 1000) (h2 : s.facts.length ≤ 1000) (h3 : mayState s = true) (h4 : ∀ f ∈ s.facts, f.key.size + f.item.size ≤ 1000) : ∃ v : ByteArray, Pr 40 [.agg s.cells] (sC v) := by
  have key : ∃ v, Pr 40 [.agg s.cells] v ∧ ∃ t : ByteArray, v = sC t := by
    refine pure_ex mixed is_r7_PutState (by simp [closedAs, closedA, State.closed]) fun T => ?_
    have cm := r7_May_ok s
    rw [h3] at cm
    have hl1 : s.seen.length ≤ maxLen := by unfold maxLen; omega
    have hl2 : s.facts.length ≤ maxLen := by unfold maxLen; omega
    have hsz : (listW [listW (s.seen.map runW), listW (s.facts.map factW)]).size ≤ 1000000000 := by
      have a1 : Wr.sizes (s.seen.map runW) ≤ s.seen.length * 100 := sizes_map fun r _ => by simp [runW, listW, numW, Wr.size, Wr.sizes, ByteArray.size]
      have a2 : Wr.sizes (s.facts.map factW) ≤ s.facts.length * 2000 := sizes_map fun f hf => by
        have := h4 f hf
        simp only [factW, listW, numW, textW, Wr.size, Wr.sizes]
        have e0 : emptyB.size = 0 := rfl
        omega
      simp only [listW, Wr.size, Wr.sizes]
      have e0 : emptyB.size = 0 := rfl
      omega
    obtain ⟨res, hres⟩ := r1_PutWire_ok _ hsz
    have fin : ∀ (e : Env) (H : Heap), Acc 4 (Wr.rows (s.seen.map runW)) (e 3) H → Acc 4 (Wr.rows (s.facts.map factW)) (e 4) H → (∀ b, ¬ NB (e 3) b → NB (e 4) b) →
        Run (progT Try.prog T) ⟨[.tmp 2], fun u E => ∃ v, viewA E u = some v ∧ ∃ t : ByteArray, v = sC t⟩ [.code r7_PutState_K2] e H := by
      intro e H ha3 ha4 hd
      unfold r7_PutState_K2
      refine ha3.fz_gen fun e1 H1 k3 kc ka => ?_
      have ha4' := ka 4 4 _ (by omega) ha4 hd
      refine ha4'.fz fun e2 H2 k4 kc2 => ?_
      have k3' := kc2 3 _ k3 (by simp [closedA, closedC, Wr.closedR]) (by omega)
      simp only [go_sem, reduceCtorEq, Nat.reduceEqDiff, Nat.reduceAdd, Nat.reduceSub, Nat.reduceMul, Nat.reduceLeDiff, Int.reduceEq, Int.reduceLT, Int.reduceLE, Int.reduceAdd, Int.reduceMul, Int.reduceSub, Int.reduceNeg, Int.reduceToNat, reduceIte, Nat.reduceLT, k3', k4]
      refine callW_pure (r1_List_ok (s.seen.map runW)) ?_
      simp only [go_sem, reduceCtorEq, Nat.reduceEqDiff, Nat.reduceAdd, Nat.reduceSub, Nat.reduceMul, Nat.reduceLeDiff, Int.reduceEq, Int.reduceLT, Int.reduceLE, Int.reduceAdd, Int.reduceMul, Int.reduceSub, Int.reduceNeg, Int.reduceToNat, reduceIte, Nat.reduceLT, k3', k4]
      refine callW_pure (r1_List_ok (s.facts.map factW)) ?_
      simp only [go_sem, reduceCtorEq, Nat.reduceEqDiff, Nat.reduceAdd, Nat.reduceSub, Nat.reduceMul, Nat.reduceLeDiff, Int.reduceEq, Int.reduceLT, Int.reduceLE, Int.reduceAdd, Int.reduceMul, Int.reduceSub, Int.reduceNeg, Int.reduceToNat, reduceIte, Nat.reduceLT, Wr.len4, Wr.closed]
      refine callW_pure (r1_List2 _ _) ?_
      simp only [go_sem, reduceCtorEq, Nat.reduceEqDiff, Nat.reduceAdd, Nat.reduceSub, Nat.reduceMul, Nat.reduceLeDiff, Int.reduceEq, Int.reduceLT, Int.reduceLE, Int.reduceAdd, Int.reduceMul, Int.reduceSub, Int.reduceNeg, Int.reduceToNat, reduceIte, Nat.reduceLT, Wr.len4, Wr.closed]
      refine callW_pure hres ?_
      simp only [go_sem, reduceCtorEq, Nat.reduceEqDiff, Nat.reduceAdd, Nat.reduceSub, Nat.reduceMul, Nat.reduceLeDiff, Int.reduceEq, Int.reduceLT, Int.reduceLE, Int.reduceAdd, Int.reduceMul, Int.reduceSub, Int.reduceNeg, Int.reduceToNat, reduceIte, Nat.reduceLT]
      exact ⟨sC res, rfl, res, rfl⟩
    have loop2 : ∀ (rest pre : List Fact) (e : Env) (H : Heap), s.facts = pre ++ rest → e 1 = .c (.fp [runsC s.seen, factsC s.facts] 0) → e 6 = iC pre.length → Acc 4 (Wr.rows (s.seen.map runW)) (e 3) H → Acc 4 (Wr.rows (pre.map factW)) (e 4) H → (∀ b, ¬ NB (e 3) b → NB (e 4) b) →
        Run (progT Try.prog T) ⟨[.tmp 2], fun u E => ∃ v, viewA E u = some v ∧ ∃ t : ByteArray, v = sC t⟩ [.loop r7_PutState_L1, .blk 2, .code r7_PutState_K2] e H := by
      intro rest
      induction rest with
      | nil =>
        intro pre e H hp h1' h6 ha3 ha4 hd
        have hc := not_lt_at (f := Fact.cells) hp
        rw [List.append_nil] at hp
        refine run_again ?_
        conv => enter [3, 1]; unfold r7_PutState_L1
        simp only [go_sem, reduceCtorEq, Nat.reduceEqDiff, Nat.reduceAdd, Nat.reduceSub, Nat.reduceMul, Nat.reduceLeDiff, Int.reduceEq, Int.reduceLT, Int.reduceLE, Int.reduceAdd, Int.reduceMul, Int.reduceSub, Int.reduceNeg, Int.reduceToNat, reduceIte, Nat.reduceLT, h1', h6, hc]
        refine fin _ H ?_ ?_ ?_
        · simp only [go_sem, reduceCtorEq, Nat.reduceEqDiff, Nat.reduceAdd, Nat.reduceSub, Nat.reduceMul, Nat.reduceLeDiff, Int.reduceEq, Int.reduceLT, Int.reduceLE, Int.reduceAdd, Int.reduceMul, Int.reduceSub, Int.reduceNeg, Int.reduceToNat, reduceIte, Nat.reduceLT]; exact ha3
        · simp only [go_sem, reduceCtorEq, Nat.reduceEqDiff, Nat.reduceAdd, Nat.reduceSub, Nat.reduceMul, Nat.reduceLeDiff, Int.reduceEq, Int.reduceLT, Int.reduceLE, Int.reduceAdd, Int.reduceMul, Int.reduceSub, Int.reduceNeg, Int.reduceToNat, reduceIte, Nat.reduceLT]; rw [hp]; exact ha4
        · simp only [go_sem, reduceCtorEq, Nat.reduceEqDiff, Nat.reduceAdd, Nat.reduceSub, Nat.reduceMul, Nat.reduceLeDiff, Int.reduceEq, Int.reduceLT, Int.reduceLE, Int.reduceAdd, Int.reduceMul, Int.reduceSub, Int.reduceNeg, Int.reduceToNat, reduceIte, Nat.reduceLT]; exact hd
      | cons f rest ih =>
        intro pre e H hp h1' h6 ha3 ha4 hd
        have hc := lt_at (f := Fact.cells) hp
        have hr := map_at' (f := Fact.cells) hp
        have hn := next_at hp hl2
        have hpl : pre.length < s.facts.length := by rw [hp]; simp
        have hcl : ∀ a b c d e f : Wr, closedR [a.cells, b.cells, c.cells, d.cells, e.cells, f.cells] = true := fun a b c d e f => by simp [Eng.closedR, Wr.closed]
        refine run_again ?_
        conv => enter [3, 1]; unfold r7_PutState_L1
        simp only [go_sem, reduceCtorEq, Nat.reduceEqDiff, Nat.reduceAdd, Nat.reduceSub, Nat.reduceMul, Nat.reduceLeDiff, Int.reduceEq, Int.reduceLT, Int.reduceLE, Int.reduceAdd, Int.reduceMul, Int.reduceSub, Int.reduceNeg, Int.reduceToNat, reduceIte, Nat.reduceLT, h1', h6, hc, hr]
        refine callW_pure (r1_Num_ok f.dev) ?_
        simp only [go_sem, reduceCtorEq, Nat.reduceEqDiff, Nat.reduceAdd, Nat.reduceSub, Nat.reduceMul, Nat.reduceLeDiff, Int.reduceEq, Int.reduceLT, Int.reduceLE, Int.reduceAdd, Int.reduceMul, Int.reduceSub, Int.reduceNeg, Int.reduceToNat, reduceIte, Nat.reduceLT]
        refine callW_pure (r1_Num_ok f.n) ?_
        simp only [go_sem, reduceCtorEq, Nat.reduceEqDiff, Nat.reduceAdd, Nat.reduceSub, Nat.reduceMul, Nat.reduceLeDiff, Int.reduceEq, Int.reduceLT, Int.reduceLE, Int.reduceAdd, Int.reduceMul, Int.reduceSub, Int.reduceNeg, Int.reduceToNat, reduceIte, Nat.reduceLT]
        refine callW_pure (r1_Text_ok f.key) ?_
        simp only [go_sem, reduceCtorEq, Nat.reduceEqDiff, Nat.reduceAdd, Nat.reduceSub, Nat.reduceMul, Nat.reduceLeDiff, Int.reduceEq, Int.reduceLT, Int.reduceLE, Int.reduceAdd, Int.reduceMul, Int.reduceSub, Int.reduceNeg, Int.reduceToNat, reduceIte, Nat.reduceLT]
        refine callW_pure (r1_Num_ok f.kind) ?_
        simp only [go_sem, reduceCtorEq, Nat.reduceEqDiff, Nat.reduceAdd, Nat.reduceSub, Nat.reduceMul, Nat.reduceLeDiff, Int.reduceEq, Int.reduceLT, Int.reduceLE, Int.reduceAdd, Int.reduceMul, Int.reduceSub, Int.reduceNeg, Int.reduceToNat, reduceIte, Nat.reduceLT]
        refine callW_pure (r1_Text_ok f.item) ?_
        simp only [go_sem, reduceCtorEq, Nat.reduceEqDiff, Nat.reduceAdd, Nat.reduceSub, Nat.reduceMul, Nat.reduceLeDiff, Int.reduceEq, Int.reduceLT, Int.reduceLE, Int.reduceAdd, Int.reduceMul, Int.reduceSub, Int.reduceNeg, Int.reduceToNat, reduceIte, Nat.reduceLT]
        refine callW_pure (r1_Num_ok f.num) ?_
        simp only [go_sem, reduceCtorEq, Nat.reduceEqDiff, Nat.reduceAdd, Nat.reduceSub, Nat.reduceMul, Nat.reduceLeDiff, Int.reduceEq, Int.reduceLT, Int.reduceLE, Int.reduceAdd, Int.reduceMul, Int.reduceSub, Int.reduceNeg, Int.reduceToNat, reduceIte, Nat.reduceLT, Wr.len4, Wr.closed]
        rw [mkF_lit (n := 6) rfl (hcl _ _ _ _ _ _) (by omega)]
        simp only [go_sem, reduceCtorEq, Nat.reduceEqDiff, Nat.reduceAdd, Nat.reduceSub, Nat.reduceMul, Nat.reduceLeDiff, Int.reduceEq, Int.reduceLT, Int.reduceLE, Int.reduceAdd, Int.reduceMul, Int.reduceSub, Int.reduceNeg, Int.reduceToNat, reduceIte, Nat.reduceLT]
        refine callW_pure (r1_List6 _ _ _ _ _ _) ?_
        simp only [go_sem, reduceCtorEq, Nat.reduceEqDiff, Nat.reduceAdd, Nat.reduceSub, Nat.reduceMul, Nat.reduceLeDiff, Int.reduceEq, Int.reduceLT, Int.reduceLE, Int.reduceAdd, Int.reduceMul, Int.reduceSub, Int.reduceNeg, Int.reduceToNat, reduceIte, Nat.reduceLT, Wr.len4, Wr.closed]
        refine Acc.app_keep ha4.snoc (by rw [Wr.rows_len]; simp; omega) fun v' H' ha' keep => ?_
        obtain ⟨hb3, hd'⟩ := ha3.snoc.beside hd keep
        simp only [go_sem, reduceCtorEq, Nat.reduceEqDiff, Nat.reduceAdd, Nat.reduceSub, Nat.reduceMul, Nat.reduceLeDiff, Int.reduceEq, Int.reduceLT, Int.reduceLE, Int.reduceAdd, Int.reduceMul, Int.reduceSub, Int.reduceNeg, Int.reduceToNat, reduceIte, Nat.reduceLT, h6, hn]
        refine ih (pre ++ [f]) _ _ (by rw [hp]; simp) ?_ ?_ ?_ ?_ ?_
        · simp only [go_sem, reduceCtorEq, Nat.reduceEqDiff, Nat.reduceAdd, Nat.reduceSub, Nat.reduceMul, Nat.reduceLeDiff, Int.reduceEq, Int.reduceLT, Int.reduceLE, Int.reduceAdd, Int.reduceMul, Int.reduceSub, Int.reduceNeg, Int.reduceToNat, reduceIte, Nat.reduceLT, h1']
        · simp only [go_sem, reduceCtorEq, Nat.reduceEqDiff, Nat.reduceAdd, Nat.reduceSub, Nat.reduceMul, Nat.reduceLeDiff, Int.reduceEq, Int.reduceLT, Int.reduceLE, Int.reduceAdd, Int.reduceMul, Int.reduceSub, Int.reduceNeg, Int.reduceToNat, reduceIte, Nat.reduceLT, hn]
        · simp only [go_sem, reduceCtorEq, Nat.reduceEqDiff, Nat.reduceAdd, Nat.reduceSub, Nat.reduceMul, Nat.reduceLeDiff, Int.reduceEq, Int.reduceLT, Int.reduceLE, Int.reduceAdd, Int.reduceMul, Int.reduceSub, Int.reduceNeg, Int.reduceToNat, reduceIte, Nat.reduceLT]; exact hb3
        · simp only [go_sem, reduceCtorEq, Nat.reduceEqDiff, Nat.reduceAdd, Nat.reduceSub, Nat.reduceMul, Nat.reduceLeDiff, Int.reduceEq, Int.reduceLT, Int.reduceLE, Int.reduceAdd, Int.reduceMul, Int.reduceSub, Int.reduceNeg, Int.reduceToNat, reduceIte, Nat.reduceLT]; rw [Wr.rows_map] at ha' ⊢; simpa [factW] using ha'
        · simp only [go_sem, reduceCtorEq, Nat.reduceEqDiff, Nat.reduceAdd, Nat.reduceSub, Nat.reduceMul, Nat.reduceLeDiff, Int.reduceEq, Int.reduceLT, Int.reduceLE, Int.reduceAdd, Int.reduceMul, Int.reduceSub, Int.reduceNeg, Int.reduceToNat, reduceIte, Nat.reduceLT]; exact hd'
    have loop1 : ∀ (rest pre : List Rn) (e : Env) (H : Heap), s.seen = pre ++ rest → e 1 = .c (.fp [runsC s.seen, factsC s.facts] 0) → e 4 = .c .nilS → e 5 = iC pre.length → Acc 4 (Wr.rows (pre.map runW)) (e 3) H →
        Run (progT Try.prog T) ⟨[.tmp 2], fun u E => ∃ v, viewA E u = some v ∧ ∃ t : ByteArray, v = sC t⟩ [.loop r7_PutState_L0, .blk 0, .code r7_PutState_K3] e H := by
      intro rest
      induction rest with
      | nil =>
        intro pre e H hp h1' h4' h5 ha3
        have hc := not_lt_at (f := Rn.cells) hp
        rw [List.append_nil] at hp
        refine run_again ?_
        conv => enter [3, 1]; unfold r7_PutState_L0
        simp only [go_sem, reduceCtorEq, Nat.reduceEqDiff, Nat.reduceAdd, Nat.reduceSub, Nat.reduceMul, Nat.reduceLeDiff, Int.reduceEq, Int.reduceLT, Int.reduceLE, Int.reduceAdd, Int.reduceMul, Int.reduceSub, Int.reduceNeg, Int.reduceToNat, reduceIte, Nat.reduceLT, h1', h5, hc]
        unfold r7_PutState_K3
        simp only [go_sem, reduceCtorEq, Nat.reduceEqDiff, Nat.reduceAdd, Nat.reduceSub, Nat.reduceMul, Nat.reduceLeDiff, Int.reduceEq, Int.reduceLT, Int.reduceLE, Int.reduceAdd, Int.reduceMul, Int.reduceSub, Int.reduceNeg, Int.reduceToNat, reduceIte, Nat.reduceLT]
        refine loop2 s.facts [] _ H rfl ?_ ?_ ?_ ?_ ?_
        · simp only [go_sem, reduceCtorEq, Nat.reduceEqDiff, Nat.reduceAdd, Nat.reduceSub, Nat.reduceMul, Nat.reduceLeDiff, Int.reduceEq, Int.reduceLT, Int.reduceLE, Int.reduceAdd, Int.reduceMul, Int.reduceSub, Int.reduceNeg, Int.reduceToNat, reduceIte, Nat.reduceLT, h1']
        · simp only [go_sem, reduceCtorEq, Nat.reduceEqDiff, Nat.reduceAdd, Nat.reduceSub, Nat.reduceMul, Nat.reduceLeDiff, Int.reduceEq, Int.reduceLT, Int.reduceLE, Int.reduceAdd, Int.reduceMul, Int.reduceSub, Int.reduceNeg, Int.reduceToNat, reduceIte, Nat.reduceLT, List.length_nil, Int.natCast_zero]
        · simp only [go_sem, reduceCtorEq, Nat.reduceEqDiff, Nat.reduceAdd, Nat.reduceSub, Nat.reduceMul, Nat.reduceLeDiff, Int.reduceEq, Int.reduceLT, Int.reduceLE, Int.reduceAdd, Int.reduceMul, Int.reduceSub, Int.reduceNeg, Int.reduceToNat, reduceIte, Nat.reduceLT]; rw [hp]; exact ha3
        · simp only [go_sem, reduceCtorEq, Nat.reduceEqDiff, Nat.reduceAdd, Nat.reduceSub, Nat.reduceMul, Nat.reduceLeDiff, Int.reduceEq, Int.reduceLT, Int.reduceLE, Int.reduceAdd, Int.reduceMul, Int.reduceSub, Int.reduceNeg, Int.reduceToNat, reduceIte, Nat.reduceLT, h4']; exact .nil
        · simp only [go_sem, reduceCtorEq, Nat.reduceEqDiff, Nat.reduceAdd, Nat.reduceSub, Nat.reduceMul, Nat.reduceLeDiff, Int.reduceEq, Int.reduceLT, Int.reduceLE, Int.reduceAdd, Int.reduceMul, Int.reduceSub, Int.reduceNeg, Int.reduceToNat, reduceIte, Nat.reduceLT, h4']; intro b _ n s q z e'; cases e'
      | cons r rest ih =>
        intro pre e H hp h1' h4' h5 ha3
        have hc := lt_at (f := Rn.cells) hp
        have hr := map_at' (f := Rn.cells) hp
        have hn := next_at hp hl1
        have hpl : pre.length < s.seen.length := by rw [hp]; simp
        refine run_again ?_
        conv => enter [3, 1]; unfold r7_PutState_L0
        simp only [go_sem, reduceCtorEq, Nat.reduceEqDiff, Nat.reduceAdd, Nat.reduceSub, Nat.reduceMul, Nat.reduceLeDiff, Int.reduceEq, Int.reduceLT, Int.reduceLE, Int.reduceAdd, Int.reduceMul, Int.reduceSub, Int.reduceNeg, Int.reduceToNat, reduceIte, Nat.reduceLT, h1', h5, hc, hr]
        refine callW_pure (r1_Nums_ok [r.dev, r.frm, r.to] (by simp)) ?_
        simp only [go_sem, reduceCtorEq, Nat.reduceEqDiff, Nat.reduceAdd, Nat.reduceSub, Nat.reduceMul, Nat.reduceLeDiff, Int.reduceEq, Int.reduceLT, Int.reduceLE, Int.reduceAdd, Int.reduceMul, Int.reduceSub, Int.reduceNeg, Int.reduceToNat, reduceIte, Nat.reduceLT, Wr.len4, Wr.closed]
        refine ha3.app_step (by rw [Wr.rows_len]; simp; omega) fun v' H' ha' => ?_
        simp only [go_sem, reduceCtorEq, Nat.reduceEqDiff, Nat.reduceAdd, Nat.reduceSub, Nat.reduceMul, Nat.reduceLeDiff, Int.reduceEq, Int.reduceLT, Int.reduceLE, Int.reduceAdd, Int.reduceMul, Int.reduceSub, Int.reduceNeg, Int.reduceToNat, reduceIte, Nat.reduceLT, h5, hn]
        refine ih (pre ++ [r]) _ _ (by rw [hp]; simp) ?_ ?_ ?_ ?_
        · simp only [go_sem, reduceCtorEq, Nat.reduceEqDiff, Nat.reduceAdd, Nat.reduceSub, Nat.reduceMul, Nat.reduceLeDiff, Int.reduceEq, Int.reduceLT, Int.reduceLE, Int.reduceAdd, Int.reduceMul, Int.reduceSub, Int.reduceNeg, Int.reduceToNat, reduceIte, Nat.reduceLT, h1']
        · simp only [go_sem, reduceCtorEq, Nat.reduceEqDiff, Nat.reduceAdd, Nat.reduceSub, Nat.reduceMul, Nat.reduceLeDiff, Int.reduceEq, Int.reduceLT, Int.reduceLE, Int.reduceAdd, Int.reduceMul, Int.reduceSub, Int.reduceNeg, Int.reduceToNat, reduceIte, Nat.reduceLT, h4']
        · simp only [go_sem, reduceCtorEq, Nat.reduceEqDiff, Nat.reduceAdd, Nat.reduceSub, Nat.reduceMul, Nat.reduceLeDiff, Int.reduceEq, Int.reduceLT, Int.reduceLE, Int.reduceAdd, Int.reduceMul, Int.reduceSub, Int.reduceNeg, Int.reduceToNat, reduceIte, Nat.reduceLT, hn]
        · simp only [go_sem, reduceCtorEq, Nat.reduceEqDiff, Nat.reduceAdd, Nat.reduceSub, Nat.reduceMul, Nat.reduceLeDiff, Int.reduceEq, Int.reduceLT, Int.reduceLE, Int.reduceAdd, Int.reduceMul, Int.reduceSub, Int.reduceNeg, Int.reduceToNat, reduceIte, Nat.reduceLT]; rw [Wr.rows_map] at ha' ⊢; simpa [runW] using ha'
    unfold c_r7_PutState
    simp only [go_sem, reduceCtorEq, Nat.reduceEqDiff, Nat.reduceAdd, Nat.reduceSub, Nat.reduceMul, Nat.reduceLeDiff, Int.reduceEq, Int.reduceLT, Int.reduceLE, Int.reduceAdd, Int.reduceMul, Int.reduceSub, Int.reduceNeg, Int.reduceToNat, reduceIte, Nat.reduceLT]
    refine callW_pure cm ?_
    simp only [go_sem, reduceCtorEq, Nat.reduceEqDiff, Nat.reduceAdd, Nat.reduceSub, Nat.reduceMul, Nat.reduceLeDiff, Int.reduceEq, Int.reduceLT, Int.reduceLE, Int.reduceAdd, Int.reduceMul, Int.reduceSub, Int.reduceNeg, Int.reduceToNat, reduceIte, Nat.reduceLT]
    refine loop1 s.seen [] _ _ rfl ?_ ?_ ?_ ?_
    · simp only [go_sem, reduceCtorEq, Nat.reduceEqDiff, Nat.reduceAdd, Nat.reduceSub, Nat.reduceMul, Nat.reduceLeDiff, Int.reduceEq, Int.reduceLT, Int.reduceLE, Int.reduceAdd, Int.reduceMul, Int.reduceSub, Int.reduceNeg, Int.reduceToNat, reduceIte, Nat.reduceLT]
    · simp only [go_sem, reduceCtorEq, Nat.reduceEqDiff, Nat.reduceAdd, Nat.reduceSub, Nat.reduceMul, Nat.reduceLeDiff, Int.reduceEq, Int.reduceLT, Int.reduceLE, Int.reduceAdd, Int.reduceMul, Int.reduceSub, Int.reduceNeg, Int.reduceToNat, reduceIte, Nat.reduceLT]
    · simp only [go_sem, reduceCtorEq, Nat.reduceEqDiff, Nat.reduceAdd, Nat.reduceSub, Nat.reduceMul, Nat.reduceLeDiff, Int.reduceEq, Int.reduceLT, Int.reduceLE, Int.reduceAdd, Int.reduceMul, Int.reduceSub, Int.reduceNeg, Int.reduceToNat, reduceIte, Nat.reduceLT, List.length_nil, Int.natCast_zero]
    · simp only [go_sem, reduceCtorEq, Nat.reduceEqDiff, Nat.reduceAdd, Nat.reduceSub, Nat.reduceMul, Nat.reduceLeDiff, Int.reduceEq, Int.reduceLT, Int.reduceLE, Int.reduceAdd, Int.reduceMul, Int.reduceSub, Int.reduceNeg, Int.reduceToNat, reduceIte, Nat.reduceLT]; exact .nil
  obtain ⟨v, h, t, rfl⟩ := key
  exact ⟨t, h⟩

end Go.Proofs.Ytfbkolkkpkonfaa.Eng
