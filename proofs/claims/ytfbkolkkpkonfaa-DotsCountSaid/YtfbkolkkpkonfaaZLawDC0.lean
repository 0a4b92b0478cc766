/- The law DotsCount: its call comes to true. -/
import Derived.Test.YtfbkolkkpkonfaaZLists
import Derived.Test.YtfbkolkkpkonfaaZCountT
import Derived.Test.YtfbkolkkpkonfaaZLitM
namespace Go.Proofs.Ytfbkolkkpkonfaa.Eng
open Go
set_option linter.unusedVariables false
set_option linter.unusedSimpArgs false

/-- The place of a number's dot in the table. -/
def idxN (n : Nat) : Nat := n % 4 * 22 + 1 + n / 4 % 20
/-- What the rows of the table hold. -/
def Tb (rows : List (List Cell)) (tb : Nat → Bool) : Prop := rows.length = 88 ∧ ∀ q, q < 88 → rows[q]? = some [.bool (tb q)]
theorem Tb.set {rows : List (List Cell)} {tb : Nat → Bool} (h : Tb rows tb) (i : Nat) : Tb (rows.set i [.bool true]) (fun q => tb q || decide (q = i)) := by
  refine ⟨by rw [List.length_set]; exact h.1, fun q hq => ?_⟩
  by_cases e : i = q
  · subst e
    simp [h.1, hq]
  · rw [List.getElem?_set_ne e, h.2 q hq]
    have : ¬ q = i := fun e' => e e'.symm
    simp [this]
theorem row_d0 {H : Heap} {sz q : Nat} {rows : List (List Cell)} {o : Bool} : Heap.row ({ sz := sz, rows := rows, own := o, live := true } :: H) 0 q = rows[q]? := rfl
theorem mine_d0 {H : Heap} {sz : Nat} {rows : List (List Cell)} : Heap.mine ({ sz := sz, rows := rows, own := true, live := true } :: H) 0 = true := rfl
theorem put_d0 {H : Heap} {sz q : Nat} {rows : List (List Cell)} {o l : Bool} {r : List Cell} : Heap.put ({ sz := sz, rows := rows, own := o, live := l } :: H) 0 q r = { sz := sz, rows := rows.set q r, own := o, live := l } :: H := rfl

set_option maxHeartbeats 4000000 in
theorem l7_DotsCount_ok (ns : List Nat) (hb : ∀ n ∈ ns, n < 256) : Pr 3 [.c (bytesC ns)] (bC true) := by
  refine pure_of mixed is_l7_DotsCount (by simp [closedAs, closedA, closedC, bytesC, closed_bytes]) fun hl T => ?_
  unfold c_l7_DotsCount
  simp only [go_sem, reduceCtorEq, Nat.reduceEqDiff, Nat.reduceAdd, Nat.reduceSub, Nat.reduceMul, Nat.reduceLeDiff, Int.reduceEq, Int.reduceLT, Int.reduceLE, Int.reduceAdd, Int.reduceMul, Int.reduceSub, Int.reduceNeg, Int.reduceToNat, reduceIte, Nat.reduceLT]
  by_cases h100 : (100 : Int) < ((ns.map byteC).length : Int)
  · simp only [go_sem, reduceCtorEq, Nat.reduceEqDiff, Nat.reduceAdd, Nat.reduceSub, Nat.reduceMul, Nat.reduceLeDiff, Int.reduceEq, Int.reduceLT, Int.reduceLE, Int.reduceAdd, Int.reduceMul, Int.reduceSub, Int.reduceNeg, Int.reduceToNat, reduceIte, Nat.reduceLT, h100]
    refine callW_pure l7_awake_ok ?_
    simp only [go_sem, reduceCtorEq, Nat.reduceEqDiff, Nat.reduceAdd, Nat.reduceSub, Nat.reduceMul, Nat.reduceLeDiff, Int.reduceEq, Int.reduceLT, Int.reduceLE, Int.reduceAdd, Int.reduceMul, Int.reduceSub, Int.reduceNeg, Int.reduceToNat, reduceIte, Nat.reduceLT]
    rfl
  have hln : ns.length ≤ 100 := by simp at h100; omega
  have hlen : ns.length ≤ maxLen := by unfold maxLen; omega
  have clist := l7_List_ok ns (by unfold Sm; omega) hb
  have cof := dots_Of_is (listD ns) (by unfold Sm; simp [listD]; omega)
  obtain ⟨hn, hnl, hnd⟩ := makeL_ok ns
  have hmk : dotsL (listD ns) = makeL ns := rfl
  rw [hmk] at cof
  have hgrid : ∀ d k : Nat, d < 4 → k ≤ 21 → hasN (makeL ns) d k = decide (∃ n ∈ ns, idxN n = d * 22 + k) := fun d k hd hk => by
    unfold hasN
    rw [hnd, decide_eq_decide]
    unfold listD
    rw [List.mem_map]
    constructor
    · rintro ⟨n, h1, h2⟩
      refine ⟨n, h1, ?_⟩
      simp only [bDot, Dot.mk.injEq] at h2
      unfold idxN; omega
    · rintro ⟨n, h1, h2⟩
      refine ⟨n, h1, ?_⟩
      unfold idxN at h2
      have := Nat.mod_lt n (show 0 < 4 by omega)
      have := Nat.mod_lt (n / 4) (show 0 < 20 by omega)
      simp only [bDot, Dot.mk.injEq]
      omega
  have hbound : ∀ r ∈ makeL ns, r.dev < 4 ∧ r.to ≤ 20 := fun r hr => by
    have hR := hn.right r hr
    have h1 : hasDot (makeL ns) ⟨r.dev, r.to⟩ = true := hasDot_iff.2 ⟨r, hr, rfl, hR.ft, Int.le_refl _⟩
    rw [hnd, decide_eq_true_eq] at h1
    obtain ⟨n, _, h2⟩ := List.mem_map.1 h1
    simp only [bDot, Dot.mk.injEq] at h2
    omega
  obtain ⟨hcn, hce⟩ := count_runs hn hbound
  have cmay := r7_MayRuns_ok (makeL ns)
  rw [mayRuns_iff.2 hn] at cmay
  have chas := fun d : Dot => dots_Has_ok (makeL ns) d
  have hll : (makeL ns).length ≤ 100 := by omega
  have hlm : (makeL ns).length ≤ maxLen := by unfold maxLen; omega
  generalize makeL ns = l at *
  clear hmk hnd
  -- the last sum
  have sums : ∀ (rest pre : List Rn) (e : Env) (H : Heap), l = pre ++ rest → e 3 = .c (runsC l) → e 6 = iC (sumR rest) → e 7 = iC (l.length : Int) → e 10 = iC pre.length → 0 ≤ sumR rest → sumR rest ≤ 1000 →
      Run (progT Try.prog T) ⟨[.tmp 2], fun u E => viewA E u = some (bC true)⟩ [.loop l7_DotsCount_L4, .blk 6, .code l7_DotsCount_K5] e H := by
    intro rest
    induction rest with
    | nil =>
      intro pre e H hp h3 h6 h7 h10 _ _
      have hc := not_lt_at (f := Rn.cells) hp
      have h6' : e 6 = iC 0 := h6
      have e1 : ((l.map Rn.cells).length : Int) = (l.length : Int) := by simp
      refine run_again ?_
      conv => enter [3, 1]; unfold l7_DotsCount_L4
      simp only [go_sem, reduceCtorEq, Nat.reduceEqDiff, Nat.reduceAdd, Nat.reduceSub, Nat.reduceMul, Nat.reduceLeDiff, Int.reduceEq, Int.reduceLT, Int.reduceLE, Int.reduceAdd, Int.reduceMul, Int.reduceSub, Int.reduceNeg, Int.reduceToNat, reduceIte, Nat.reduceLT, h3, h10, hc]
      unfold l7_DotsCount_K5
      simp only [go_sem, reduceCtorEq, Nat.reduceEqDiff, Nat.reduceAdd, Nat.reduceSub, Nat.reduceMul, Nat.reduceLeDiff, Int.reduceEq, Int.reduceLT, Int.reduceLE, Int.reduceAdd, Int.reduceMul, Int.reduceSub, Int.reduceNeg, Int.reduceToNat, reduceIte, Nat.reduceLT, h3, h6', h7, e1]
      refine callW_pure cmay ?_
      simp only [go_sem, reduceCtorEq, Nat.reduceEqDiff, Nat.reduceAdd, Nat.reduceSub, Nat.reduceMul, Nat.reduceLeDiff, Int.reduceEq, Int.reduceLT, Int.reduceLE, Int.reduceAdd, Int.reduceMul, Int.reduceSub, Int.reduceNeg, Int.reduceToNat, reduceIte, Nat.reduceLT]
      refine callW_pure l7_awake_ok ?_
      simp only [go_sem, reduceCtorEq, Nat.reduceEqDiff, Nat.reduceAdd, Nat.reduceSub, Nat.reduceMul, Nat.reduceLeDiff, Int.reduceEq, Int.reduceLT, Int.reduceLE, Int.reduceAdd, Int.reduceMul, Int.reduceSub, Int.reduceNeg, Int.reduceToNat, reduceIte, Nat.reduceLT]
      rfl
    | cons r rest ih =>
      intro pre e H hp h3 h6 h7 h10 h0 h9
      have hc := lt_at (f := Rn.cells) hp
      have hr := map_at' (f := Rn.cells) hp
      have hnx := next_at hp hlm
      have hR := hn.right r (by rw [hp]; simp)
      have hB := hbound r (by rw [hp]; simp)
      have hs : sumR (r :: rest) = (r.to - r.frm + 1) + sumR rest := rfl
      have q1 := hR.f1
      have q2 := hR.ft
      have hrest : 0 ≤ sumR rest := by
        have : ∀ m : List Rn, (∀ x ∈ m, x.Right) → 0 ≤ sumR m := fun m => by
          induction m with
          | nil => intro _; exact Int.le_refl _
          | cons y m ihm =>
            intro hm
            have h1 := ihm fun x hx => hm x (by simp [hx])
            have h2 := (hm y (by simp)).ft
            have h3 : sumR (y :: m) = (y.to - y.frm + 1) + sumR m := rfl
            omega
        exact this rest fun x hx => hn.right x (by rw [hp]; simp [hx])
      have w1 : IntKind.wrap .i64 (r.to - r.frm) = r.to - r.frm := wrap64 (by omega)
      have w2 : IntKind.wrap .i64 (r.to - r.frm + 1) = r.to - r.frm + 1 := wrap64 (by omega)
      have w3 : IntKind.wrap .i64 (sumR (r :: rest) - (r.to - r.frm + 1)) = sumR rest := by rw [hs, wrap64 (by omega)]; omega
      refine run_again ?_
      conv => enter [3, 1]; unfold l7_DotsCount_L4
      simp only [go_sem, reduceCtorEq, Nat.reduceEqDiff, Nat.reduceAdd, Nat.reduceSub, Nat.reduceMul, Nat.reduceLeDiff, Int.reduceEq, Int.reduceLT, Int.reduceLE, Int.reduceAdd, Int.reduceMul, Int.reduceSub, Int.reduceNeg, Int.reduceToNat, reduceIte, Nat.reduceLT, h3, h6, h10, hc, hr, w1, w2, w3, hnx]
      refine ih (pre ++ [r]) _ H (by rw [hp]; simp) ?_ ?_ ?_ ?_ hrest (by omega)
      · simp only [go_sem, reduceCtorEq, Nat.reduceEqDiff, Nat.reduceAdd, Nat.reduceSub, Nat.reduceMul, Nat.reduceLeDiff, Int.reduceEq, Int.reduceLT, Int.reduceLE, Int.reduceAdd, Int.reduceMul, Int.reduceSub, Int.reduceNeg, Int.reduceToNat, reduceIte, Nat.reduceLT, h3]
      · simp only [go_sem, reduceCtorEq, Nat.reduceEqDiff, Nat.reduceAdd, Nat.reduceSub, Nat.reduceMul, Nat.reduceLeDiff, Int.reduceEq, Int.reduceLT, Int.reduceLE, Int.reduceAdd, Int.reduceMul, Int.reduceSub, Int.reduceNeg, Int.reduceToNat, reduceIte, Nat.reduceLT]
      · simp only [go_sem, reduceCtorEq, Nat.reduceEqDiff, Nat.reduceAdd, Nat.reduceSub, Nat.reduceMul, Nat.reduceLeDiff, Int.reduceEq, Int.reduceLT, Int.reduceLE, Int.reduceAdd, Int.reduceMul, Int.reduceSub, Int.reduceNeg, Int.reduceToNat, reduceIte, Nat.reduceLT, h7]
      · simp only [go_sem, reduceCtorEq, Nat.reduceEqDiff, Nat.reduceAdd, Nat.reduceSub, Nat.reduceMul, Nat.reduceLeDiff, Int.reduceEq, Int.reduceLT, Int.reduceLE, Int.reduceAdd, Int.reduceMul, Int.reduceSub, Int.reduceNeg, Int.reduceToNat, reduceIte, Nat.reduceLT, hnx]
  -- the grid
  have grid : ∀ (rows : List (List Cell)) (tb : Nat → Bool) (e : Env), Tb rows tb → (∀ d k : Nat, d < 4 → k ≤ 21 → tb (d * 22 + k) = hasN l d k) → e 3 = .c (runsC l) → e 4 = .c (.slc 0 0 88 1 false) →
      Run (progT Try.prog T) ⟨[.tmp 2], fun u E => viewA E u = some (bC true)⟩ [.code l7_DotsCount_K7] e [{ sz := 1, rows := rows }] := by
    intro rows tb e htb hgt h3 h4
    have ix : ∀ (q : Nat) (H : Heap), q < 88 → vIx 1 (.c (.slc 0 0 88 1 false)) (iC (q : Int)) H = some (.c (.ptr 0 q 0), H) := fun q H hq => vIx_slc hq
    have outer : ∀ (m d : Nat) (e : Env), d + m = 4 → e 3 = .c (runsC l) → e 4 = .c (.slc 0 0 88 1 false) → e 6 = iC (totN (hasN l) d : Nat) → e 7 = iC (totN (startN l) d : Nat) → e 8 = iC d →
        Run (progT Try.prog T) ⟨[.tmp 2], fun u E => viewA E u = some (bC true)⟩ [.loop l7_DotsCount_L3, .blk 2, .code l7_DotsCount_K6] e [{ sz := 1, rows := rows }] := by
      intro m
      induction m with
      | zero =>
        intro d e hm h3 h4 h6 h7 h8
        have hd : d = 4 := by omega
        subst hd
        have hc : ¬ (((4 : Nat) : Int) < 4) := by omega
        refine run_again ?_
        conv => enter [3, 1]; unfold l7_DotsCount_L3
        simp only [go_sem, reduceCtorEq, Nat.reduceEqDiff, Nat.reduceAdd, Nat.reduceSub, Nat.reduceMul, Nat.reduceLeDiff, Int.reduceEq, Int.reduceLT, Int.reduceLE, Int.reduceAdd, Int.reduceMul, Int.reduceSub, Int.reduceNeg, Int.reduceToNat, reduceIte, Nat.reduceLT, h3, h4, h6, h7, h8, hc]
        unfold l7_DotsCount_K6
        simp only [go_sem, reduceCtorEq, Nat.reduceEqDiff, Nat.reduceAdd, Nat.reduceSub, Nat.reduceMul, Nat.reduceLeDiff, Int.reduceEq, Int.reduceLT, Int.reduceLE, Int.reduceAdd, Int.reduceMul, Int.reduceSub, Int.reduceNeg, Int.reduceToNat, reduceIte, Nat.reduceLT]
        have hb6 : (totN (hasN l) 4 : Int) ≤ 1000 := by
          have : ∀ (p : Nat → Bool) k, rowN p k ≤ k := fun p k => by
            induction k with
            | zero => exact Nat.le_refl _
            | succ k ih => simp only [rowN]; split <;> omega
          have h1 := this (hasN l 0) 21
          have h2 := this (hasN l 1) 21
          have h3 := this (hasN l 2) 21
          have h4 := this (hasN l 3) 21
          simp only [totN]
          omega
        refine sums l [] _ _ rfl ?_ ?_ ?_ ?_ (by rw [← hcn]; omega) (by rw [← hcn]; exact hb6)
        · simp only [go_sem, reduceCtorEq, Nat.reduceEqDiff, Nat.reduceAdd, Nat.reduceSub, Nat.reduceMul, Nat.reduceLeDiff, Int.reduceEq, Int.reduceLT, Int.reduceLE, Int.reduceAdd, Int.reduceMul, Int.reduceSub, Int.reduceNeg, Int.reduceToNat, reduceIte, Nat.reduceLT, h3]
        · simp only [go_sem, reduceCtorEq, Nat.reduceEqDiff, Nat.reduceAdd, Nat.reduceSub, Nat.reduceMul, Nat.reduceLeDiff, Int.reduceEq, Int.reduceLT, Int.reduceLE, Int.reduceAdd, Int.reduceMul, Int.reduceSub, Int.reduceNeg, Int.reduceToNat, reduceIte, Nat.reduceLT, h6, hcn]
        · simp only [go_sem, reduceCtorEq, Nat.reduceEqDiff, Nat.reduceAdd, Nat.reduceSub, Nat.reduceMul, Nat.reduceLeDiff, Int.reduceEq, Int.reduceLT, Int.reduceLE, Int.reduceAdd, Int.reduceMul, Int.reduceSub, Int.reduceNeg, Int.reduceToNat, reduceIte, Nat.reduceLT, h7, hce]
        · simp only [go_sem, reduceCtorEq, Nat.reduceEqDiff, Nat.reduceAdd, Nat.reduceSub, Nat.reduceMul, Nat.reduceLeDiff, Int.reduceEq, Int.reduceLT, Int.reduceLE, Int.reduceAdd, Int.reduceMul, Int.reduceSub, Int.reduceNeg, Int.reduceToNat, reduceIte, Nat.reduceLT, List.length_nil, Int.natCast_zero]
      | succ m ih =>
        intro d e hm h3 h4 h6 h7 h8
        have hd : d < 4 := by omega
        have hc : ((d : Int) < 4) := by omega
        have wd : IntKind.wrap .i64 ((d : Int) + 1) = ((d + 1 : Nat) : Int) := by rw [wrap64 (by omega)] <;> omega
        have wd22 : IntKind.wrap .i64 ((d : Int) * 22) = ((d * 22 : Nat) : Int) := by rw [wrap64 (by omega)] <;> omega
        have rowb : ∀ (p : Nat → Bool) k, rowN p k ≤ k := fun p k => by
          induction k with
          | zero => exact Nat.le_refl _
          | succ k ih => simp only [rowN]; split <;> omega
        have totb : ∀ (p : Nat → Nat → Bool) d, totN p d ≤ d * 21 := fun p d => by
          induction d with
          | zero => exact Nat.le_refl _
          | succ d ih => simp only [totN]; have := rowb (p d) 21; omega
        have inner : ∀ (m k : Nat) (e : Env), k + m = 21 → 0 < k → e 3 = .c (runsC l) → e 4 = .c (.slc 0 0 88 1 false) → e 6 = iC ((totN (hasN l) d + rowN (hasN l d) k : Nat) : Int) → e 7 = iC ((totN (startN l) d + rowN (startN l d) k : Nat) : Int) → e 8 = iC d → e 9 = iC k →
            Run (progT Try.prog T) ⟨[.tmp 2], fun u E => viewA E u = some (bC true)⟩ [.loop l7_DotsCount_L1, .blk 4, .blk 3, .code l7_DotsCount_K2, .loop l7_DotsCount_L3, .blk 2, .code l7_DotsCount_K6] e [{ sz := 1, rows := rows }] := by
          intro m
          induction m with
          | zero =>
            intro k e hk h0 h3 h4 h6 h7 h8 h9
            have hk : k = 21 := by omega
            subst hk
            have hc : ¬ (((21 : Nat) : Int) ≤ 20) := by omega
            refine run_again ?_
            conv => enter [3, 1]; unfold l7_DotsCount_L1
            simp only [go_sem, reduceCtorEq, Nat.reduceEqDiff, Nat.reduceAdd, Nat.reduceSub, Nat.reduceMul, Nat.reduceLeDiff, Int.reduceEq, Int.reduceLT, Int.reduceLE, Int.reduceAdd, Int.reduceMul, Int.reduceSub, Int.reduceNeg, Int.reduceToNat, reduceIte, Nat.reduceLT, h3, h4, h6, h7, h8, h9, hc]
            unfold l7_DotsCount_K2
            simp only [go_sem, reduceCtorEq, Nat.reduceEqDiff, Nat.reduceAdd, Nat.reduceSub, Nat.reduceMul, Nat.reduceLeDiff, Int.reduceEq, Int.reduceLT, Int.reduceLE, Int.reduceAdd, Int.reduceMul, Int.reduceSub, Int.reduceNeg, Int.reduceToNat, reduceIte, Nat.reduceLT, h8, wd]
            refine ih (d + 1) _ (by omega) ?_ ?_ ?_ ?_ ?_
            · simp only [go_sem, reduceCtorEq, Nat.reduceEqDiff, Nat.reduceAdd, Nat.reduceSub, Nat.reduceMul, Nat.reduceLeDiff, Int.reduceEq, Int.reduceLT, Int.reduceLE, Int.reduceAdd, Int.reduceMul, Int.reduceSub, Int.reduceNeg, Int.reduceToNat, reduceIte, Nat.reduceLT, h3]
            · simp only [go_sem, reduceCtorEq, Nat.reduceEqDiff, Nat.reduceAdd, Nat.reduceSub, Nat.reduceMul, Nat.reduceLeDiff, Int.reduceEq, Int.reduceLT, Int.reduceLE, Int.reduceAdd, Int.reduceMul, Int.reduceSub, Int.reduceNeg, Int.reduceToNat, reduceIte, Nat.reduceLT, h4]
            · first | (simp only [go_sem, reduceCtorEq, Nat.reduceEqDiff, Nat.reduceAdd, Nat.reduceSub, Nat.reduceMul, Nat.reduceLeDiff, Int.reduceEq, Int.reduceLT, Int.reduceLE, Int.reduceAdd, Int.reduceMul, Int.reduceSub, Int.reduceNeg, Int.reduceToNat, reduceIte, Nat.reduceLT, h6]; done) | (simp only [go_sem, reduceCtorEq, Nat.reduceEqDiff, Nat.reduceAdd, Nat.reduceSub, Nat.reduceMul, Nat.reduceLeDiff, Int.reduceEq, Int.reduceLT, Int.reduceLE, Int.reduceAdd, Int.reduceMul, Int.reduceSub, Int.reduceNeg, Int.reduceToNat, reduceIte, Nat.reduceLT, h6]; rfl)
            · first | (simp only [go_sem, reduceCtorEq, Nat.reduceEqDiff, Nat.reduceAdd, Nat.reduceSub, Nat.reduceMul, Nat.reduceLeDiff, Int.reduceEq, Int.reduceLT, Int.reduceLE, Int.reduceAdd, Int.reduceMul, Int.reduceSub, Int.reduceNeg, Int.reduceToNat, reduceIte, Nat.reduceLT, h7]; done) | (simp only [go_sem, reduceCtorEq, Nat.reduceEqDiff, Nat.reduceAdd, Nat.reduceSub, Nat.reduceMul, Nat.reduceLeDiff, Int.reduceEq, Int.reduceLT, Int.reduceLE, Int.reduceAdd, Int.reduceMul, Int.reduceSub, Int.reduceNeg, Int.reduceToNat, reduceIte, Nat.reduceLT, h7]; rfl)
            · simp only [go_sem, reduceCtorEq, Nat.reduceEqDiff, Nat.reduceAdd, Nat.reduceSub, Nat.reduceMul, Nat.reduceLeDiff, Int.reduceEq, Int.reduceLT, Int.reduceLE, Int.reduceAdd, Int.reduceMul, Int.reduceSub, Int.reduceNeg, Int.reduceToNat, reduceIte, Nat.reduceLT, wd]
          | succ m ihm =>
            intro k e hk h0 h3 h4 h6 h7 h8 h9
            have hc : ((k : Int) ≤ 20) := by omega
            have wk : IntKind.wrap .i64 ((k : Int) + 1) = ((k + 1 : Nat) : Int) := by rw [wrap64 (by omega)] <;> omega
            have wq : IntKind.wrap .i64 (((d * 22 : Nat) : Int) + (k : Int)) = ((d * 22 + k : Nat) : Int) := by rw [wrap64 (by omega)] <;> omega
            have wq1 : IntKind.wrap .i64 (((d * 22 + k : Nat) : Int) - 1) = ((d * 22 + (k - 1) : Nat) : Int) := by rw [wrap64 (by omega)] <;> omega
            have hq : d * 22 + k < 88 := by omega
            have hq1 : d * 22 + (k - 1) < 88 := by omega
            have r1 := htb.2 _ hq
            have r2 := htb.2 _ hq1
            rw [hgt d k hd (by omega)] at r1
            rw [hgt d (k - 1) hd (by omega)] at r2
            have hcall := chas ⟨(d : Int), (k : Int)⟩
            have hcall : Pr 18 [.c (runsC l), .agg (Dot.cells ⟨(d : Int), (k : Int)⟩)] (bC (hasN l d k)) := hcall
            have b1 := rowb (hasN l d) k
            have b2 := totb (hasN l) d
            have b3 := rowb (startN l d) k
            have b4 := totb (startN l) d
            have w6 : IntKind.wrap .i64 (((totN (hasN l) d + rowN (hasN l d) k : Nat) : Int) + 1) = ((totN (hasN l) d + (rowN (hasN l d) k + 1) : Nat) : Int) := by rw [wrap64 (by omega)] <;> omega
            have w7 : IntKind.wrap .i64 (((totN (startN l) d + rowN (startN l d) k : Nat) : Int) + 1) = ((totN (startN l) d + (rowN (startN l d) k + 1) : Nat) : Int) := by rw [wrap64 (by omega)] <;> omega
            have s1 : rowN (hasN l d) (k + 1) = rowN (hasN l d) k + (if hasN l d k = true then 1 else 0) := by
              have hk0 : k ≠ 0 := by omega
              simp [rowN, hk0]
            have s2 : rowN (startN l d) (k + 1) = rowN (startN l d) k + (if (hasN l d k && !hasN l d (k - 1)) = true then 1 else 0) := by
              have : startN l d k = (hasN l d k && !hasN l d (k - 1)) := rfl
              simp only [rowN, this]
              have hk0 : k ≠ 0 := by omega
              simp [hk0]
            have go : ∀ (e' : Env) (x y : Nat), e' 3 = e 3 → e' 4 = e 4 → e' 6 = iC (x : Nat) → e' 7 = iC (y : Nat) → e' 8 = e 8 → e' 9 = iC ((k + 1 : Nat) : Int) → x = totN (hasN l) d + rowN (hasN l d) (k + 1) → y = totN (startN l) d + rowN (startN l d) (k + 1) →
                Run (progT Try.prog T) ⟨[.tmp 2], fun u E => viewA E u = some (bC true)⟩ [.loop l7_DotsCount_L1, .blk 4, .blk 3, .code l7_DotsCount_K2, .loop l7_DotsCount_L3, .blk 2, .code l7_DotsCount_K6] e' [{ sz := 1, rows := rows }] := by
              intro e' x y g3 g4 g6 g7 g8 g9 hx hy
              subst hx; subst hy
              exact ihm (k + 1) e' (by omega) (by omega) (by rw [g3, h3]) (by rw [g4, h4]) g6 g7 (by rw [g8, h8]) g9
            rw [s1, s2] at go
            refine run_again ?_
            conv => enter [3, 1]; unfold l7_DotsCount_L1
            simp only [go_sem, reduceCtorEq, Nat.reduceEqDiff, Nat.reduceAdd, Nat.reduceSub, Nat.reduceMul, Nat.reduceLeDiff, Int.reduceEq, Int.reduceLT, Int.reduceLE, Int.reduceAdd, Int.reduceMul, Int.reduceSub, Int.reduceNeg, Int.reduceToNat, reduceIte, Nat.reduceLT, h3, h4, h6, h7, h8, h9, hc, wd22, wq, ix _ _ hq, row_d0, r1]
            refine callW_pure hcall ?_
            clear ih ihm
            cases hA : hasN l d k <;> cases hB : hasN l d (k - 1) <;> rw [hA, hB] at go <;> rw [hA] at r1 <;> rw [hB] at r2
            all_goals
              simp only [go_sem, reduceCtorEq, Nat.reduceEqDiff, Nat.reduceAdd, Nat.reduceSub, Nat.reduceMul, Nat.reduceLeDiff, Int.reduceEq, Int.reduceLT, Int.reduceLE, Int.reduceAdd, Int.reduceMul, Int.reduceSub, Int.reduceNeg, Int.reduceToNat, reduceIte, Nat.reduceLT, h3, h4, h6, h7, h8, h9, wd22, wq, wq1, ix _ _ hq, ix _ _ hq1, row_d0, r1, r2, bne_self_eq_false, beq_self_eq_true, wk, w6, w7]
              refine go _ _ _ ?_ ?_ ?_ ?_ ?_ ?_ rfl rfl
              all_goals (try simp only [go_sem, reduceCtorEq, Nat.reduceEqDiff, Nat.reduceAdd, Nat.reduceSub, Nat.reduceMul, Nat.reduceLeDiff, Int.reduceEq, Int.reduceLT, Int.reduceLE, Int.reduceAdd, Int.reduceMul, Int.reduceSub, Int.reduceNeg, Int.reduceToNat, reduceIte, Nat.reduceLT, h6, h7, w6, w7, wk, Bool.false_and, Bool.true_and, Bool.not_true, Bool.not_false, Nat.add_zero])
        refine run_again ?_
        conv => enter [3, 1]; unfold l7_DotsCount_L3
        simp only [go_sem, reduceCtorEq, Nat.reduceEqDiff, Nat.reduceAdd, Nat.reduceSub, Nat.reduceMul, Nat.reduceLeDiff, Int.reduceEq, Int.reduceLT, Int.reduceLE, Int.reduceAdd, Int.reduceMul, Int.reduceSub, Int.reduceNeg, Int.reduceToNat, reduceIte, Nat.reduceLT, h3, h4, h6, h7, h8, hc]
        refine inner 20 1 _ rfl (by omega) ?_ ?_ ?_ ?_ ?_ ?_
        · simp only [go_sem, reduceCtorEq, Nat.reduceEqDiff, Nat.reduceAdd, Nat.reduceSub, Nat.reduceMul, Nat.reduceLeDiff, Int.reduceEq, Int.reduceLT, Int.reduceLE, Int.reduceAdd, Int.reduceMul, Int.reduceSub, Int.reduceNeg, Int.reduceToNat, reduceIte, Nat.reduceLT, h3]
        · simp only [go_sem, reduceCtorEq, Nat.reduceEqDiff, Nat.reduceAdd, Nat.reduceSub, Nat.reduceMul, Nat.reduceLeDiff, Int.reduceEq, Int.reduceLT, Int.reduceLE, Int.reduceAdd, Int.reduceMul, Int.reduceSub, Int.reduceNeg, Int.reduceToNat, reduceIte, Nat.reduceLT, h4]
        · first | (simp only [go_sem, reduceCtorEq, Nat.reduceEqDiff, Nat.reduceAdd, Nat.reduceSub, Nat.reduceMul, Nat.reduceLeDiff, Int.reduceEq, Int.reduceLT, Int.reduceLE, Int.reduceAdd, Int.reduceMul, Int.reduceSub, Int.reduceNeg, Int.reduceToNat, reduceIte, Nat.reduceLT, h6]; done) | (simp only [go_sem, reduceCtorEq, Nat.reduceEqDiff, Nat.reduceAdd, Nat.reduceSub, Nat.reduceMul, Nat.reduceLeDiff, Int.reduceEq, Int.reduceLT, Int.reduceLE, Int.reduceAdd, Int.reduceMul, Int.reduceSub, Int.reduceNeg, Int.reduceToNat, reduceIte, Nat.reduceLT, h6]; rfl)
        · first | (simp only [go_sem, reduceCtorEq, Nat.reduceEqDiff, Nat.reduceAdd, Nat.reduceSub, Nat.reduceMul, Nat.reduceLeDiff, Int.reduceEq, Int.reduceLT, Int.reduceLE, Int.reduceAdd, Int.reduceMul, Int.reduceSub, Int.reduceNeg, Int.reduceToNat, reduceIte, Nat.reduceLT, h7]; done) | (simp only [go_sem, reduceCtorEq, Nat.reduceEqDiff, Nat.reduceAdd, Nat.reduceSub, Nat.reduceMul, Nat.reduceLeDiff, Int.reduceEq, Int.reduceLT, Int.reduceLE, Int.reduceAdd, Int.reduceMul, Int.reduceSub, Int.reduceNeg, Int.reduceToNat, reduceIte, Nat.reduceLT, h7]; rfl)
        · simp only [go_sem, reduceCtorEq, Nat.reduceEqDiff, Nat.reduceAdd, Nat.reduceSub, Nat.reduceMul, Nat.reduceLeDiff, Int.reduceEq, Int.reduceLT, Int.reduceLE, Int.reduceAdd, Int.reduceMul, Int.reduceSub, Int.reduceNeg, Int.reduceToNat, reduceIte, Nat.reduceLT, h8]
        · first | (simp only [go_sem, reduceCtorEq, Nat.reduceEqDiff, Nat.reduceAdd, Nat.reduceSub, Nat.reduceMul, Nat.reduceLeDiff, Int.reduceEq, Int.reduceLT, Int.reduceLE, Int.reduceAdd, Int.reduceMul, Int.reduceSub, Int.reduceNeg, Int.reduceToNat, reduceIte, Nat.reduceLT]; done) | (simp only [go_sem, reduceCtorEq, Nat.reduceEqDiff, Nat.reduceAdd, Nat.reduceSub, Nat.reduceMul, Nat.reduceLeDiff, Int.reduceEq, Int.reduceLT, Int.reduceLE, Int.reduceAdd, Int.reduceMul, Int.reduceSub, Int.reduceNeg, Int.reduceToNat, reduceIte, Nat.reduceLT]; rfl)
    unfold l7_DotsCount_K7
    simp only [go_sem, reduceCtorEq, Nat.reduceEqDiff, Nat.reduceAdd, Nat.reduceSub, Nat.reduceMul, Nat.reduceLeDiff, Int.reduceEq, Int.reduceLT, Int.reduceLE, Int.reduceAdd, Int.reduceMul, Int.reduceSub, Int.reduceNeg, Int.reduceToNat, reduceIte, Nat.reduceLT]
    refine outer 4 0 _ rfl ?_ ?_ ?_ ?_ ?_
    · simp only [go_sem, reduceCtorEq, Nat.reduceEqDiff, Nat.reduceAdd, Nat.reduceSub, Nat.reduceMul, Nat.reduceLeDiff, Int.reduceEq, Int.reduceLT, Int.reduceLE, Int.reduceAdd, Int.reduceMul, Int.reduceSub, Int.reduceNeg, Int.reduceToNat, reduceIte, Nat.reduceLT, h3]
    · simp only [go_sem, reduceCtorEq, Nat.reduceEqDiff, Nat.reduceAdd, Nat.reduceSub, Nat.reduceMul, Nat.reduceLeDiff, Int.reduceEq, Int.reduceLT, Int.reduceLE, Int.reduceAdd, Int.reduceMul, Int.reduceSub, Int.reduceNeg, Int.reduceToNat, reduceIte, Nat.reduceLT, h4]
    · first | (simp only [go_sem, reduceCtorEq, Nat.reduceEqDiff, Nat.reduceAdd, Nat.reduceSub, Nat.reduceMul, Nat.reduceLeDiff, Int.reduceEq, Int.reduceLT, Int.reduceLE, Int.reduceAdd, Int.reduceMul, Int.reduceSub, Int.reduceNeg, Int.reduceToNat, reduceIte, Nat.reduceLT]; done) | (simp only [go_sem, reduceCtorEq, Nat.reduceEqDiff, Nat.reduceAdd, Nat.reduceSub, Nat.reduceMul, Nat.reduceLeDiff, Int.reduceEq, Int.reduceLT, Int.reduceLE, Int.reduceAdd, Int.reduceMul, Int.reduceSub, Int.reduceNeg, Int.reduceToNat, reduceIte, Nat.reduceLT]; rfl)
    · first | (simp only [go_sem, reduceCtorEq, Nat.reduceEqDiff, Nat.reduceAdd, Nat.reduceSub, Nat.reduceMul, Nat.reduceLeDiff, Int.reduceEq, Int.reduceLT, Int.reduceLE, Int.reduceAdd, Int.reduceMul, Int.reduceSub, Int.reduceNeg, Int.reduceToNat, reduceIte, Nat.reduceLT]; done) | (simp only [go_sem, reduceCtorEq, Nat.reduceEqDiff, Nat.reduceAdd, Nat.reduceSub, Nat.reduceMul, Nat.reduceLeDiff, Int.reduceEq, Int.reduceLT, Int.reduceLE, Int.reduceAdd, Int.reduceMul, Int.reduceSub, Int.reduceNeg, Int.reduceToNat, reduceIte, Nat.reduceLT]; rfl)
    · first | (simp only [go_sem, reduceCtorEq, Nat.reduceEqDiff, Nat.reduceAdd, Nat.reduceSub, Nat.reduceMul, Nat.reduceLeDiff, Int.reduceEq, Int.reduceLT, Int.reduceLE, Int.reduceAdd, Int.reduceMul, Int.reduceSub, Int.reduceNeg, Int.reduceToNat, reduceIte, Nat.reduceLT]; done) | (simp only [go_sem, reduceCtorEq, Nat.reduceEqDiff, Nat.reduceAdd, Nat.reduceSub, Nat.reduceMul, Nat.reduceLeDiff, Int.reduceEq, Int.reduceLT, Int.reduceLE, Int.reduceAdd, Int.reduceMul, Int.reduceSub, Int.reduceNeg, Int.reduceToNat, reduceIte, Nat.reduceLT]; rfl)
  -- the table
  have loop : ∀ (rest pre : List Nat) (rows : List (List Cell)) (tb : Nat → Bool) (e : Env), ns = pre ++ rest → e 0 = .c (.lst 1 (ns.map byteC)) → e 3 = .c (runsC l) → e 4 = .c (.slc 0 0 88 1 false) → e 5 = iC pre.length → Tb rows tb → (∀ q, tb q = decide (∃ n ∈ pre, idxN n = q)) →
      Run (progT Try.prog T) ⟨[.tmp 2], fun u E => viewA E u = some (bC true)⟩ [.loop l7_DotsCount_L0, .blk 0, .code l7_DotsCount_K7] e [{ sz := 1, rows := rows }] := by
    intro rest
    induction rest with
    | nil =>
      intro pre rows tb e hp h0 h3 h4 h5 htb htq
      have hc := not_lt_at (f := byteC) hp
      rw [List.append_nil] at hp
      subst hp
      refine run_again ?_
      conv => enter [3, 1]; unfold l7_DotsCount_L0
      simp only [go_sem, reduceCtorEq, Nat.reduceEqDiff, Nat.reduceAdd, Nat.reduceSub, Nat.reduceMul, Nat.reduceLeDiff, Int.reduceEq, Int.reduceLT, Int.reduceLE, Int.reduceAdd, Int.reduceMul, Int.reduceSub, Int.reduceNeg, Int.reduceToNat, reduceIte, Nat.reduceLT, h0, h5, hc]
      refine grid rows tb _ htb (fun d k hd hk => by rw [htq, hgrid d k hd hk]) ?_ ?_
      · simp only [go_sem, reduceCtorEq, Nat.reduceEqDiff, Nat.reduceAdd, Nat.reduceSub, Nat.reduceMul, Nat.reduceLeDiff, Int.reduceEq, Int.reduceLT, Int.reduceLE, Int.reduceAdd, Int.reduceMul, Int.reduceSub, Int.reduceNeg, Int.reduceToNat, reduceIte, Nat.reduceLT, h3]
      · simp only [go_sem, reduceCtorEq, Nat.reduceEqDiff, Nat.reduceAdd, Nat.reduceSub, Nat.reduceMul, Nat.reduceLeDiff, Int.reduceEq, Int.reduceLT, Int.reduceLE, Int.reduceAdd, Int.reduceMul, Int.reduceSub, Int.reduceNeg, Int.reduceToNat, reduceIte, Nat.reduceLT, h4]
    | cons n rest ih =>
      intro pre rows tb e hp h0 h3 h4 h5 htb htq
      have hc := lt_at (f := byteC) hp
      have hr := map_at' (f := byteC) hp
      have hnx := next_at hp hlen
      have hn256 := hb n (by rw [hp]; simp)
      have w1 : IntKind.wrap .i64 (n : Int) = (n : Int) := wrap64 (by omega)
      have w2 : (n : Int).tmod 4 = ((n % 4 : Nat) : Int) := by rw [Int.tmod_eq_emod_of_nonneg (by omega)]; omega
      have w3 : IntKind.wrap .i64 (((n % 4 : Nat) : Int) * 22) = ((n % 4 * 22 : Nat) : Int) := by rw [wrap64 (by omega)] <;> omega
      have w4 : IntKind.wrap .i64 (((n % 4 * 22 : Nat) : Int) + 1) = ((n % 4 * 22 + 1 : Nat) : Int) := by rw [wrap64 (by omega)] <;> omega
      have w5 : IntKind.wrap .i64 ((n : Int).tdiv 4) = ((n / 4 : Nat) : Int) := by
        have : (n : Int).tdiv 4 = ((n / 4 : Nat) : Int) := by rw [Int.tdiv_eq_ediv_of_nonneg (by omega)]; omega
        rw [this, wrap64 (by omega)]
      have w6 : ((n / 4 : Nat) : Int).tmod 20 = ((n / 4 % 20 : Nat) : Int) := by rw [Int.tmod_eq_emod_of_nonneg (by omega)]; omega
      have w7 : IntKind.wrap .i64 (((n % 4 * 22 + 1 : Nat) : Int) + ((n / 4 % 20 : Nat) : Int)) = ((idxN n : Nat) : Int) := by unfold idxN; rw [wrap64 (by omega)] <;> omega
      have hq : idxN n < 88 := by unfold idxN; omega
      have hix : ∀ H : Heap, vIx 1 (.c (.slc 0 0 88 1 false)) (iC ((idxN n : Nat) : Int)) H = some (.c (.ptr 0 (idxN n) 0), H) := fun H => vIx_slc hq
      have hro := htb.2 _ hq
      refine run_again ?_
      conv => enter [3, 1]; unfold l7_DotsCount_L0
      simp only [go_sem, reduceCtorEq, Nat.reduceEqDiff, Nat.reduceAdd, Nat.reduceSub, Nat.reduceMul, Nat.reduceLeDiff, Int.reduceEq, Int.reduceLT, Int.reduceLE, Int.reduceAdd, Int.reduceMul, Int.reduceSub, Int.reduceNeg, Int.reduceToNat, reduceIte, Nat.reduceLT, h0, h3, h4, h5, hc, hr, w1, vBin_rem, vBin_quo, w2, w3, w4, w5, w6, w7, hix, row_d0, mine_d0, put_d0, hro, hnx]
      refine ih (pre ++ [n]) _ _ _ (by rw [hp]; simp) ?_ ?_ ?_ ?_ (htb.set (idxN n)) (fun q => ?_)
      · simp only [go_sem, reduceCtorEq, Nat.reduceEqDiff, Nat.reduceAdd, Nat.reduceSub, Nat.reduceMul, Nat.reduceLeDiff, Int.reduceEq, Int.reduceLT, Int.reduceLE, Int.reduceAdd, Int.reduceMul, Int.reduceSub, Int.reduceNeg, Int.reduceToNat, reduceIte, Nat.reduceLT, h0]
      · simp only [go_sem, reduceCtorEq, Nat.reduceEqDiff, Nat.reduceAdd, Nat.reduceSub, Nat.reduceMul, Nat.reduceLeDiff, Int.reduceEq, Int.reduceLT, Int.reduceLE, Int.reduceAdd, Int.reduceMul, Int.reduceSub, Int.reduceNeg, Int.reduceToNat, reduceIte, Nat.reduceLT, h3]
      · simp only [go_sem, reduceCtorEq, Nat.reduceEqDiff, Nat.reduceAdd, Nat.reduceSub, Nat.reduceMul, Nat.reduceLeDiff, Int.reduceEq, Int.reduceLT, Int.reduceLE, Int.reduceAdd, Int.reduceMul, Int.reduceSub, Int.reduceNeg, Int.reduceToNat, reduceIte, Nat.reduceLT, h4]
      · simp only [go_sem, reduceCtorEq, Nat.reduceEqDiff, Nat.reduceAdd, Nat.reduceSub, Nat.reduceMul, Nat.reduceLeDiff, Int.reduceEq, Int.reduceLT, Int.reduceLE, Int.reduceAdd, Int.reduceMul, Int.reduceSub, Int.reduceNeg, Int.reduceToNat, reduceIte, Nat.reduceLT, hnx]
      · rw [htq, Bool.eq_iff_iff]
        simp only [Bool.or_eq_true, decide_eq_true_eq, List.mem_append, List.mem_singleton]
        constructor
        · rintro (⟨x, h1, h2⟩ | rfl)
          · exact ⟨x, .inl h1, h2⟩
          · exact ⟨n, .inr rfl, rfl⟩
        · rintro ⟨x, h1 | rfl, h2⟩
          · exact .inl ⟨x, h1, h2⟩
          · exact .inr h2.symm
  obtain ⟨r0, hmake, htb0⟩ : ∃ r0, vMake 1 1 [.bool false] (.c (.int .i64 88)) (.c (.int .i64 88)) [] = some (.c (.slc 0 0 88 1 false), [{ sz := 1, rows := r0 }]) ∧ Tb r0 (fun _ => false) :=
    ⟨List.replicate 88 [.bool false], rfl, List.length_replicate, fun q hq => by rw [List.getElem?_replicate, if_pos hq]⟩
  simp only [go_sem, reduceCtorEq, Nat.reduceEqDiff, Nat.reduceAdd, Nat.reduceSub, Nat.reduceMul, Nat.reduceLeDiff, Int.reduceEq, Int.reduceLT, Int.reduceLE, Int.reduceAdd, Int.reduceMul, Int.reduceSub, Int.reduceNeg, Int.reduceToNat, reduceIte, Nat.reduceLT, h100]
  refine callW_pure clist ?_
  simp only [go_sem, reduceCtorEq, Nat.reduceEqDiff, Nat.reduceAdd, Nat.reduceSub, Nat.reduceMul, Nat.reduceLeDiff, Int.reduceEq, Int.reduceLT, Int.reduceLE, Int.reduceAdd, Int.reduceMul, Int.reduceSub, Int.reduceNeg, Int.reduceToNat, reduceIte, Nat.reduceLT]
  refine callW_pure cof ?_
  simp only [go_sem, reduceCtorEq, Nat.reduceEqDiff, Nat.reduceAdd, Nat.reduceSub, Nat.reduceMul, Nat.reduceLeDiff, Int.reduceEq, Int.reduceLT, Int.reduceLE, Int.reduceAdd, Int.reduceMul, Int.reduceSub, Int.reduceNeg, Int.reduceToNat, reduceIte, Nat.reduceLT, hmake]
  refine loop ns [] _ (fun _ => false) _ rfl ?_ ?_ ?_ ?_ htb0 (fun q => by simp)
  · simp only [go_sem, reduceCtorEq, Nat.reduceEqDiff, Nat.reduceAdd, Nat.reduceSub, Nat.reduceMul, Nat.reduceLeDiff, Int.reduceEq, Int.reduceLT, Int.reduceLE, Int.reduceAdd, Int.reduceMul, Int.reduceSub, Int.reduceNeg, Int.reduceToNat, reduceIte, Nat.reduceLT]
  · simp only [go_sem, reduceCtorEq, Nat.reduceEqDiff, Nat.reduceAdd, Nat.reduceSub, Nat.reduceMul, Nat.reduceLeDiff, Int.reduceEq, Int.reduceLT, Int.reduceLE, Int.reduceAdd, Int.reduceMul, Int.reduceSub, Int.reduceNeg, Int.reduceToNat, reduceIte, Nat.reduceLT]
  · simp only [go_sem, reduceCtorEq, Nat.reduceEqDiff, Nat.reduceAdd, Nat.reduceSub, Nat.reduceMul, Nat.reduceLeDiff, Int.reduceEq, Int.reduceLT, Int.reduceLE, Int.reduceAdd, Int.reduceMul, Int.reduceSub, Int.reduceNeg, Int.reduceToNat, reduceIte, Nat.reduceLT]
  · simp only [go_sem, reduceCtorEq, Nat.reduceEqDiff, Nat.reduceAdd, Nat.reduceSub, Nat.reduceMul, Nat.reduceLeDiff, Int.reduceEq, Int.reduceLT, Int.reduceLE, Int.reduceAdd, Int.reduceMul, Int.reduceSub, Int.reduceNeg, Int.reduceToNat, reduceIte, Nat.reduceLT, List.length_nil, Int.natCast_zero]

theorem l7_DotsCount_law (a : List Nat) (_ : a.length ≤ maxLen) (ha : ∀ n ∈ a, n < 256) : Pr 3 [.c (bytesC a)] (bC true) := l7_DotsCount_ok a ha

end Go.Proofs.Ytfbkolkkpkonfaa.Eng
