/- Counting dots over a grid: plain, no program. No statement of the seat is proved here. -/
import Derived.Test.YtmdblemjlmfbbaaZPartD
namespace Go.Proofs.Ytmdblemjlmfbbaa.Eng
open Go
set_option linter.unusedVariables false
set_option linter.unusedSimpArgs false

/-! ### Counting over a grid -/
/-- How many numbers from 1 below 'k' a row's test holds for; how many in the rows below 'd'. -/
def rowN (p : Nat → Bool) : Nat → Nat
  | 0 => 0
  | k + 1 => rowN p k + (if k ≠ 0 ∧ p k = true then 1 else 0)
def totN (p : Nat → Nat → Bool) : Nat → Nat
  | 0 => 0
  | d + 1 => totN p d + rowN (p d) 21
theorem rowN_or {p q r : Nat → Bool} {K : Nat} (h : ∀ k, 0 < k → k < K → p k = (q k || r k)) (hd : ∀ k, 0 < k → k < K → ¬ (q k = true ∧ r k = true)) : ∀ {k : Nat}, k ≤ K → rowN p k = rowN q k + rowN r k
  | 0, _ => rfl
  | k + 1, hk => by
    simp only [rowN]
    rw [rowN_or h hd (k := k) (by omega)]
    by_cases h0 : k = 0
    · simp [h0]
    · have h1 := h k (by omega) (by omega)
      have h2 := hd k (by omega) (by omega)
      cases hq : q k <;> cases hr : r k <;> simp [h0, h1, hq, hr] at h2 ⊢ <;> omega
theorem totN_or {p q r : Nat → Nat → Bool} {D : Nat} (h : ∀ d k, d < D → 0 < k → k < 21 → p d k = (q d k || r d k)) (hd : ∀ d k, d < D → 0 < k → k < 21 → ¬ (q d k = true ∧ r d k = true)) : ∀ {d : Nat}, d ≤ D → totN p d = totN q d + totN r d
  | 0, _ => rfl
  | d + 1, hk => by
    simp only [totN]
    rw [totN_or h hd (d := d) (by omega), rowN_or (K := 21) (fun k h1 h2 => h d k (by omega) h1 h2) (fun k h1 h2 => hd d k (by omega) h1 h2) (Nat.le_refl _)]
    omega
theorem rowN_congr {p q : Nat → Bool} {K : Nat} (h : ∀ k, 0 < k → k < K → p k = q k) : ∀ {k : Nat}, k ≤ K → rowN p k = rowN q k
  | 0, _ => rfl
  | k + 1, hk => by
    simp only [rowN]
    rw [rowN_congr h (k := k) (by omega)]
    by_cases h0 : k = 0
    · simp [h0]
    · rw [h k (by omega) (by omega)]
theorem totN_congr {p q : Nat → Nat → Bool} {D : Nat} (h : ∀ d k, d < D → 0 < k → k < 21 → p d k = q d k) : ∀ {d : Nat}, d ≤ D → totN p d = totN q d
  | 0, _ => rfl
  | d + 1, hk => by
    simp only [totN]
    rw [totN_congr h (d := d) (by omega), rowN_congr (K := 21) (fun k h1 h2 => h d k (by omega) h1 h2) (Nat.le_refl _)]
theorem totN_false : ∀ {d : Nat}, totN (fun _ _ => false) d = 0
  | 0 => rfl
  | d + 1 => by
    simp only [totN, totN_false (d := d)]
    have : ∀ k, rowN (fun _ => false) k = 0 := fun k => by
      induction k with
      | zero => rfl
      | succ k ih => simp [rowN, ih]
    rw [this]
def runN' (d f t : Nat) (x y : Nat) : Bool := decide (x = d) && decide (f ≤ y) && decide (y ≤ t)
theorem totN_runF : ∀ d : Fin 4, ∀ f t : Fin 21, (decide (0 < f.val) && decide (f.val ≤ t.val)) = true → totN (runN' d.val f.val t.val) 4 = t.val - f.val + 1 ∧ totN (runN' d.val f.val f.val) 4 = 1 := by decide +kernel
theorem totN_run (d : Nat) (hd : d < 4) (f : Nat) (hf : f < 21) (t : Nat) (ht : t < 21) (h0 : 0 < f) (h1 : f ≤ t) : totN (runN' d f t) 4 = t - f + 1 ∧ totN (runN' d f f) 4 = 1 :=
  totN_runF ⟨d, hd⟩ ⟨f, hf⟩ ⟨t, ht⟩ (by simp [h0, h1])

def hasN (l : List Rn) (d k : Nat) : Bool := hasDot l ⟨(d : Int), (k : Int)⟩
def startN (l : List Rn) (d k : Nat) : Bool := hasN l d k && !hasN l d (k - 1)
def sumR (l : List Rn) : Int := (l.map fun r => r.to - r.frm + 1).foldr (· + ·) 0
/-- As many dots as the runs are long; as many beginnings as there are runs. -/
theorem count_runs : ∀ {l : List Rn}, Norm l → (∀ r ∈ l, r.dev < 4 ∧ r.to ≤ 20) → (totN (hasN l) 4 : Int) = sumR l ∧ totN (startN l) 4 = l.length
  | [], _, _ => by
    have h1 : totN (hasN []) 4 = 0 := totN_false
    have h2 : totN (startN []) 4 = 0 := totN_false
    rw [h1, h2]; exact ⟨rfl, rfl⟩
  | r :: l, hn, hb => by
    obtain ⟨h1, h2⟩ := count_runs hn.tail fun x hx => hb x (by simp [hx])
    have hr := hn.head
    obtain ⟨b1, b2⟩ := hb r (by simp)
    have hs := (List.pairwise_cons.1 hn.sep).1
    obtain ⟨d, f, t, rfl⟩ : ∃ d f t : Nat, r = ⟨(d : Int), (f : Int), (t : Int)⟩ := by
      obtain ⟨x, y, z⟩ := r
      have := hr.d0; have := hr.f1; have := hr.ft
      simp only at *
      exact ⟨x.toNat, y.toNat, z.toNat, by rw [Int.toNat_of_nonneg (by omega), Int.toNat_of_nonneg (by omega), Int.toNat_of_nonneg (by omega)]⟩
    have q1 := hr.f1; have q2 := hr.ft
    simp only at b1 b2 q1 q2
    obtain ⟨c1, c2⟩ := totN_run d (by omega) f (by omega) t (by omega) (by omega) (by omega)
    have hN : ∀ x k, hasN (⟨(d : Int), (f : Int), (t : Int)⟩ :: l) x k = (runN' d f t x k || hasN l x k) := fun x k => by
      unfold hasN
      rw [hasDot_cons]
      congr 1
      rw [Bool.eq_iff_iff]
      simp [Rn.has, runN']; omega
    have apart : ∀ x (k : Int), hasDot l ⟨(x : Int), k⟩ = true → (x : Int) = d → (t : Int) + 1 < k := fun x k h e => by
      obtain ⟨q, hq, e1, e2, e3⟩ := hasDot_iff.1 h
      have := hs q hq
      unfold Sep at this
      simp only at this e1 e2 e3
      omega
    constructor
    · rw [totN_or (D := 4) (fun x k _ _ _ => hN x k) (fun x k _ _ _ ⟨h3, h4⟩ => by
        simp only [runN', Bool.and_eq_true, decide_eq_true_eq] at h3
        have := apart x k h4 (by omega)
        omega) (Nat.le_refl _), c1]
      have : sumR (⟨(d : Int), (f : Int), (t : Int)⟩ :: l) = ((t : Int) - f + 1) + sumR l := rfl
      rw [this, ← h1]
      omega
    · rw [totN_or (q := runN' d f f) (r := startN l) (D := 4) (fun x k _ hk _ => ?_) (fun x k _ _ _ ⟨h3, h4⟩ => ?_) (Nat.le_refl _), c2, h2, List.length_cons]
      · omega
      · unfold startN
        rw [hN, hN, Bool.eq_iff_iff]
        simp only [Bool.and_eq_true, Bool.or_eq_true, Bool.not_eq_true', Bool.or_eq_false_iff]
        have key : hasN l x k = true → hasN l x (k - 1) = false → runN' d f t x (k - 1) = false := fun h5 _ => by
          cases hc : runN' d f t x (k - 1) with
          | false => rfl
          | true =>
            simp only [runN', Bool.and_eq_true, decide_eq_true_eq] at hc
            have := apart x k h5 (by omega)
            omega
        constructor
        · rintro ⟨h5 | h5, h6, h7⟩
          · left
            simp only [runN', Bool.and_eq_true, decide_eq_true_eq] at h5 ⊢
            simp only [runN', Bool.and_eq_false_iff, decide_eq_false_iff_not] at h6
            omega
          · exact .inr ⟨h5, h7⟩
        · rintro (h5 | ⟨h5, h6⟩)
          · simp only [runN', Bool.and_eq_true, decide_eq_true_eq] at h5
            refine ⟨.inl (by simp [runN']; omega), ?_, ?_⟩
            · cases hc : runN' d f t x (k - 1) with
              | false => rfl
              | true =>
                simp only [runN', Bool.and_eq_true, decide_eq_true_eq] at hc
                omega
            · cases hc : hasN l x (k - 1) with
              | false => rfl
              | true =>
                have := apart x ((k - 1 : Nat) : Int) hc (by omega)
                omega
          · exact ⟨.inr h5, key h5 h6, h6⟩
      · simp only [startN, Bool.and_eq_true] at h4
        simp only [runN', Bool.and_eq_true, decide_eq_true_eq] at h3
        have := apart x k h4.1 (by omega)
        omega

end Go.Proofs.Ytmdblemjlmfbbaa.Eng
