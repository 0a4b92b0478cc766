/- Sets of dots as runs: plain lists, no program. No statement of the seat is proved here. -/
import Derived.Test.YtfbkolkkpkonfaaDat
namespace Go.Proofs.Ytfbkolkkpkonfaa.Eng
open Go
set_option linter.unusedVariables false
set_option linter.unusedSimpArgs false

def Rn.right (r : Rn) : Bool := decide (0 ≤ r.dev) && decide (r.dev < 8) && decide (1 ≤ r.frm) && decide (r.frm ≤ r.to) && decide (r.to ≤ 4503599627370496)
/-- Whether runs may stand so, behind the run 'p'. -/
def mayFrom (p : Option Rn) : List Rn → Bool
  | [] => true
  | r :: rest => r.right && (match p with | none => true | some q => !(decide (r.dev < q.dev) || decide (r.dev = q.dev) && decide (r.frm ≤ W (q.to + 1)))) && mayFrom (some r) rest
def mayRuns (l : List Rn) : Bool := mayFrom none l
/-- Whether a dot is among runs. -/
def Rn.has (r : Rn) (d : Dot) : Bool := decide (r.dev = d.dev) && decide (r.frm ≤ d.n) && decide (d.n ≤ r.to)
def hasDot (l : List Rn) (d : Dot) : Bool := l.any fun r => r.has d

structure Rn.Right (r : Rn) : Prop where
  d0 : 0 ≤ r.dev
  d8 : r.dev < 8
  f1 : 1 ≤ r.frm
  ft : r.frm ≤ r.to
  tm : r.to ≤ 4503599627370496
theorem Rn.right_iff {r : Rn} : r.right = true ↔ r.Right := by
  simp only [Rn.right, Bool.and_eq_true, decide_eq_true_eq]
  exact ⟨fun ⟨⟨⟨⟨a, b⟩, c⟩, d⟩, e⟩ => ⟨a, b, c, d, e⟩, fun h => ⟨⟨⟨⟨h.d0, h.d8⟩, h.f1⟩, h.ft⟩, h.tm⟩⟩

/-- One run stands apart ahead of another. -/
def Sep (q r : Rn) : Prop := q.dev < r.dev ∨ (q.dev = r.dev ∧ q.to + 1 < r.frm)
theorem Sep.trans {a b c : Rn} (hb : b.Right) (h : Sep a b) (k : Sep b c) : Sep a c := by
  have := hb.ft
  unfold Sep at *; omega

/-- Runs as they should stand. -/
structure Norm (l : List Rn) : Prop where
  right : ∀ r ∈ l, r.Right
  sep : l.Pairwise Sep
theorem Norm.nil : Norm [] := ⟨by simp, .nil⟩
theorem Norm.tail {r : Rn} {l : List Rn} (h : Norm (r :: l)) : Norm l := ⟨fun x hx => h.right x (by simp [hx]), (List.pairwise_cons.1 h.sep).2⟩
theorem Norm.head {r : Rn} {l : List Rn} (h : Norm (r :: l)) : r.Right := h.right r (by simp)

theorem mayFrom_iff : ∀ {l : List Rn} {p : Option Rn}, (∀ q, p = some q → q.Right) → (mayFrom p l = true ↔ Norm l ∧ ∀ q, p = some q → ∀ r ∈ l, Sep q r)
  | [], p, hp => by simp [mayFrom, Norm.nil]
  | r :: l, p, hp => by
    simp only [mayFrom, Bool.and_eq_true, Rn.right_iff]
    constructor
    · rintro ⟨⟨hr, hq⟩, hm⟩
      obtain ⟨hn, hs⟩ := (mayFrom_iff (p := some r) (by intro q h; injection h with h; subst h; exact hr)).1 hm
      have hsr := hs r rfl
      refine ⟨⟨fun x hx => by rcases List.mem_cons.1 hx with rfl | hx; exact hr; exact hn.right x hx, List.pairwise_cons.2 ⟨hsr, hn.sep⟩⟩, ?_⟩
      intro q hq'
      subst hq'
      have hqr : Sep q r := by
        have hqR := hp q rfl
        have hw : W (q.to + 1) = q.to + 1 := W_of (by have := hqR.tm; have := hqR.f1; have := hqR.ft; omega)
        simp only [hw] at hq
        simp at hq
        unfold Sep
        omega
      intro x hx
      rcases List.mem_cons.1 hx with rfl | hx
      · exact hqr
      · exact hqr.trans hr (hsr x hx)
    · rintro ⟨hn, hq⟩
      refine ⟨⟨hn.head, ?_⟩, (mayFrom_iff (p := some r) (by intro q h; injection h with h; subst h; exact hn.head)).2 ⟨hn.tail, fun q h => by injection h with h; subst h; exact (List.pairwise_cons.1 hn.sep).1⟩⟩
      cases p with
      | none => rfl
      | some q =>
        have hqr := hq q rfl r (by simp)
        have hqR := hp q rfl
        have hw : W (q.to + 1) = q.to + 1 := W_of (by have := hqR.tm; have := hqR.f1; have := hqR.ft; omega)
        simp only [hw]
        unfold Sep at hqr
        simp
        omega

theorem mayRuns_iff {l : List Rn} : mayRuns l = true ↔ Norm l := by
  unfold mayRuns
  rw [mayFrom_iff (by simp)]
  simp

theorem Rn.has_iff {r : Rn} {d : Dot} : r.has d = true ↔ r.dev = d.dev ∧ r.frm ≤ d.n ∧ d.n ≤ r.to := by
  simp [Rn.has, and_assoc]
theorem hasDot_iff {l : List Rn} {d : Dot} : hasDot l d = true ↔ ∃ r ∈ l, r.dev = d.dev ∧ r.frm ≤ d.n ∧ d.n ≤ r.to := by
  simp [hasDot, Rn.has_iff]
theorem hasDot_nil {d : Dot} : hasDot [] d = false := rfl
theorem hasDot_cons {r : Rn} {l : List Rn} {d : Dot} : hasDot (r :: l) d = (r.has d || hasDot l d) := by simp [hasDot]
theorem hasDot_append {a b : List Rn} {d : Dot} : hasDot (a ++ b) d = (hasDot a d || hasDot b d) := by simp [hasDot]

/-- Runs that have the same dots are the same. -/
theorem Norm.ext : ∀ {a b : List Rn}, Norm a → Norm b → (∀ d, hasDot a d = hasDot b d) → a = b
  | [], [], _, _, _ => rfl
  | [], r :: b, _, hb, h => by
    have := h ⟨r.dev, r.frm⟩
    rw [hasDot_nil, hasDot_cons] at this
    have hr : r.has ⟨r.dev, r.frm⟩ = true := Rn.has_iff.2 ⟨rfl, Int.le_refl _, hb.head.ft⟩
    rw [hr] at this; cases this
  | r :: a, [], ha, _, h => by
    have := h ⟨r.dev, r.frm⟩
    rw [hasDot_nil, hasDot_cons] at this
    have hr : r.has ⟨r.dev, r.frm⟩ = true := Rn.has_iff.2 ⟨rfl, Int.le_refl _, ha.head.ft⟩
    rw [hr] at this; cases this
  | r :: a, q :: b, ha, hb, h => by
    have har := ha.head
    have hbq := hb.head
    have sa := (List.pairwise_cons.1 ha.sep).1
    have sb := (List.pairwise_cons.1 hb.sep).1
    -- what the first run of one begins with the other has, too
    have first : ∀ {r q : Rn} {a b : List Rn}, r.Right → (∀ x ∈ b, Sep q x) → (∀ d, hasDot (r :: a) d = hasDot (q :: b) d) → (∀ x ∈ b, x.Right) → q.Right → q.dev < r.dev ∨ (q.dev = r.dev ∧ q.frm ≤ r.frm) := by
      intro r q a b hr hs h hR hq
      have h1 : hasDot (r :: a) ⟨r.dev, r.frm⟩ = true := hasDot_iff.2 ⟨r, by simp, rfl, Int.le_refl _, hr.ft⟩
      rw [h] at h1
      obtain ⟨x, hx, e1, e2, e3⟩ := hasDot_iff.1 h1
      simp only at e1 e2 e3
      rcases List.mem_cons.1 hx with rfl | hx
      · omega
      · have := hs x hx
        have := hq.ft
        unfold Sep at *
        omega
    have f1 := first (r := r) (q := q) (a := a) (b := b) har sb h hb.tail.right hbq
    have f2 := first (r := q) (q := r) (a := b) (b := a) hbq sa (fun d => (h d).symm) ha.tail.right har
    have hdev : r.dev = q.dev := by omega
    have hfrm : r.frm = q.frm := by omega
    -- and where it ends the other one ends
    have last : ∀ {r q : Rn} {a b : List Rn}, r.Right → (∀ x ∈ a, Sep r x) → (∀ d, hasDot (r :: a) d = hasDot (q :: b) d) → r.dev = q.dev → r.frm = q.frm → q.Right → q.to ≤ r.to := by
      intro r q a b hr hs h hd hf hq
      apply Decidable.byContradiction
      intro hlt
      have h1 : hasDot (q :: b) ⟨r.dev, r.to + 1⟩ = true := hasDot_iff.2 ⟨q, by simp, hd.symm, by have := hr.ft; simp only; omega, by simp only; omega⟩
      rw [← h] at h1
      obtain ⟨x, hx, e1, e2, e3⟩ := hasDot_iff.1 h1
      simp only at e1 e2 e3
      rcases List.mem_cons.1 hx with rfl | hx
      · omega
      · have := hs x hx
        unfold Sep at *
        omega
    have l1 := last (r := r) (q := q) (a := a) (b := b) har sa h hdev hfrm hbq
    have l2 := last (r := q) (q := r) (a := b) (b := a) hbq sb (fun d => (h d).symm) hdev.symm hfrm.symm har
    have hrq : r = q := by
      obtain ⟨x, y, z⟩ := r
      obtain ⟨x', y', z'⟩ := q
      simp only at hdev hfrm l1 l2
      have : z = z' := by omega
      subst hdev; subst hfrm; subst this; rfl
    subst hrq
    have ht : ∀ d, hasDot a d = hasDot b d := by
      intro d
      have hd := h d
      rw [hasDot_cons, hasDot_cons] at hd
      have apart : ∀ {a : List Rn}, (∀ x ∈ a, Sep r x) → r.has d = true → hasDot a d = false := by
        intro a sa hr
        cases hx : hasDot a d with
        | false => rfl
        | true =>
          exfalso
          obtain ⟨x, hx, e1, e2, e3⟩ := hasDot_iff.1 hx
          have := sa x hx
          have := Rn.has_iff.1 hr
          unfold Sep at *
          omega
      cases hr : r.has d with
      | false => simpa [hr] using hd
      | true => rw [apart sa hr, apart sb hr]
    rw [Norm.ext ha.tail hb.tail ht]

end Go.Proofs.Ytfbkolkkpkonfaa.Eng
