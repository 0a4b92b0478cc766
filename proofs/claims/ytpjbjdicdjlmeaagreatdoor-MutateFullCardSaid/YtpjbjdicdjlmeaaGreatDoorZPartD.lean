/- Texts that this claim's proof needs, joined. No statement of the seat is proved here. -/
import Derived.Test.YtpjbjdicdjlmeaaGreatDoorZR71

/- Contracts of the document's answer: two sets together, one without another, a set out of dots, the last dot. No statement of the seat is proved here. -/
namespace Go.Proofs.YtpjbjdicdjlmeaaGreatDoor.Eng
open Go
set_option linter.unusedVariables false
set_option linter.unusedSimpArgs false

theorem marksFrom_step {d : Int} {l pre rest : List Rn} {r : Rn} {m ms : List Int} (h : marksFrom d m (r :: rest) = ms) : marksFrom d (if r.dev = d then insL (r.to + 1) (insL r.frm m) else m) rest = ms := h

end Go.Proofs.YtpjbjdicdjlmeaaGreatDoor.Eng

/- Contracts of the document's answer: two sets together, one without another, a set out of dots, the last dot. No statement of the seat is proved here. -/
namespace Go.Proofs.YtpjbjdicdjlmeaaGreatDoor.Eng
open Go
set_option linter.unusedVariables false
set_option linter.unusedSimpArgs false

end Go.Proofs.YtpjbjdicdjlmeaaGreatDoor.Eng

/- Contracts of the document's answer: a set out of dots, the last dot; both answers' sets are the same. No statement of the seat is proved here. -/
namespace Go.Proofs.YtpjbjdicdjlmeaaGreatDoor.Eng
open Go
set_option linter.unusedVariables false
set_option linter.unusedSimpArgs false

/-- Sets, whoever makes them. -/
def unionL (a b : List Rn) : List Rn := normL (a ++ b)
def diffL (a b : List Rn) : List Rn := normL (minusL a b)
def dotsL (l : List Dot) : List Rn := normL (ofL l)

theorem unionL_ok {a b : List Rn} (ha : ∀ r ∈ a, r.Right) (hb : ∀ r ∈ b, r.Right) : Norm (unionL a b) ∧ ∀ d, hasDot (unionL a b) d = (hasDot a d || hasDot b d) := by
  obtain ⟨h1, h2⟩ := normL_ok (l := a ++ b) (by intro r hr; rcases List.mem_append.1 hr with h | h; exact ha r h; exact hb r h)
  exact ⟨h1, fun d => by unfold unionL; rw [h2, hasDot_append]⟩
theorem unionL_len {a b : List Rn} : (unionL a b).length ≤ a.length + b.length := by
  have := normL_len (a ++ b)
  simpa [unionL] using this
theorem diffL_ok {a b : List Rn} (ha : Norm a) (hb : ∀ r ∈ b, r.Right) : Norm (diffL a b) ∧ (diffL a b).length ≤ a.length + b.length ∧ ∀ d, hasDot (diffL a b) d = (hasDot a d && !hasDot b d) := by
  obtain ⟨h1, h2, h3⟩ := minusL_ok ha hb
  obtain ⟨h4, h5⟩ := normL_ok h1.right
  have := normL_len (minusL a b)
  exact ⟨h4, by unfold diffL; omega, fun d => by unfold diffL; rw [h5, h3]⟩
theorem hasDot_ofL {l : List Dot} {d : Dot} : hasDot (ofL l) d = (decide (d ∈ l) && (ofDot d).right) := by
  rw [Bool.eq_iff_iff, hasDot_iff]
  simp only [ofL, Bool.and_eq_true, decide_eq_true_eq, List.mem_filter, List.mem_map]
  constructor
  · rintro ⟨r, ⟨⟨x, hx, rfl⟩, hr⟩, h1, h2, h3⟩
    obtain ⟨xd, xn⟩ := x
    obtain ⟨dd, dn⟩ := d
    simp only [ofDot] at *
    have : xn = dn := by omega
    subst h1; subst this
    exact ⟨hx, hr⟩
  · rintro ⟨h1, h2⟩
    exact ⟨ofDot d, ⟨⟨d, h1, rfl⟩, h2⟩, rfl, Int.le_refl _, Int.le_refl _⟩
theorem dotsL_ok (l : List Dot) : Norm (dotsL l) ∧ ∀ d, hasDot (dotsL l) d = (decide (d ∈ l) && (ofDot d).right) := by
  obtain ⟨h1, h2⟩ := normL_ok (l := ofL l) ofL_right
  exact ⟨h1, fun d => by unfold dotsL; rw [h2, hasDot_ofL]⟩
theorem dotsL_len (l : List Dot) : (dotsL l).length ≤ l.length := Nat.le_trans (normL_len _) (ofL_len l)

theorem setR_union {a b : List Rn} (ha : ∀ r ∈ a, r.Right) (hb : ∀ r ∈ b, r.Right) : setR a b false = unionL a b := by
  obtain ⟨h1, h2⟩ := setR_ok ha hb false
  obtain ⟨h3, h4⟩ := unionL_ok ha hb
  exact h1.ext h3 fun d => by rw [h2, h4]; simp
theorem setR_diff {a b : List Rn} (ha : Norm a) (hb : ∀ r ∈ b, r.Right) : setR a b true = diffL a b := by
  obtain ⟨h1, h2⟩ := setR_ok ha.right hb true
  obtain ⟨h3, _, h4⟩ := diffL_ok ha hb
  exact h1.ext h3 fun d => by rw [h2, h4]; simp

end Go.Proofs.YtpjbjdicdjlmeaaGreatDoor.Eng
