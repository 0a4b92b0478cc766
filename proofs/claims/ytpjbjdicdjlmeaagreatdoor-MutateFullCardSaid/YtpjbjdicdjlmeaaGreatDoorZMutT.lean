/- What a deed leaves of a state: plain lists, no program. No statement of the seat is proved here. -/
import Derived.Test.YtpjbjdicdjlmeaaGreatDoorZDoT
namespace Go.Proofs.YtpjbjdicdjlmeaaGreatDoor.Eng
open Go
set_option linter.unusedVariables false
set_option linter.unusedSimpArgs false

theorem doL_zero {s : State} {dev : Int} {o : OpR} (hz : (doL s dev o).2 = 0) :
    badOp dev o = false ∧ (makes o && largeF (madeF s dev o)) = false ∧ (doL s dev o).1 = deltaL s dev o ∧ ¬ (goneL s dev o = [] ∧ makes o = false) := by
  unfold doL at hz ⊢
  split at hz
  · cases hz
  split at hz
  · cases hz
  split at hz
  · cases hz
  split at hz
  · cases hz
  rename_i h1 h2 h3 h4
  refine ⟨by simpa using h1, by simpa using h3, ?_, h2⟩
  rw [if_neg h1, if_neg h2, if_neg h3, if_neg h4]
theorem new_dot {s : State} (hs : Good s) (dev : Int) (o : OpR) : hasDot s.seen (madeF s dev o).dot = false := by
  cases hh : hasDot s.seen (madeF s dev o).dot with
  | false => rfl
  | true =>
    have hnew : (madeF s dev o).dot = ⟨dev, lastL s.seen dev + 1⟩ := rfl
    rw [hnew] at hh; have := lastL_none hh; omega
theorem deed_agree {s : State} (hs : Good s) {dev : Int} {o : OpR} : Agree s (deltaL s dev o) := fun f hf g hg e => by
  obtain ⟨_, rfl⟩ := delta_facts.1 hg
  have := hs.has f hf
  rw [e, new_dot hs] at this
  cases this
/-- What is there behind a deed: what did not go, and what was made. -/
theorem deed_facts {s : State} (hs : Good s) {dev : Int} {o : OpR} (hb : badOp dev o = false) (hl : (makes o && largeF (madeF s dev o)) = false) {f : Fact} :
    f ∈ (joinL s (deltaL s dev o)).facts ↔ (f ∈ s.facts ∧ goesF dev o f = false) ∨ (makes o = true ∧ f = madeF s dev o) := by
  have hd := delta_good hs hb hl
  rw [mem_join hs hd (deed_agree hs), delta_seen hs hb hl, delta_facts]
  constructor
  · rintro ⟨h1, h2, h3⟩
    rcases h1 with h1 | ⟨h1, h1'⟩
    · refine .inl ⟨h1, ?_⟩
      cases hg : goesF dev o f with
      | false => rfl
      | true =>
        obtain ⟨_, rfl⟩ := h3 (.inl ⟨f, h1, hg, rfl⟩)
        have := hs.has _ h1
        rw [new_dot hs] at this
        cases this
    · exact .inr ⟨h1, h1'⟩
  · rintro (⟨h1, h2⟩ | ⟨h1, rfl⟩)
    · refine ⟨.inl h1, fun _ => h1, fun h3 => ?_⟩
      rcases h3 with ⟨g, hg, h4, h5⟩ | ⟨_, h5⟩
      · have := asc_uniq hs.asc hg h1 h5
        subst this
        rw [h2] at h4; cases h4
      · have := hs.has f h1
        rw [h5, new_dot hs] at this
        cases this
    · refine ⟨.inr ⟨h1, rfl⟩, fun h => ?_, fun _ => ⟨h1, rfl⟩⟩
      rw [new_dot hs] at h; cases h

end Go.Proofs.YtpjbjdicdjlmeaaGreatDoor.Eng
