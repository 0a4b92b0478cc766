/- Contracts of the document's answer: all states as one, a deed. No statement of the seat is proved here. -/
import Derived.Test.YtpjbjdicdjlmeaaGreatDoorZJoinR1
import Derived.Test.YtpjbjdicdjlmeaaGreatDoorZDoT
import Derived.Test.YtpjbjdicdjlmeaaGreatDoorZKeep
namespace Go.Proofs.YtpjbjdicdjlmeaaGreatDoor.Eng
open Go
set_option linter.unusedVariables false
set_option linter.unusedSimpArgs false

/-! ### All states as one -/
def allL (l : List State) : State := l.foldl joinL ⟨[], []⟩
theorem joinL_len {a b : State} : (joinL a b).seen.length ≤ a.seen.length + b.seen.length ∧ (joinL a b).facts.length ≤ a.facts.length + b.facts.length := ⟨unionL_len, joinF_len⟩

theorem told_S (H : Heap) (s : State) : viewW H (.agg s.cells) (.agg s.cells) := ⟨_, by simp [viewA, viewFn, viewC, viewFs, viewCs, viewAs, closedC, closedCs, State.cells, runsC, factsC, closed_runs, closed_facts], .same _⟩

/-- A state's cells, where what is empty may be nil. -/
structure SC (c d : Cell) (s : State) : Prop where
  h1 : c = runsC s.seen ∨ (c = .nilS ∧ s.seen = [])
  h2 : d = factsC s.facts ∨ (d = .nilS ∧ s.facts = [])
theorem SC.nil : SC .nilS .nilS ⟨[], []⟩ := ⟨.inr ⟨rfl, rfl⟩, .inr ⟨rfl, rfl⟩⟩
theorem SC.same (s : State) : SC (runsC s.seen) (factsC s.facts) s := ⟨.inl rfl, .inl rfl⟩
theorem SC.wk {c d : Cell} {s : State} (h : SC c d s) : WkA (.agg [c, d]) (.agg s.cells) := by
  refine .agg (.cons ?_ (.cons ?_ .nil))
  · rcases h.h1 with h | ⟨h, h'⟩
    · rw [h]; exact .same _
    · rw [h, h']; exact .nilS _
  · rcases h.h2 with h | ⟨h, h'⟩
    · rw [h]; exact .same _
    · rw [h, h']; exact .nilS _
theorem SC.told {c d : Cell} {s : State} {H : Heap} (h : SC c d s) : viewW H (.agg [c, d]) (.agg s.cells) := by
  refine ⟨.agg [c, d], ?_, h.wk⟩
  rcases h.h1 with h1 | ⟨h1, _⟩ <;> rcases h.h2 with h2 | ⟨h2, _⟩ <;> (rw [h1, h2]; simp [viewA, viewFn, viewC, viewFs, viewCs, viewAs, closedC, closedCs, runsC, factsC, closed_runs, closed_facts])

end Go.Proofs.YtpjbjdicdjlmeaaGreatDoor.Eng
