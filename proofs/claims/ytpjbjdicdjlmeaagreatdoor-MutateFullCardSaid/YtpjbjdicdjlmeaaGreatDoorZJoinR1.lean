/- Contracts of the document's answer: two states as one. No statement of the seat is proved here. -/
import Derived.Test.YtpjbjdicdjlmeaaGreatDoorZJoinR0
import Derived.Test.YtpjbjdicdjlmeaaGreatDoorZJoinT
namespace Go.Proofs.YtpjbjdicdjlmeaaGreatDoor.Eng
open Go
set_option linter.unusedVariables false
set_option linter.unusedSimpArgs false

theorem told_state {H : Heap} {s : List Rn} {l : List Fact} {c : Cell} (h : Acc 6 (l.map Fact.cells) (.c c) H) : viewW H (.agg [runsC s, c]) (.agg (State.cells ⟨s, l⟩)) := by
  rcases h with ⟨h0, h1⟩ | ⟨b, ext, h1, h2⟩
  · have : l = [] := by simpa using h0
    subst this
    rcases h1 with h1 | h1 <;> (injection h1 with h1; subst h1)
    · exact ⟨.agg [runsC s, .nilS], by simp [viewA, viewFn, viewC, viewFs, viewCs, viewAs, closedC, closedCs, runsC, closed_runs], .agg (.cons (.same _) (.cons (.nilS _) .nil))⟩
    · exact ⟨.agg [runsC s, .zer 6], by simp [viewA, viewFn, viewC, viewFs, viewCs, viewAs, closedC, closedCs, runsC, closed_runs], .agg (.cons (.same _) (.cons (.zer _) .nil))⟩
  · injection h1 with h1
    subst h1
    refine ⟨.agg (State.cells ⟨s, l⟩), ?_, .same _⟩
    by_cases h0 : l.length = 0
    · have : l = [] := List.eq_nil_of_length_eq_zero h0
      subst this
      simp [viewA, viewFn, viewC, viewFs, viewCs, viewAs, closedC, closedCs, runsC, closed_runs, State.cells, factsC]
    · simp [viewA, viewFn, viewC, viewFs, viewCs, viewAs, closedC, closedCs, runsC, closed_runs, State.cells, factsC, h0, h2, closed_facts]

end Go.Proofs.YtpjbjdicdjlmeaaGreatDoor.Eng
