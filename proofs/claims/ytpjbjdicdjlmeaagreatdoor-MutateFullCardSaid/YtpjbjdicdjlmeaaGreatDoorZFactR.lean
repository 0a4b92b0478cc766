/- Facts and states that may be: plain. No statement of the seat is proved here. -/
import Derived.Test.YtpjbjdicdjlmeaaGreatDoorZFactD
namespace Go.Proofs.YtpjbjdicdjlmeaaGreatDoor.Eng
open Go
set_option linter.unusedVariables false
set_option linter.unusedSimpArgs false

abbrev emptyB : ByteArray := ⟨#[]⟩
def Fact.right (f : Fact) : Bool :=
  decide ((f.key.size : Int) ≤ 40) && (if f.kind = 1 ∨ f.kind = 2 then decide ((f.item.size : Int) ≤ 200) && decide (f.num = 0)
  else if f.kind = 3 then decide (f.item = emptyB) && decide (-1099511627776 ≤ f.num) && decide (f.num ≤ 1099511627776)
  else false)

/-- Whether facts may stand so behind the fact 'p', in a state that has seen 'seen'. -/
def factsFrom (seen : List Rn) (p : Option Fact) : List Fact → Bool
  | [] => true
  | f :: rest => f.right && hasDot seen f.dot && (match p with | none => true | some q => decide (cmpDot q.dot f.dot < 0)) && factsFrom seen (some f) rest
def mayState (s : State) : Bool := mayRuns s.seen && decide ((s.facts.length : Int) ≤ 400) && factsFrom s.seen none s.facts

end Go.Proofs.YtpjbjdicdjlmeaaGreatDoor.Eng
