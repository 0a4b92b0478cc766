/- How dots stand. No statement of the seat is proved here. -/
import Derived.Test.YtpjbjdicdjlmeaaGreatDoorZDots1
namespace Go.Proofs.YtpjbjdicdjlmeaaGreatDoor.Eng
open Go
set_option linter.unusedVariables false
set_option linter.unusedSimpArgs false

def Fact.dot (f : Fact) : Dot := ⟨f.dev, f.n⟩
def cmpDot (a b : Dot) : Int := if cmpInt a.dev b.dev = 0 then cmpInt a.n b.n else cmpInt a.dev b.dev
def atD (l : List Fact) (d : Dot) : Bool := l.any fun f => decide (f.dot = d)

/-- A client's deed. -/
structure OpR where
  kind : Int
  key : ByteArray
  item : ByteArray
  n : Int
  deriving DecidableEq, Inhabited
def OpR.cells (o : OpR) : List Cell := [.int .i64 o.kind, .str o.key, .str o.item, .int .i64 o.n]
attribute [go_sem] OpR.cells
/-- Whether a fact goes by a deed of a device. -/
def goesF (dev : Int) (o : OpR) (f : Fact) : Bool :=
  decide (f.key = o.key) && (if o.kind = 1 then decide (f.kind = 1) else if o.kind = 2 ∨ o.kind = 3 then decide (f.kind = 2) && decide (f.item = o.item)
    else if o.kind = 4 then decide (f.kind = 3) && decide (f.dev = dev) else true)

end Go.Proofs.YtpjbjdicdjlmeaaGreatDoor.Eng
