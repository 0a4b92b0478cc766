/- Words for contracts at this seat's program. No statement of the seat is proved here. -/
import Derived.Test.YtpjbjdicdjlmeaaDoorZDat
import Derived.Test.YtpjbjdicdjlmeaaDoorProg
import Derived.Test.YtpjbjdicdjlmeaaDoorChecked
namespace Go.Proofs.YtpjbjdicdjlmeaaDoor.Eng
open Go

theorem mixed : Tryd.prog.follows .mixedOrders = true := Checked.mixed Tryd.checked
abbrev Pr (f : Nat) (args : List AVal) (v : AVal) : Prop := Pure Tryd.prog f args v

end Go.Proofs.YtpjbjdicdjlmeaaDoor.Eng
