/- The slim code of functions of the seat, as told by the program's form, with marks. No statement of the seat is proved here. -/
import Derived.Test.YtpjbjdicdjlmeaaGreatDoorZPartC
import Derived.Test.YtpjbjdicdjlmeaaGreatDoorProg
import Derived.Test.YtpjbjdicdjlmeaaGreatDoorChecked
namespace Go.Proofs.YtpjbjdicdjlmeaaGreatDoor.Eng
open Go

end Go.Proofs.YtpjbjdicdjlmeaaGreatDoor.Eng
