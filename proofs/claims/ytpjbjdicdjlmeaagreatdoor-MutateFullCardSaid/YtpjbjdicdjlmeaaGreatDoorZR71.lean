/- Contracts of the document's answer: two sets of one device. No statement of the seat is proved here. -/
import Derived.Test.YtpjbjdicdjlmeaaGreatDoorZMix
namespace Go.Proofs.YtpjbjdicdjlmeaaGreatDoor.Eng
open Go
set_option linter.unusedVariables false
set_option linter.unusedSimpArgs false

end Go.Proofs.YtpjbjdicdjlmeaaGreatDoor.Eng
