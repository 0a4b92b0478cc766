/- Copies of a text, for a seat that lacks the library's Repeat. No statement of the seat is proved here. -/
import Derived.Test.YtpjbjdicdjlmeaaDoorZPrB
import Derived.Lib.Repeat
namespace Go.Proofs.YtpjbjdicdjlmeaaDoor.Eng
open Go
set_option linter.unusedVariables false
set_option linter.unusedSimpArgs false

/-- So many copies of a text. -/
def repS (s : ByteArray) (c : Nat) : ByteArray := ⟨(Go.Lib.repeatL s.data.toList c).toArray⟩
theorem repS_size (s : ByteArray) (c : Nat) : (repS s c).size = c * s.size := by
  show (Go.Lib.repeatL s.data.toList c).toArray.size = _
  rw [List.size_toArray, Go.Lib.repeatL_length]
  rfl

end Go.Proofs.YtpjbjdicdjlmeaaDoor.Eng
