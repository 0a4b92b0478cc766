/- Contracts of the document's answer: whether a dot has a fact, what goes by a deed, deeds by numbers. No statement of the seat is proved here. -/
import Derived.Test.YtpjbjdicdjlmeaaGreatDoorZFactB
import Derived.Test.YtpjbjdicdjlmeaaGreatDoorZLitJ
namespace Go.Proofs.YtpjbjdicdjlmeaaGreatDoor.Eng
open Go
set_option linter.unusedVariables false
set_option linter.unusedSimpArgs false

theorem wrap8 {n : Int} (h : 0 ≤ n ∧ n ≤ 255) : IntKind.wrap .u8 n = n := by
  simp [IntKind.wrap, IntKind.bits, IntKind.signed]; omega
/-- A text of one byte. -/
def one8 (n : Nat) : ByteArray := ⟨#[n.toUInt8]⟩
theorem vB2s_one {n : Nat} {H : Heap} : vB2s (.c (.lst 1 [[.int .u8 (n : Int)]])) H = some (.c (.str (one8 n)), H) := by
  simp [vB2s, fitsSz, Heap.rowsOf, takeBytes, one8]
def opOf (a b : Nat) : OpR := ⟨1 + ((a % 5 : Nat) : Int), one8 (107 + a / 5 % 3), one8 (97 + b % 5), (b : Int) - 100⟩

end Go.Proofs.YtpjbjdicdjlmeaaGreatDoor.Eng
