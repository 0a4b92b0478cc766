/- Lists of numbers as slices. No statement of the seat is proved here. -/
import Derived.Test.YtpjbjdicdjlmeaaGreatDoorZPartC
namespace Go.Proofs.YtpjbjdicdjlmeaaGreatDoor.Eng
open Go
set_option linter.unusedVariables false
set_option linter.unusedSimpArgs false

def iRow (n : Int) : List Cell := [.int .i64 n]
def intsC (l : List Int) : Cell := .lst 1 (l.map iRow)
theorem closed_ints (l : List Int) : closedR (l.map iRow) = true := closedR_map (fun _ => rfl) l
theorem closed_intsC (l : List Int) : closedC (intsC l) = true := closed_ints l
theorem told_ints (H : Heap) (l : List Int) : viewW H (.c (intsC l)) (.c (intsC l)) := ⟨_, by simp only [viewA, viewFn, intsC, viewC, closedC, closed_ints, if_true], .same _⟩

end Go.Proofs.YtpjbjdicdjlmeaaGreatDoor.Eng
