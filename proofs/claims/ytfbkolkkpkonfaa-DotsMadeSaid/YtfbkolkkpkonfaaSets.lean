/- Sets of dots: what has no dot is empty; a set of one dot. No statement of the seat is proved here. -/
import Derived.Test.YtfbkolkkpkonfaaLists
import Derived.Test.YtfbkolkkpkonfaaLitM
namespace Go.Proofs.Ytfbkolkkpkonfaa.Eng
open Go
set_option linter.unusedVariables false
set_option linter.unusedSimpArgs false

theorem Norm.empty {l : List Rn} (h : Norm l) (he : ∀ d, hasDot l d = false) : l = [] := h.ext .nil fun d => by rw [he]; rfl
theorem ix_one2 (x : List Cell) (H : Heap) : vIx 2 (.c (.lst 2 [x])) (iC 0) H = some (.c (.fp x 0), H) := rfl
theorem row_only {sz : Nat} {r : List Cell} : Heap.row [{ sz := sz, rows := [r] }] 0 0 = some r := rfl
theorem mine_only {sz : Nat} {r : List Cell} : Heap.mine [{ sz := sz, rows := [r] }] 0 = true := rfl
theorem put_only {sz : Nat} {r q : List Cell} : Heap.put [{ sz := sz, rows := [r] }] 0 0 q = [{ sz := sz, rows := [q] }] := rfl
theorem hasDot_one {e d : Dot} (he : (ofDot e).right = true) : hasDot (dotsL [e]) d = decide (d = e) := by
  rw [(dotsL_ok [e]).2]
  by_cases h : d = e
  · subst h; simp [he]
  · simp [h]

end Go.Proofs.Ytfbkolkkpkonfaa.Eng
