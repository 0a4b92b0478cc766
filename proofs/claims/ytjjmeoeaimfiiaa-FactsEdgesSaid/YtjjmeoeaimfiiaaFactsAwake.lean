/- The closed example of the laws of facts. No statement of the seat is proved here. -/
import Derived.Test.YtjjmeoeaimfiiaaLitF
namespace Go.Proofs.Ytjjmeoeaimfiiaa.Eng
open Go
set_option linter.unusedVariables false

def resBool (r : Option (AVal × Heap)) : Option Bool := match r with | some (.c (.bool b), _) => some b | _ => none

theorem wcall_bool {n f : Nat} {args : List AVal} {b : Bool} (h : resBool ((runN T n).1 f args []) = some b) (ha : plainAs args = true) {H : Heap} {R : AVal → Heap → Prop} (hR : R (.c (.bool b)) H) : WCall G f args H R := by
  refine wcall_any mixed ?_ ha rfl hR
  unfold resBool at h
  split at h
  · rename_i b' H' hr
    injection h with h; subst h
    exact wcall_run T_ok n hr rfl
  · cases h

theorem awakeF_ok {H : Heap} {R : AVal → Heap → Prop} (h : R (.c (.bool true)) H) : WCall G 14 [] H R :=
  wcall_bool (n := 40) (by kernel_rfl) rfl h

end Go.Proofs.Ytjjmeoeaimfiiaa.Eng
