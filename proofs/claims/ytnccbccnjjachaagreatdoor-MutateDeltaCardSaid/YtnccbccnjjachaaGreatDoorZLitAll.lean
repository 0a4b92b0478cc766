/- The slim code of functions of the seat, as told by the program's form, with marks. No statement of the seat is proved here. -/
import Derived.Test.YtnccbccnjjachaaGreatDoorZLitD
import Derived.Test.YtnccbccnjjachaaGreatDoorZPartC
import Derived.Test.YtnccbccnjjachaaGreatDoorProg
import Derived.Test.YtnccbccnjjachaaGreatDoorChecked
namespace Go.Proofs.YtnccbccnjjachaaGreatDoor.Eng
open Go

def r7_All_L0 : ACode := .seq (.seq (.region [⟨some 5, .mv (.t 4), none, false⟩, ⟨some 6, .mv (.t 0), none, false⟩, ⟨some 7, .len (.t 6), none, false⟩, ⟨some 8, .bin .lss (.t 5) (.t 7), none, false⟩] false) (.cond (.t 8) .skip (.exit 0))) (.seq (.block 1 (.region [⟨some 11, .load true 2 (.t 3), none, false⟩, ⟨some 12, .mv (.t 0), none, false⟩, ⟨some 13, .mv (.t 4), none, false⟩, ⟨some 14, .ix 2 (.t 12) (.t 13), none, false⟩, ⟨some 15, .load true 2 (.t 14), none, false⟩, ⟨some 16, .call (.f 23) [.t 11, .t 15], none, false⟩, ⟨none, .store 2 (.t 3) (.t 16), none, false⟩] true)) (.region [⟨some 9, .mv (.t 4), none, false⟩, ⟨some 10, .bin .add (.t 9) (.k (.c (.int .i64 1))), none, false⟩, ⟨some 4, .mv (.t 10), none, false⟩] false))
def r7_All_K1 : ACode := .seq (.region [⟨some 17, .load true 2 (.t 3), none, false⟩, ⟨none, .store 2 (.t 2) (.t 17), none, false⟩] false) .ret
def c_r7_All : AFun := ⟨[.cell 2 true 2], .seq (.region [⟨some 2, .new [.nilS, .nilS], none, false⟩] false) (.seq (.region [⟨some 3, .new [.nilS, .nilS], none, false⟩] false) (.seq (.seq (.region [⟨some 4, .mv (.k (.c (.int .i64 0))), none, false⟩] false) (.block 0 (.loop r7_All_L0))) r7_All_K1))⟩
theorem is_r7_All : cmpFun Tryz.prog 19 = some c_r7_All.erase := by kernel_rfl

end Go.Proofs.YtnccbccnjjachaaGreatDoor.Eng
