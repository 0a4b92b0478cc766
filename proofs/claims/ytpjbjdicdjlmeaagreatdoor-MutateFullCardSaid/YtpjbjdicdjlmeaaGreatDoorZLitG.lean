/- The slim code of functions of the seat, as told by the program's form, with marks. No statement of the seat is proved here. -/
import Derived.Test.YtpjbjdicdjlmeaaGreatDoorZLitD
import Derived.Test.YtpjbjdicdjlmeaaGreatDoorZPartC
import Derived.Test.YtpjbjdicdjlmeaaGreatDoorProg
import Derived.Test.YtpjbjdicdjlmeaaGreatDoorChecked
namespace Go.Proofs.YtpjbjdicdjlmeaaGreatDoor.Eng
open Go

def c_facts_Cmp : AFun := ⟨[.tmp 4], .seq (.region [⟨some 2, .box (.t 0), none, true⟩, ⟨some 3, .box (.t 1), none, true⟩, ⟨some 4, .mv (.k (.c (.int .i64 0))), none, false⟩] false) (.seq (.region [⟨some 5, .fld 0 (.t 2), none, false⟩, ⟨some 6, .load false 1 (.t 5), none, false⟩, ⟨some 7, .fld 0 (.t 3), none, false⟩, ⟨some 8, .load false 1 (.t 7), none, false⟩, ⟨some 9, .call (.f 44) [.t 6, .t 8], none, false⟩, ⟨some 10, .fld 1 (.t 2), none, false⟩, ⟨some 11, .load false 1 (.t 10), none, false⟩, ⟨some 12, .fld 1 (.t 3), none, false⟩, ⟨some 13, .load false 1 (.t 12), none, false⟩, ⟨some 14, .call (.f 44) [.t 11, .t 13], none, false⟩, ⟨some 15, .lit 1 [.int .i64 0] 2 [(0, .t 9), (1, .t 14)], none, true⟩, ⟨some 16, .call (.f 43) [.t 15], none, false⟩, ⟨some 4, .mv (.t 16), none, false⟩] true) .ret)⟩
theorem is_facts_Cmp : cmpFun Tryz.prog 34 = some c_facts_Cmp.erase := by kernel_rfl

end Go.Proofs.YtpjbjdicdjlmeaaGreatDoor.Eng
