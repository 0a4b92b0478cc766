/- The slim code of functions of the seat, as told by the program's form, with marks. No statement of the seat is proved here. -/
import Derived.Test.YtfbkolkkpkonfaaZLitD
import Derived.Test.YtfbkolkkpkonfaaZPartC
import Derived.Test.YtfbkolkkpkonfaaProg
import Derived.Test.YtfbkolkkpkonfaaChecked
namespace Go.Proofs.Ytfbkolkkpkonfaa.Eng
open Go

def l7_List_L0 : ACode := .seq (.seq (.region [⟨some 5, .mv (.t 4), none, false⟩, ⟨some 6, .mv (.t 0), none, false⟩, ⟨some 7, .len (.t 6), none, false⟩, ⟨some 8, .bin .lss (.t 5) (.t 7), none, false⟩] false) (.cond (.t 8) .skip (.exit 0))) (.seq (.block 1 (.region [⟨some 11, .mv (.t 3), none, false⟩, ⟨some 12, .mv (.t 0), none, false⟩, ⟨some 13, .mv (.t 4), none, false⟩, ⟨some 14, .ix 1 (.t 12) (.t 13), none, false⟩, ⟨some 15, .load false 1 (.t 14), none, false⟩, ⟨some 16, .conv .i64 (.t 15), none, false⟩, ⟨some 17, .bin .rem (.t 16) (.k (.c (.int .i64 4))), none, false⟩, ⟨some 18, .mv (.t 0), none, false⟩, ⟨some 19, .mv (.t 4), none, false⟩, ⟨some 20, .ix 1 (.t 18) (.t 19), none, false⟩, ⟨some 21, .load false 1 (.t 20), none, false⟩, ⟨some 22, .conv .i64 (.t 21), none, false⟩, ⟨some 23, .bin .quo (.t 22) (.k (.c (.int .i64 4))), none, false⟩, ⟨some 24, .bin .rem (.t 23) (.k (.c (.int .i64 20))), none, false⟩, ⟨some 25, .bin .add (.k (.c (.int .i64 1))) (.t 24), none, false⟩, ⟨some 26, .build [.int .i64 0, .int .i64 0] [(0, 1, .t 17), (1, 1, .t 25)], none, false⟩, ⟨some 27, .lit 2 [.int .i64 0, .int .i64 0] 1 [(0, .t 26)], none, true⟩, ⟨some 28, .app 2 16 (.t 11) (.t 27), none, false⟩, ⟨some 3, .mv (.t 28), none, false⟩] true)) (.region [⟨some 9, .mv (.t 4), none, false⟩, ⟨some 10, .bin .add (.t 9) (.k (.c (.int .i64 1))), none, false⟩, ⟨some 4, .mv (.t 10), none, false⟩] false))
def l7_List_K1 : ACode := .seq (.region [⟨some 29, .mv (.t 3), none, false⟩, ⟨some 2, .mv (.t 29), none, false⟩] false) .ret
def c_l7_List : AFun := ⟨[.tmp 2], .seq (.region [⟨some 2, .mv (.k (.c .nilS)), none, false⟩] false) (.seq (.region [⟨some 3, .mv (.k (.c .nilS)), none, false⟩] false) (.seq (.seq (.region [⟨some 4, .mv (.k (.c (.int .i64 0))), none, false⟩] false) (.block 0 (.loop l7_List_L0))) l7_List_K1))⟩
theorem is_l7_List : cmpFun Try.prog 17 = some c_l7_List.erase := by kernel_rfl

end Go.Proofs.Ytfbkolkkpkonfaa.Eng
