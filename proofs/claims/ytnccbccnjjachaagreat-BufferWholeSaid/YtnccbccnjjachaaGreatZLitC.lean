/- The slim code of functions of the seat, as told by the program's form, with marks. No statement of the seat is proved here. -/
import Derived.Test.YtnccbccnjjachaaGreatZPartC
import Derived.Test.YtnccbccnjjachaaGreatProg
import Derived.Test.YtnccbccnjjachaaGreatChecked
namespace Go.Proofs.YtnccbccnjjachaaGreat.Eng
open Go

def c_slices_Clone_State : AFun := ⟨[.tmp 2], .seq (.region [⟨some 2, .mv (.k (.c .nilS)), none, false⟩] false) (.seq (.seq (.region [⟨some 3, .mv (.t 0), none, false⟩, ⟨some 4, .eqNil true false (.t 3) (.k (.c .nilS)), none, false⟩] false) (.cond (.t 4) (.seq (.region [⟨some 2, .mv (.k (.c .nilS)), none, false⟩] false) .ret) .skip)) (.seq (.region [⟨some 5, .lit 2 [.nilS, .nilS] 0 [], none, true⟩, ⟨some 6, .mv (.t 0), none, false⟩, ⟨some 7, .appZ 2 48 (.t 5) (.t 6), none, false⟩, ⟨some 2, .mv (.t 7), none, false⟩] false) .ret))⟩
theorem is_slices_Clone_State : cmpFun Tryz.prog 16 = some c_slices_Clone_State.erase := by kernel_rfl

def c_slices_Clone_Fact : AFun := ⟨[.tmp 2], .seq (.region [⟨some 2, .mv (.k (.c .nilS)), none, false⟩] false) (.seq (.seq (.region [⟨some 3, .mv (.t 0), none, false⟩, ⟨some 4, .eqNil true false (.t 3) (.k (.c .nilS)), none, false⟩] false) (.cond (.t 4) (.seq (.region [⟨some 2, .mv (.k (.c .nilS)), none, false⟩] false) .ret) .skip)) (.seq (.region [⟨some 5, .lit 6 [.int .i64 0, .int .i64 0, .str ⟨#[]⟩, .int .i64 0, .str ⟨#[]⟩, .int .i64 0] 0 [], none, true⟩, ⟨some 6, .mv (.t 0), none, false⟩, ⟨some 7, .appZ 6 64 (.t 5) (.t 6), none, false⟩, ⟨some 2, .mv (.t 7), none, false⟩] false) .ret))⟩
theorem is_slices_Clone_Fact : cmpFun Tryz.prog 31 = some c_slices_Clone_Fact.erase := by kernel_rfl

def buffer_copied_L0 : ACode := .seq (.region [⟨some 11, .bin .lss (.t 10) (.t 9), none, false⟩] false) (.seq (.cond (.t 11) .skip (.exit 0)) (.seq (.block 1 (.seq (.region [⟨some 12, .mv (.t 10), none, false⟩, ⟨some 13, .ix 2 (.t 8) (.t 10), none, false⟩, ⟨some 14, .load true 2 (.t 13), none, false⟩, ⟨some 5, .new [.nilS, .nilS], none, false⟩, ⟨some 4, .mv (.t 12), none, false⟩, ⟨none, .store 2 (.t 5) (.t 14), none, false⟩] false) (.region [⟨some 15, .mv (.t 3), none, false⟩, ⟨some 16, .mv (.t 4), none, false⟩, ⟨some 17, .fld 0 (.t 5), none, false⟩, ⟨some 18, .load false 1 (.t 17), none, false⟩, ⟨some 19, .call (.f 30) [.t 18], none, false⟩, ⟨some 20, .fld 1 (.t 5), none, false⟩, ⟨some 21, .load false 1 (.t 20), none, false⟩, ⟨some 22, .call (.f 31) [.t 21], none, false⟩, ⟨some 23, .build [.nilS, .nilS] [(0, 1, .t 19), (1, 1, .t 22)], none, false⟩, ⟨some 24, .ix 2 (.t 15) (.t 16), none, false⟩, ⟨none, .store 2 (.t 24) (.t 23), none, false⟩] true))) (.region [⟨some 25, .bin .add (.t 10) (.k (.c (.int .i64 1))), none, false⟩, ⟨some 10, .mv (.t 25), none, false⟩] false)))
def buffer_copied_K1 : ACode := .seq (.region [⟨some 26, .mv (.t 3), none, false⟩, ⟨some 2, .mv (.t 26), none, false⟩] false) .ret
def c_buffer_copied : AFun := ⟨[.tmp 2], .seq (.region [⟨some 2, .mv (.k (.c .nilS)), none, false⟩] false) (.seq (.region [⟨some 6, .mv (.t 0), none, false⟩, ⟨some 7, .call (.f 16) [.t 6], none, false⟩, ⟨some 3, .mv (.t 7), none, false⟩] false) (.seq (.seq (.region [⟨some 8, .mv (.t 3), none, false⟩, ⟨some 9, .len (.t 8), none, false⟩, ⟨some 10, .mv (.k (.c (.int .i64 0))), none, false⟩] false) (.block 0 (.loop buffer_copied_L0))) buffer_copied_K1))⟩
theorem is_buffer_copied : cmpFun Tryz.prog 15 = some c_buffer_copied.erase := by kernel_rfl

end Go.Proofs.YtnccbccnjjachaaGreat.Eng
