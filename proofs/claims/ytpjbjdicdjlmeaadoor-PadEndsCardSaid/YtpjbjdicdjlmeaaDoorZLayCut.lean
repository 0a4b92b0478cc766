/- The kit's contract of a library function laid at the seat's program, in plain words. No statement of the seat is proved here. -/
import Derived.Shelf.Small.Wraps
import Derived.KernelRfl
import Derived.Test.YtpjbjdicdjlmeaaDoorProg
import Derived.Test.YtpjbjdicdjlmeaaDoorChecked
namespace Go.Proofs.YtpjbjdicdjlmeaaDoor.Eng
open Go Go.Shelf

def layCut_ren : Go.Shelf.Ren := ⟨fun | 104 => 9 | 211 => 11 | 207 => 16 | n => n, fun | 9 => 9 | 4 => 4 | 24 => 27 | 3 => 3 | n => n, fun | n => n⟩
theorem layCut : Go.Proofs.Lays.n104 Tryd.prog layCut_ren := {
  mixed := by kernel_rfl
  f104 := Tryd.func9.trans (congrArg some (by kernel_rfl))
  f207 := Tryd.func16.trans (congrArg some (by kernel_rfl))
  f211 := Tryd.func11.trans (congrArg some (by kernel_rfl))
  t3 := Tryd.underlying3
  a3 := Tryd.isAgg3
  z3 := Tryd.sizeOf3
  v3 := Tryd.zeroValue3
  t4 := Tryd.underlying4
  a4 := Tryd.isAgg4
  z4 := Tryd.sizeOf4
  v4 := Tryd.zeroValue4
  t9 := Tryd.underlying9
  a9 := Tryd.isAgg9
  z9 := Tryd.sizeOf9
  v9 := Tryd.zeroValue9
  t24 := Tryd.underlying27
  a24 := Tryd.isAgg27
  z24 := Tryd.sizeOf27
  v24 := Tryd.zeroValue27 }

end Go.Proofs.YtpjbjdicdjlmeaaDoor.Eng
