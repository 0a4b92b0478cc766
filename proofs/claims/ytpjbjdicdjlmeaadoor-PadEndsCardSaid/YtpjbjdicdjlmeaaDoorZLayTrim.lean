/- The kit's contract of a library function laid at the seat's program, in plain words. No statement of the seat is proved here. -/
import Derived.Shelf.Strings.Trim
import Derived.KernelRfl
import Derived.Test.YtpjbjdicdjlmeaaDoorProg
import Derived.Test.YtpjbjdicdjlmeaaDoorChecked
namespace Go.Proofs.YtpjbjdicdjlmeaaDoor.Eng
open Go Go.Shelf

def layTrim_ren : Go.Shelf.Ren := ⟨fun | 162 => 10 | 232 => 12 | 227 => 13 | 234 => 14 | 236 => 15 | 228 => 17 | 271 => 18 | 151 => 19 | 120 => 20 | 197 => 21 | 152 => 22 | 260 => 23 | 137 => 24 | 119 => 25 | 224 => 26 | 225 => 27 | 217 => 28 | 266 => 29 | n => n, fun | 9 => 9 | 4 => 4 | 3 => 3 | 5 => 5 | 117 => 37 | 116 => 36 | 0 => 0 | 124 => 40 | 21 => 21 | 105 => 43 | 46 => 49 | 119 => 51 | 139 => 54 | 138 => 53 | n => n, fun | 3 => 0 | 4 => 1 | n => n⟩
theorem layTrim : Go.Proofs.Lays.n162 Tryd.prog layTrim_ren := {
  mixed := by kernel_rfl
  f119 := Tryd.func25.trans (congrArg some (by kernel_rfl))
  f120 := Tryd.func20.trans (congrArg some (by kernel_rfl))
  f137 := Tryd.func24.trans (congrArg some (by kernel_rfl))
  f151 := Tryd.func19.trans (congrArg some (by kernel_rfl))
  f152 := Tryd.func22.trans (congrArg some (by kernel_rfl))
  f162 := Tryd.func10.trans (congrArg some (by kernel_rfl))
  f197 := Tryd.func21.trans (congrArg some (by kernel_rfl))
  f217 := Tryd.func28.trans (congrArg some (by kernel_rfl))
  f224 := Tryd.func26.trans (congrArg some (by kernel_rfl))
  f225 := Tryd.func27.trans (congrArg some (by kernel_rfl))
  f227 := Tryd.func13.trans (congrArg some (by kernel_rfl))
  f228 := Tryd.func17.trans (congrArg some (by kernel_rfl))
  f232 := Tryd.func12.trans (congrArg some (by kernel_rfl))
  f234 := Tryd.func14.trans (congrArg some (by kernel_rfl))
  f236 := Tryd.func15.trans (congrArg some (by kernel_rfl))
  f260 := Tryd.func23.trans (congrArg some (by kernel_rfl))
  f266 := Tryd.func29.trans (congrArg some (by kernel_rfl))
  f271 := Tryd.func18.trans (congrArg some (by kernel_rfl))
  t0 := Tryd.underlying0
  a0 := Tryd.isAgg0
  z0 := Tryd.sizeOf0
  v0 := Tryd.zeroValue0
  t3 := Tryd.underlying3
  a3 := Tryd.isAgg3
  z3 := Tryd.sizeOf3
  v3 := Tryd.zeroValue3
  t4 := Tryd.underlying4
  a4 := Tryd.isAgg4
  z4 := Tryd.sizeOf4
  v4 := Tryd.zeroValue4
  t5 := Tryd.underlying5
  a5 := Tryd.isAgg5
  z5 := Tryd.sizeOf5
  v5 := Tryd.zeroValue5
  t9 := Tryd.underlying9
  a9 := Tryd.isAgg9
  z9 := Tryd.sizeOf9
  v9 := Tryd.zeroValue9
  t21 := Tryd.underlying21
  a21 := Tryd.isAgg21
  z21 := Tryd.sizeOf21
  v21 := Tryd.zeroValue21
  t46 := Tryd.underlying49
  a46 := Tryd.isAgg49
  z46 := Tryd.sizeOf49
  v46 := Tryd.zeroValue49
  t105 := Tryd.underlying43
  a105 := Tryd.isAgg43
  z105 := Tryd.sizeOf43
  v105 := Tryd.zeroValue43
  t116 := Tryd.underlying36
  a116 := Tryd.isAgg36
  z116 := Tryd.sizeOf36
  t117 := Tryd.underlying37
  a117 := Tryd.isAgg37
  z117 := Tryd.sizeOf37
  v117 := Tryd.zeroValue37
  t119 := Tryd.underlying51
  a119 := Tryd.isAgg51
  z119 := Tryd.sizeOf51
  t124 := Tryd.underlying40
  a124 := Tryd.isAgg40
  z124 := Tryd.sizeOf40
  v124 := Tryd.zeroValue40
  t138 := Tryd.underlying53
  a138 := Tryd.isAgg53
  z138 := Tryd.sizeOf53
  v138 := Tryd.zeroValue53
  t139 := Tryd.underlying54
  a139 := Tryd.isAgg54
  z139 := Tryd.sizeOf54
  v139 := Tryd.zeroValue54
  g3 := by kernel_rfl
  g4 := by kernel_rfl }

end Go.Proofs.YtpjbjdicdjlmeaaDoor.Eng
