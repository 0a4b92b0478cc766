/- Parts of this claim's proof, joined. No statement of the seat is proved here. -/
import Derived.Test.YticmfblfghdkbaaGreatDoorW15
set_option linter.unusedVariables false
set_option linter.unusedSimpArgs false
namespace Go.Proofs.YticmfblfghdkbaaGreatDoor.Eng
open Go
def Zi6 : ACode := .seq (.region [ibt 56 .lss 55 54] false) (.seq (.cond (.t 56) .skip (.exit 2)) (.seq (.block 3 (.seq (.region [im 57 55,im 14 57] false) (.region [im 58 10,im 59 13,im 60 14,ibt 61 .add 59 60,im 62 3,im 63 13,im 64 14,ibt 65 .add 63 64,ixx 66 1 62 65,il 67 66,im 68 14,ii 69 (.ixA 64 1 (.t 12) (.t 68)),il 70 69,ibt 71 .xor 67 70,ixx 72 1 58 61,ie (.store 1 (.t 72) (.t 71))] true))) (.region [ii 73 (.bin .add (.t 55) (ki 1)),im 55 73] false)))
def Zlw : ACode := .region [ii 74 (.bin .add (.t 39) (ki 1)),im 39 74] false
def Zgv : ACode := .seq (.region [ibt 40 .lss 39 38] false) (.seq (.cond (.t 40) .skip (.exit 0)) (.seq (.block 1 (.seq (.region [im 41 39,im 11 41] false) (.seq (.region [im 42 0,im 43 1,im 44 2,im 45 11,ibt 46 .add 44 45,icl 47 185 [.t 42,.t 43,.t 46],ii 12 (.new [.int .u8 0,.int .u8 0,.int .u8 0,.int .u8 0,.int .u8 0,.int .u8 0,.int .u8 0,.int .u8 0,.int .u8 0,.int .u8 0,.int .u8 0,.int .u8 0,.int .u8 0,.int .u8 0,.int .u8 0,.int .u8 0,.int .u8 0,.int .u8 0,.int .u8 0,.int .u8 0,.int .u8 0,.int .u8 0,.int .u8 0,.int .u8 0,.int .u8 0,.int .u8 0,.int .u8 0,.int .u8 0,.int .u8 0,.int .u8 0,.int .u8 0,.int .u8 0,.int .u8 0,.int .u8 0,.int .u8 0,.int .u8 0,.int .u8 0,.int .u8 0,.int .u8 0,.int .u8 0,.int .u8 0,.int .u8 0,.int .u8 0,.int .u8 0,.int .u8 0,.int .u8 0,.int .u8 0,.int .u8 0,.int .u8 0,.int .u8 0,.int .u8 0,.int .u8 0,.int .u8 0,.int .u8 0,.int .u8 0,.int .u8 0,.int .u8 0,.int .u8 0,.int .u8 0,.int .u8 0,.int .u8 0,.int .u8 0,.int .u8 0,.int .u8 0]),ie (.store 64 (.t 12) (.t 47))] false) (.seq (.region [im 48 11,ii 49 (.bin .mul (.t 48) (ki 64)),im 13 49] false) (.seq (.region [im 50 3,ii 51 (.len (.t 50)),im 52 13,ibt 53 .sub 51 52,ii 54 (.min [.k (.c (.int .i64 64)),.t 53]),ii 55 (.mv (ki 0))] false) (.block 2 (.loop Zi6))))))) Zlw))
def Zir : ACode := .seq (.region [im 75 10,im 8 75] false) .ret
def Ztk : AFun := ⟨[.tmp 8],.seq (.region [ii 8 (.mv (.k (.c .nilS)))] false) (.seq (.region [im 15 3,ii 16 (.len (.t 15)),ii 17 (.bin .add (.t 16) (ki 64)),ii 18 (.bin .sub (.t 17) (ki 1)),ii 19 (.bin .quo (.t 18) (ki 64)),im 9 19] false) (.seq (.seq (.region [im 20 9,ii 21 (.bin .eql (.t 20) (ki 0)),im 22 21,ig 23 (.mv (.t 0)) 22 false,ig 24 (.mv (.t 1)) 22 false,ig 25 (.mv (.t 2)) 22 false,ig 26 (.call (.f 184) [.t 23,.t 24,.t 25]) 22 false,ig 27 (.un .not (.t 26)) 22 false,ii 28 (.pick (.t 22) (.k (.c (.bool true))) (.t 27)),im 29 28,ig 30 (.mv (.t 2)) 29 false,ig 31 (.mv (.t 9)) 29 false,ig 32 (.bin .sub (ki 4294967296) (.t 31)) 29 false,ig 33 (.bin .gtr (.t 30) (.t 32)) 29 false,ii 34 (.pick (.t 29) (.k (.c (.bool true))) (.t 33))] false) (.cond (.t 34) (.seq (.region [ii 8 (.mv (.k (.c .nilS)))] false) .ret) .skip)) (.seq (.region [im 35 3,ii 36 (.len (.t 35)),ii 37 (.make 1 1 [.int .u8 0] (.t 36) (.t 36)),im 10 37] false) (.seq (.seq (.region [im 38 9,ii 39 (.mv (ki 0))] false) (.block 0 (.loop Zgv))) Zir))))⟩
theorem Z2b : Zm Tryz.prog 153 = some Ztk.erase := by kernel_rfl
def Zg8 : ACode := .seq (.region [ii 21 (.bin .lss (.t 20) (ki 12))] false) (.seq (.cond (.t 21) .skip (.exit 0)) (.seq (.block 1 (.seq (.region [im 22 20,im 9 22] false) (.region [im 23 9,im 24 8,im 25 9,ii 26 (.bin .mul (ki 4) (.t 25)),icl 27 206 [.t 24,.t 26],ii 28 (.ixA 16 1 (.t 7) (.t 23)),ie (.store 1 (.t 28) (.t 27))] false))) (.region [ii 29 (.bin .add (.t 20) (ki 1)),im 20 29] false)))
def Zfr : ACode := .seq (.region [ii 34 (.bin .lss (.t 33) (ki 3))] false) (.seq (.cond (.t 34) .skip (.exit 2)) (.seq (.block 3 (.seq (.region [im 35 33,im 10 35] false) (.region [im 36 10,ii 37 (.bin .add (ki 13) (.t 36)),im 38 1,im 39 10,ii 40 (.bin .mul (ki 4) (.t 39)),icl 41 206 [.t 38,.t 40],ii 42 (.ixA 16 1 (.t 7) (.t 37)),ie (.store 1 (.t 42) (.t 41))] false))) (.region [ii 43 (.bin .add (.t 33) (ki 1)),im 33 43] false)))
def Zed : ACode := .seq (.region [ii 48 (.bin .lss (.t 47) (ki 4))] false) (.seq (.cond (.t 48) .skip (.exit 6)) (.seq (.block 7 (.seq (.region [im 49 47,im 12 49] false) (.region [im 50 12,im 51 12,ii 52 (.bin .add (ki 4) (.t 51)),im 53 12,ii 54 (.bin .add (ki 8) (.t 53)),im 55 12,ii 56 (.bin .add (ki 12) (.t 55)),icl 57 207 [.t 7,.t 50,.t 52,.t 54,.t 56]] false))) (.region [ii 58 (.bin .add (.t 47) (ki 1)),im 47 58] false)))
def Zej : ACode := .seq (.region [ii 60 (.bin .lss (.t 59) (ki 4))] false) (.seq (.cond (.t 60) .skip (.exit 8)) (.seq (.block 9 (.seq (.region [im 61 59,im 13 61] false) (.region [im 62 13,im 63 13,ii 64 (.bin .add (.t 63) (ki 1)),ii 65 (.bin .rem (.t 64) (ki 4)),ii 66 (.bin .add (ki 4) (.t 65)),im 67 13,ii 68 (.bin .add (.t 67) (ki 2)),ii 69 (.bin .rem (.t 68) (ki 4)),ii 70 (.bin .add (ki 8) (.t 69)),im 71 13,ii 72 (.bin .add (.t 71) (ki 3)),ii 73 (.bin .rem (.t 72) (ki 4)),ii 74 (.bin .add (ki 12) (.t 73)),icl 75 207 [.t 7,.t 62,.t 66,.t 70,.t 74]] false))) (.region [ii 76 (.bin .add (.t 59) (ki 1)),im 59 76] false)))
def Zod : ACode := .seq (.region [ii 59 (.mv (ki 0))] false) (.block 8 (.loop Zej))
def Zov : ACode := .region [ii 77 (.bin .add (.t 45) (ki 1)),im 45 77] false
def Zg9 : ACode := .seq (.region [ii 46 (.bin .lss (.t 45) (ki 10))] false) (.seq (.cond (.t 46) .skip (.exit 4)) (.seq (.block 5 (.seq (.seq (.region [ii 47 (.mv (ki 0))] false) (.block 6 (.loop Zed))) Zod)) Zov))
def Zef : ACode := .seq (.region [ii 89 (.bin .lss (.t 88) (ki 4))] false) (.seq (.cond (.t 89) .skip (.exit 12)) (.seq (.block 13 (.seq (.region [im 90 88,im 17 90] false) (.region [im 91 15,ii 92 (.bin .mul (ki 4) (.t 91)),im 93 17,ibt 94 .add 92 93,im 95 16,im 96 17,ii 97 (.bin .mul (ki 8) (.t 96)),ibt 98 .shr 95 97,ii 99 (.conv .u8 (.t 98)),ii 100 (.ixA 64 1 (.t 14) (.t 94)),ie (.store 1 (.t 100) (.t 99))] false))) (.region [ii 101 (.bin .add (.t 88) (ki 1)),im 88 101] false)))
def Zo3 : ACode := .region [ii 102 (.bin .add (.t 79) (ki 1)),im 79 102] false
def Zg7 : ACode := .seq (.region [ii 80 (.bin .lss (.t 79) (ki 16))] false) (.seq (.cond (.t 80) .skip (.exit 10)) (.seq (.block 11 (.seq (.region [im 81 79,ii 82 (.ixV false 16 1 (.t 78) (.t 79)),im 15 81,im 16 82] false) (.seq (.region [im 83 16,im 84 15,ii 85 (.ixA 16 1 (.t 7) (.t 84)),il 86 85,ibt 87 .add 83 86,im 16 87] false) (.seq (.region [ii 88 (.mv (ki 0))] false) (.block 12 (.loop Zef)))))) Zo3))
def Zi9 : ACode := .seq (.region [ii 103 (.load true 64 (.t 14)),ie (.store 64 (.t 6) (.t 103))] false) .ret
def Zjb : ACode := .seq (.region [ii 14 (.new [.int .u8 0,.int .u8 0,.int .u8 0,.int .u8 0,.int .u8 0,.int .u8 0,.int .u8 0,.int .u8 0,.int .u8 0,.int .u8 0,.int .u8 0,.int .u8 0,.int .u8 0,.int .u8 0,.int .u8 0,.int .u8 0,.int .u8 0,.int .u8 0,.int .u8 0,.int .u8 0,.int .u8 0,.int .u8 0,.int .u8 0,.int .u8 0,.int .u8 0,.int .u8 0,.int .u8 0,.int .u8 0,.int .u8 0,.int .u8 0,.int .u8 0,.int .u8 0,.int .u8 0,.int .u8 0,.int .u8 0,.int .u8 0,.int .u8 0,.int .u8 0,.int .u8 0,.int .u8 0,.int .u8 0,.int .u8 0,.int .u8 0,.int .u8 0,.int .u8 0,.int .u8 0,.int .u8 0,.int .u8 0,.int .u8 0,.int .u8 0,.int .u8 0,.int .u8 0,.int .u8 0,.int .u8 0,.int .u8 0,.int .u8 0,.int .u8 0,.int .u8 0,.int .u8 0,.int .u8 0,.int .u8 0,.int .u8 0,.int .u8 0,.int .u8 0])] false) (.seq (.seq (.region [ii 78 (.load true 16 (.t 11)),ii 79 (.mv (ki 0))] false) (.block 10 (.loop Zg7))) Zi9)
def Znc : ACode := .seq (.region [ii 44 (.load true 16 (.t 7)),ii 11 (.new [.int .u32 0,.int .u32 0,.int .u32 0,.int .u32 0,.int .u32 0,.int .u32 0,.int .u32 0,.int .u32 0,.int .u32 0,.int .u32 0,.int .u32 0,.int .u32 0,.int .u32 0,.int .u32 0,.int .u32 0,.int .u32 0]),ie (.store 16 (.t 11) (.t 44))] false) (.seq (.seq (.region [ii 45 (.mv (ki 0))] false) (.block 4 (.loop Zg9))) Zjb)
def Zje : ACode := .seq (.region [im 30 2,ii 31 (.conv .u32 (.t 30)),ii 32 (.ixA 16 1 (.t 7) (ki 12)),ie (.store 1 (.t 32) (.t 31))] false) (.seq (.seq (.region [ii 33 (.mv (ki 0))] false) (.block 2 (.loop Zfr))) Znc)
def Zqf : AFun := ⟨[.cell 6 true 64],.seq (.region [ii 6 (.new [.int .u8 0,.int .u8 0,.int .u8 0,.int .u8 0,.int .u8 0,.int .u8 0,.int .u8 0,.int .u8 0,.int .u8 0,.int .u8 0,.int .u8 0,.int .u8 0,.int .u8 0,.int .u8 0,.int .u8 0,.int .u8 0,.int .u8 0,.int .u8 0,.int .u8 0,.int .u8 0,.int .u8 0,.int .u8 0,.int .u8 0,.int .u8 0,.int .u8 0,.int .u8 0,.int .u8 0,.int .u8 0,.int .u8 0,.int .u8 0,.int .u8 0,.int .u8 0,.int .u8 0,.int .u8 0,.int .u8 0,.int .u8 0,.int .u8 0,.int .u8 0,.int .u8 0,.int .u8 0,.int .u8 0,.int .u8 0,.int .u8 0,.int .u8 0,.int .u8 0,.int .u8 0,.int .u8 0,.int .u8 0,.int .u8 0,.int .u8 0,.int .u8 0,.int .u8 0,.int .u8 0,.int .u8 0,.int .u8 0,.int .u8 0,.int .u8 0,.int .u8 0,.int .u8 0,.int .u8 0,.int .u8 0,.int .u8 0,.int .u8 0,.int .u8 0])] false) (.seq (.region [ii 7 (.new [.int .u32 0,.int .u32 0,.int .u32 0,.int .u32 0,.int .u32 0,.int .u32 0,.int .u32 0,.int .u32 0,.int .u32 0,.int .u32 0,.int .u32 0,.int .u32 0,.int .u32 0,.int .u32 0,.int .u32 0,.int .u32 0])] false) (.seq (.region [im 18 0,ii 19 (.bin .add (.k (.c (.str ⟨#[101,120,112,97,110,100,32,51,50,45,98,121,116,101,32,107]⟩))) (.t 18)),im 8 19] false) (.seq (.seq (.region [ii 20 (.mv (ki 0))] false) (.block 0 (.loop Zg8))) Zje)))⟩
theorem Zym : Zm Tryz.prog 185 = some Zqf.erase := by kernel_rfl
def Zt3 : AFun := ⟨[.tmp 6],.seq (.region [ii 6 (.mv (.k (.c (.bool false))))] false) (.seq (.region [im 7 0,ii 8 (.lenS (.t 7)),ii 9 (.bin .eql (.t 8) (ki 32)),im 10 9,ig 11 (.mv (.t 1)) 10 true,ig 12 (.lenS (.t 11)) 10 true,ig 13 (.bin .eql (.t 12) (ki 12)) 10 true,ii 14 (.pick (.t 10) (.t 13) (.k (.c (.bool false)))),im 15 14,ig 16 (.mv (.t 2)) 15 true,ig 17 (.bin .geq (.t 16) (ki 0)) 15 true,ii 18 (.pick (.t 15) (.t 17) (.k (.c (.bool false)))),im 19 18,ig 20 (.mv (.t 2)) 19 true,ig 21 (.bin .lss (.t 20) (ki 4294967296)) 19 true,ii 22 (.pick (.t 19) (.t 21) (.k (.c (.bool false)))),im 6 22] false) .ret)⟩
theorem Z1y : Zm Tryz.prog 184 = some Zt3.erase := by kernel_rfl
def Zrr : AFun := ⟨[.tmp 4],.seq (.region [ii 4 (.mv (.k (.c (.int .u32 0))))] false) (.seq (.region [im 5 0,im 6 1,ii 7 (.ixS (.t 5) (.t 6)),ii 8 (.conv .u32 (.t 7)),im 9 0,im 10 1,ii 11 (.bin .add (.t 10) (ki 1)),ii 12 (.ixS (.t 9) (.t 11)),ii 13 (.conv .u32 (.t 12)),ii 14 (.bin .shl (.t 13) (.k (.c (.int .u64 8)))),ibt 15 .or 8 14,im 16 0,im 17 1,ii 18 (.bin .add (.t 17) (ki 2)),ii 19 (.ixS (.t 16) (.t 18)),ii 20 (.conv .u32 (.t 19)),ii 21 (.bin .shl (.t 20) (.k (.c (.int .u64 16)))),ibt 22 .or 15 21,im 23 0,im 24 1,ii 25 (.bin .add (.t 24) (ki 3)),ii 26 (.ixS (.t 23) (.t 25)),ii 27 (.conv .u32 (.t 26)),ii 28 (.bin .shl (.t 27) (.k (.c (.int .u64 24)))),ibt 29 .or 22 28,im 4 29] true) .ret)⟩
theorem Zz7 : Zm Tryz.prog 206 = some Zrr.erase := by kernel_rfl
def Zfb : AFun := ⟨[],.seq (.region [im 10 0,im 11 1,im 12 2,im 13 4,icl 14 220 [.t 10,.t 11,.t 12,.t 13,.k (.c (.int .i64 16))]] false) (.seq (.region [im 15 0,im 16 3,im 17 4,im 18 2,icl 19 220 [.t 15,.t 16,.t 17,.t 18,.k (.c (.int .i64 12))]] false) (.seq (.region [im 20 0,im 21 1,im 22 2,im 23 4,icl 24 220 [.t 20,.t 21,.t 22,.t 23,.k (.c (.int .i64 8))]] false) (.region [im 25 0,im 26 3,im 27 4,im 28 2,icl 29 220 [.t 25,.t 26,.t 27,.t 28,.k (.c (.int .i64 7))]] false)))⟩
theorem Zja : Zm Tryz.prog 207 = some Zfb.erase := by kernel_rfl
def Zf8 : AFun := ⟨[],.seq (.region [im 10 0,im 11 1,ii 12 (.chk (.t 10)),ii 13 (.ixA 16 1 (.t 12) (.t 11)),il 14 13,im 15 0,im 16 2,ii 17 (.chk (.t 15)),ii 18 (.ixA 16 1 (.t 17) (.t 16)),il 19 18,ibt 20 .add 14 19,ii 21 (.chk (.t 10)),ii 22 (.ixA 16 1 (.t 21) (.t 11)),ie (.store 1 (.t 22) (.t 20))] true) (.region [im 23 0,im 24 3,im 25 0,im 26 3,ii 27 (.chk (.t 25)),ii 28 (.ixA 16 1 (.t 27) (.t 26)),il 29 28,im 30 0,im 31 1,ii 32 (.chk (.t 30)),ii 33 (.ixA 16 1 (.t 32) (.t 31)),il 34 33,ibt 35 .xor 29 34,im 36 4,icl 37 208 [.t 35,.t 36],ii 38 (.chk (.t 23)),ii 39 (.ixA 16 1 (.t 38) (.t 24)),ie (.store 1 (.t 39) (.t 37))] true)⟩
theorem Zkc : Zm Tryz.prog 220 = some Zf8.erase := by kernel_rfl
def Zk8 : ACode := .seq (.seq (.region [im 48 12,im 49 9,ii 50 (.len (.t 49)),ibt 51 .lss 48 50,im 52 51,ig 53 (.mv (.t 12)) 52 true,ig 54 (.mv (.t 10)) 52 true,ig 55 (.bin .add (.t 54) (ki 64)) 52 true,ig 56 (.bin .lss (.t 53) (.t 55)) 52 true,ii 57 (.pick (.t 52) (.t 56) (.k (.c (.bool false))))] false) (.cond (.t 57) .skip (.exit 2))) (.seq (.block 3 (.region [im 60 9,im 61 12,ixx 62 1 60 61,il 63 62,im 64 11,im 65 12,im 66 10,ibt 67 .sub 65 66,ii 68 (.ixS (.t 64) (.t 67)),ibt 69 .xor 63 68,ixx 70 1 60 61,ie (.store 1 (.t 70) (.t 69))] true)) (.region [im 58 12,ii 59 (.bin .add (.t 58) (ki 1)),im 12 59] false))
def Zla : ACode := .region [im 38 10,ii 39 (.bin .add (.t 38) (ki 64)),im 10 39] false
def Zhn : ACode := .seq (.seq (.region [im 34 10,im 35 9,ii 36 (.len (.t 35)),ibt 37 .lss 34 36] false) (.cond (.t 37) .skip (.exit 0))) (.seq (.block 1 (.seq (.region [im 40 0,im 41 1,im 42 2,im 43 10,ii 44 (.bin .quo (.t 43) (ki 64)),ibt 45 .add 42 44,icl 46 161 [.t 40,.t 41,.t 45],im 11 46] false) (.seq (.region [im 47 10,im 12 47] false) (.block 2 (.loop Zk8))))) Zla)
def Zjk : ACode := .seq (.region [im 71 9,ii 72 (.b2s (.t 71)),im 8 72] false) .ret
def Z4v : AFun := ⟨[.tmp 8],.seq (.region [ii 8 (.mv (.k (.c (.str ⟨#[]⟩))))] false) (.seq (.seq (.region [im 13 3,ii 14 (.lenS (.t 13)),ii 15 (.bin .eql (.t 14) (ki 0)),im 16 15,ig 17 (.mv (.t 0)) 16 false,ig 18 (.mv (.t 1)) 16 false,ig 19 (.mv (.t 2)) 16 false,ig 20 (.call (.f 161) [.t 17,.t 18,.t 19]) 16 false,ig 21 (.bin .eql (.t 20) (.k (.c (.str ⟨#[]⟩)))) 16 false,ii 22 (.pick (.t 16) (.k (.c (.bool true))) (.t 21)),im 23 22,ig 24 (.mv (.t 2)) 23 false,ig 25 (.mv (.t 3)) 23 false,ig 26 (.lenS (.t 25)) 23 false,ig 27 (.bin .sub (.t 26) (ki 1)) 23 false,ig 28 (.bin .quo (.t 27) (ki 64)) 23 false,ig 29 (.bin .add (.t 24) (.t 28)) 23 false,ig 30 (.bin .geq (.t 29) (ki 4294967296)) 23 false,ii 31 (.pick (.t 23) (.k (.c (.bool true))) (.t 30))] false) (.cond (.t 31) (.seq (.region [ii 8 (.mv (.k (.c (.str ⟨#[]⟩))))] false) .ret) .skip)) (.seq (.region [im 32 3,ii 33 (.s2b (.t 32)),im 9 33] false) (.seq (.seq (.region [ii 10 (.mv (ki 0))] false) (.block 0 (.loop Zhn))) Zjk)))⟩
theorem Zba7 : Zm Tryz.prog 120 = some Z4v.erase := by kernel_rfl
def Zko : ACode := .seq (.seq (.region [im 36 9,ii 37 (.bin .lss (.t 36) (ki 12))] false) (.cond (.t 37) .skip (.exit 0))) (.seq (.block 1 (.region [im 40 9,im 41 7,im 42 9,ii 43 (.bin .mul (ki 4) (.t 42)),icl 44 191 [.t 41,.t 43],ii 45 (.ixA 16 1 (.t 8) (.t 40)),ie (.store 1 (.t 45) (.t 44))] false)) (.region [im 38 9,ii 39 (.bin .add (.t 38) (ki 1)),im 9 39] false))
def Zim : ACode := .seq (.seq (.region [im 49 10,ii 50 (.bin .lss (.t 49) (ki 3))] false) (.cond (.t 50) .skip (.exit 2))) (.seq (.block 3 (.region [im 53 10,ii 54 (.bin .add (ki 13) (.t 53)),im 55 1,im 56 10,ii 57 (.bin .mul (ki 4) (.t 56)),icl 58 191 [.t 55,.t 57],ii 59 (.ixA 16 1 (.t 8) (.t 54)),ie (.store 1 (.t 59) (.t 58))] false)) (.region [im 51 10,ii 52 (.bin .add (.t 51) (ki 1)),im 10 52] false))
def Zgy : ACode := .seq (.seq (.region [im 67 13,ii 68 (.bin .lss (.t 67) (ki 4))] false) (.cond (.t 68) .skip (.exit 6))) (.seq (.block 7 (.region [im 71 11,im 72 13,im 73 13,ii 74 (.bin .add (ki 4) (.t 73)),im 75 13,ii 76 (.bin .add (ki 8) (.t 75)),im 77 13,ii 78 (.bin .add (ki 12) (.t 77)),icl 79 192 [.t 71,.t 72,.t 74,.t 76,.t 78]] false)) (.region [im 69 13,ii 70 (.bin .add (.t 69) (ki 1)),im 13 70] false))
def Zgz : ACode := .seq (.seq (.region [im 80 14,ii 81 (.bin .lss (.t 80) (ki 4))] false) (.cond (.t 81) .skip (.exit 8))) (.seq (.block 9 (.region [im 84 11,im 85 14,im 86 14,ii 87 (.bin .add (.t 86) (ki 1)),ii 88 (.bin .rem (.t 87) (ki 4)),ii 89 (.bin .add (ki 4) (.t 88)),im 90 14,ii 91 (.bin .add (.t 90) (ki 2)),ii 92 (.bin .rem (.t 91) (ki 4)),ii 93 (.bin .add (ki 8) (.t 92)),im 94 14,ii 95 (.bin .add (.t 94) (ki 3)),ii 96 (.bin .rem (.t 95) (ki 4)),ii 97 (.bin .add (ki 12) (.t 96)),icl 98 192 [.t 84,.t 85,.t 89,.t 93,.t 97]] false)) (.region [im 82 14,ii 83 (.bin .add (.t 82) (ki 1)),im 14 83] false))
def Zvx : ACode := .seq (.region [ii 14 (.mv (ki 0))] false) (.block 8 (.loop Zgz))
def Zvp : ACode := .region [im 65 12,ii 66 (.bin .add (.t 65) (ki 1)),im 12 66] false
def Zkt : ACode := .seq (.seq (.region [im 63 12,ii 64 (.bin .lss (.t 63) (ki 10))] false) (.cond (.t 64) .skip (.exit 4))) (.seq (.block 5 (.seq (.seq (.region [ii 13 (.mv (ki 0))] false) (.block 6 (.loop Zgy))) Zvx)) Zvp)
def Zky : ACode := .seq (.seq (.region [im 99 16,ii 100 (.bin .lss (.t 99) (ki 16))] false) (.cond (.t 100) .skip (.exit 10))) (.seq (.block 11 (.seq (.region [im 103 11,im 104 16,ixx 105 1 103 104,il 106 105,im 107 16,ii 108 (.ixA 16 1 (.t 8) (.t 107)),il 109 108,ibt 110 .add 106 109,im 17 110] true) (.region [im 111 15,im 112 17,ii 113 (.conv .u8 (.t 112)),im 114 17,ii 115 (.bin .shr (.t 114) (.k (.c (.int .u64 8)))),ii 116 (.conv .u8 (.t 115)),im 117 17,ii 118 (.bin .shr (.t 117) (.k (.c (.int .u64 16)))),ii 119 (.conv .u8 (.t 118)),im 120 17,ii 121 (.bin .shr (.t 120) (.k (.c (.int .u64 24)))),ii 122 (.conv .u8 (.t 121)),iz 123 (.lit 1 [.int .u8 0] 4 [(0,.t 113),(1,.t 116),(2,.t 119),(3,.t 122)]),ii 124 (.app 1 1 (.t 111) (.t 123)),im 15 124] false))) (.region [im 101 16,ii 102 (.bin .add (.t 101) (ki 1)),im 16 102] false))
def Zph : ACode := .seq (.region [im 125 15,ii 126 (.b2s (.t 125)),im 6 126] false) .ret
def Zpb : ACode := .seq (.region [ii 15 (.mv (.k (.c .nilS)))] false) (.seq (.seq (.region [ii 16 (.mv (ki 0))] false) (.block 10 (.loop Zky))) Zph)
def Zte : ACode := .fz 8 (.seq (.region [iz 60 (.lit 1 [.int .u32 0] 0 []),ii 61 (.slA 16 1 (.t 8)),ii 62 (.appZ 1 4 (.t 60) (.t 61)),im 11 62] false) (.seq (.seq (.region [ii 12 (.mv (ki 0))] false) (.block 4 (.loop Zkt))) Zpb))
def Zn1 : ACode := .seq (.region [im 46 2,ii 47 (.conv .u32 (.t 46)),ii 48 (.ixA 16 1 (.t 8) (ki 12)),ie (.store 1 (.t 48) (.t 47))] false) (.seq (.seq (.region [ii 10 (.mv (ki 0))] false) (.block 2 (.loop Zim))) Zte)
def Zza : AFun := ⟨[.tmp 6],.seq (.region [ii 6 (.mv (.k (.c (.str ⟨#[]⟩))))] false) (.seq (.seq (.region [im 18 0,ii 19 (.lenS (.t 18)),ii 20 (.bin .neq (.t 19) (ki 32)),im 21 20,ig 22 (.mv (.t 1)) 21 false,ig 23 (.lenS (.t 22)) 21 false,ig 24 (.bin .neq (.t 23) (ki 12)) 21 false,ii 25 (.pick (.t 21) (.k (.c (.bool true))) (.t 24)),im 26 25,ig 27 (.mv (.t 2)) 26 false,ig 28 (.bin .lss (.t 27) (ki 0)) 26 false,ii 29 (.pick (.t 26) (.k (.c (.bool true))) (.t 28)),im 30 29,ig 31 (.mv (.t 2)) 30 false,ig 32 (.bin .geq (.t 31) (ki 4294967296)) 30 false,ii 33 (.pick (.t 30) (.k (.c (.bool true))) (.t 32))] false) (.cond (.t 33) (.seq (.region [ii 6 (.mv (.k (.c (.str ⟨#[]⟩))))] false) .ret) .skip)) (.seq (.region [im 34 0,ii 35 (.bin .add (.k (.c (.str ⟨#[101,120,112,97,110,100,32,51,50,45,98,121,116,101,32,107]⟩))) (.t 34)),im 7 35] false) (.seq (.region [ii 8 (.new [.int .u32 0,.int .u32 0,.int .u32 0,.int .u32 0,.int .u32 0,.int .u32 0,.int .u32 0,.int .u32 0,.int .u32 0,.int .u32 0,.int .u32 0,.int .u32 0,.int .u32 0,.int .u32 0,.int .u32 0,.int .u32 0])] false) (.seq (.seq (.region [ii 9 (.mv (ki 0))] false) (.block 0 (.loop Zko))) Zn1))))⟩
theorem Z6f : Zm Tryz.prog 161 = some Zza.erase := by kernel_rfl
def Ztg : AFun := ⟨[],.seq (.region [im 10 0,im 11 1,ixx 12 1 10 11,il 13 12,im 14 0,im 15 2,ixx 16 1 14 15,il 17 16,ibt 18 .add 13 17,ixx 19 1 10 11,ie (.store 1 (.t 19) (.t 18))] true) (.seq (.region [im 20 0,im 21 4,im 22 0,im 23 4,ixx 24 1 22 23,il 25 24,im 26 0,im 27 1,ixx 28 1 26 27,il 29 28,ibt 30 .xor 25 29,icl 31 114 [.t 30,.k (.c (.int .u64 16))],ixx 32 1 20 21,ie (.store 1 (.t 32) (.t 31))] true) (.seq (.region [im 33 0,im 34 3,ixx 35 1 33 34,il 36 35,im 37 0,im 38 4,ixx 39 1 37 38,il 40 39,ibt 41 .add 36 40,ixx 42 1 33 34,ie (.store 1 (.t 42) (.t 41))] true) (.seq (.region [im 43 0,im 44 2,im 45 0,im 46 2,ixx 47 1 45 46,il 48 47,im 49 0,im 50 3,ixx 51 1 49 50,il 52 51,ibt 53 .xor 48 52,icl 54 114 [.t 53,.k (.c (.int .u64 12))],ixx 55 1 43 44,ie (.store 1 (.t 55) (.t 54))] true) (.seq (.region [im 56 0,im 57 1,ixx 58 1 56 57,il 59 58,im 60 0,im 61 2,ixx 62 1 60 61,il 63 62,ibt 64 .add 59 63,ixx 65 1 56 57,ie (.store 1 (.t 65) (.t 64))] true) (.seq (.region [im 66 0,im 67 4,im 68 0,im 69 4,ixx 70 1 68 69,il 71 70,im 72 0,im 73 1,ixx 74 1 72 73,il 75 74,ibt 76 .xor 71 75,icl 77 114 [.t 76,.k (.c (.int .u64 8))],ixx 78 1 66 67,ie (.store 1 (.t 78) (.t 77))] true) (.seq (.region [im 79 0,im 80 3,ixx 81 1 79 80,il 82 81,im 83 0,im 84 4,ixx 85 1 83 84,il 86 85,ibt 87 .add 82 86,ixx 88 1 79 80,ie (.store 1 (.t 88) (.t 87))] true) (.region [im 89 0,im 90 2,im 91 0,im 92 2,ixx 93 1 91 92,il 94 93,im 95 0,im 96 3,ixx 97 1 95 96,il 98 97,ibt 99 .xor 94 98,icl 100 114 [.t 99,.k (.c (.int .u64 7))],ixx 101 1 89 90,ie (.store 1 (.t 101) (.t 100))] true)))))))⟩
theorem Z2p : Zm Tryz.prog 192 = some Ztg.erase := by kernel_rfl
def Z4k : AFun := ⟨[.tmp 4],.seq (.region [ii 4 (.mv (.k (.c (.int .u32 0))))] false) (.seq (.region [im 5 0,im 6 1,ii 7 (.ixS (.t 5) (.t 6)),ii 8 (.conv .u32 (.t 7)),im 9 0,im 10 1,ii 11 (.bin .add (.t 10) (ki 1)),ii 12 (.ixS (.t 9) (.t 11)),ii 13 (.conv .u32 (.t 12)),ii 14 (.bin .shl (.t 13) (.k (.c (.int .u64 8)))),ibt 15 .or 8 14,im 16 0,im 17 1,ii 18 (.bin .add (.t 17) (ki 2)),ii 19 (.ixS (.t 16) (.t 18)),ii 20 (.conv .u32 (.t 19)),ii 21 (.bin .shl (.t 20) (.k (.c (.int .u64 16)))),ibt 22 .or 15 21,im 23 0,im 24 1,ii 25 (.bin .add (.t 24) (ki 3)),ii 26 (.ixS (.t 23) (.t 25)),ii 27 (.conv .u32 (.t 26)),ii 28 (.bin .shl (.t 27) (.k (.c (.int .u64 24)))),ibt 29 .or 22 28,im 4 29] true) .ret)⟩
theorem Zbcj : Zm Tryz.prog 191 = some Z4k.erase := by kernel_rfl
theorem Zbfm {e : Env} {H : Heap} {R : AVal → Heap → Prop} : resW e H [] R = R (.tup []) H := by
 simp [resW,Zg4]
attribute [go_sem] Zbfm
theorem Zhw (s : ByteArray) (i : Nat) (h : i + 3 < s.size) (hb : i ≤ 1000000) : Pr 206 [sC s,iC i] (wC (leW s i)) := by
 refine Zl mixed Zz7 rfl fun hl T => ?_
 unfold Zrr
 have w1 : IntKind.wrap .i64 ((i : Int) + 1) = ((i + 1 : Nat) : Int) := by rw [Zn (by omega)]; omega
 have w2 : IntKind.wrap .i64 ((i : Int) + 2) = ((i + 2 : Nat) : Int) := by rw [Zn (by omega)]; omega
 have w3 : IntKind.wrap .i64 ((i : Int) + 3) = ((i + 3 : Nat) : Int) := by rw [Zn (by omega)]; omega
 have b0 := fun H => Zdv (s := s) (j := i) (ik := .i64) (H := H) (by omega)
 have b1 := fun H => Zdv (s := s) (j := i + 1) (ik := .i64) (H := H) (by omega)
 have b2 := fun H => Zdv (s := s) (j := i + 2) (ik := .i64) (H := H) (by omega)
 have b3 := fun H => Zdv (s := s) (j := i + 3) (ik := .i64) (H := H) (by omega)
 have hby : ∀ j,IntKind.wrap .u32 (Zb4 s j : Int) = Zb4 s j := fun j => Zkp (Zdu s j)
 have s24 : ∀ (a : Int) (ik : IntKind) (H : Heap),vBin .shl (.c (.int .u32 a)) (.c (.int ik 24)) H = some (.c (.int .u32 (shlW a 24)),H) := fun a ik H => Zdw (by decide)
 have s16 : ∀ (a : Int) (ik : IntKind) (H : Heap),vBin .shl (.c (.int .u32 a)) (.c (.int ik 16)) H = some (.c (.int .u32 (shlW a 16)),H) := fun a ik H => Zdw (by decide)
 have s8 : ∀ (a : Int) (ik : IntKind) (H : Heap),vBin .shl (.c (.int .u32 a)) (.c (.int ik 8)) H = some (.c (.int .u32 (shlW a 8)),H) := fun a ik H => Zdw (by decide)
 simp only [go_sem,simprocAttr,w1,w2,w3,b0,b1,b2,b3,hby,s24,s16,s8]
 simp [Zf,Ze,Zk,Zg,Zh,Zd,Zc,Zb,leW]
theorem Zof (s : ByteArray) (i : Nat) (h : i + 3 < s.size) (hb : i ≤ 1000000) : Pr 191 [sC s,iC i] (wC (leW s i)) := by
 refine Zl mixed Zbcj rfl fun hl T => ?_
 unfold Z4k
 have w1 : IntKind.wrap .i64 ((i : Int) + 1) = ((i + 1 : Nat) : Int) := by rw [Zn (by omega)]; omega
 have w2 : IntKind.wrap .i64 ((i : Int) + 2) = ((i + 2 : Nat) : Int) := by rw [Zn (by omega)]; omega
 have w3 : IntKind.wrap .i64 ((i : Int) + 3) = ((i + 3 : Nat) : Int) := by rw [Zn (by omega)]; omega
 have b0 := fun H => Zdv (s := s) (j := i) (ik := .i64) (H := H) (by omega)
 have b1 := fun H => Zdv (s := s) (j := i + 1) (ik := .i64) (H := H) (by omega)
 have b2 := fun H => Zdv (s := s) (j := i + 2) (ik := .i64) (H := H) (by omega)
 have b3 := fun H => Zdv (s := s) (j := i + 3) (ik := .i64) (H := H) (by omega)
 have hby : ∀ j,IntKind.wrap .u32 (Zb4 s j : Int) = Zb4 s j := fun j => Zkp (Zdu s j)
 have s24 : ∀ (a : Int) (ik : IntKind) (H : Heap),vBin .shl (.c (.int .u32 a)) (.c (.int ik 24)) H = some (.c (.int .u32 (shlW a 24)),H) := fun a ik H => Zdw (by decide)
 have s16 : ∀ (a : Int) (ik : IntKind) (H : Heap),vBin .shl (.c (.int .u32 a)) (.c (.int ik 16)) H = some (.c (.int .u32 (shlW a 16)),H) := fun a ik H => Zdw (by decide)
 have s8 : ∀ (a : Int) (ik : IntKind) (H : Heap),vBin .shl (.c (.int .u32 a)) (.c (.int ik 8)) H = some (.c (.int .u32 (shlW a 8)),H) := fun a ik H => Zdw (by decide)
 simp only [go_sem,simprocAttr,w1,w2,w3,b0,b1,b2,b3,hby,s24,s16,s8]
 simp [Zf,Ze,Zk,Zg,Zh,Zd,Zc,Zb,leW]
abbrev aBlk (n : Nat) (l : List Int) : Blk := { sz := n,rows := [l.map wRow],own := true,live := true }
theorem Z5k {H : Heap} {b n : Nat} {l : List Int} (h : H[b]? = some (aBlk n l)) : Heap.row H b 0 = some (l.map wRow) := by rw [Zhe h rfl]; rfl
theorem Z31 {H : Heap} {b n : Nat} {l m : List Int} (h : H[b]? = some (aBlk n l)) : Heap.put H b 0 (m.map wRow) = H.set b (aBlk n m) := by rw [Zjq h]; rfl
theorem Zuj {l : List Int} {i : Nat} (h : i < l.length) : (l.map wRow)[i]? = some (.int .u32 (l.getD i 0)) := by
 rw [List.getElem?_map,List.getElem?_eq_getElem h,List.getD_eq_getElem?_getD,List.getElem?_eq_getElem h]; rfl
theorem Z3q {l : List Int} {i : Nat} (h : i < l.length) (x : Int) : (l.map wRow).take i ++ [.int .u32 x] ++ (l.map wRow).drop (i + 1) = (l.set i x).map wRow := by
 rw [Zmf (by simpa using h),List.map_set]; rfl
theorem Zbt {H : Heap} {b : Nat} {B C : Blk} : (H.set b B).set b C = H.set b C := by simp
theorem Zh9 {H : Heap} {bl : Nat} {l : List Int} {a b d : Nat} {n : Int} (hH : H[bl]? = some (aBlk 16 l)) (hl : l.length = 16) (ha : a < 16) (hb : b < 16) (hd : d < 16)
  (hn : IntKind.wrap .u64 ((BitVec.ofInt IntKind.u64.bits (IntKind.wrap .u64 n) &&& BitVec.ofInt IntKind.u64.bits 31).toNat : Int) = n) (h0 : 0 ≤ n) (h1 : n ≤ 32) :
  CallSound Tryz.prog 220 [.c (.ptr bl 0 0),iC a,iC b,iC d,iC n] H (.tup []) (H.set bl (aBlk 16 (Zg2 l a b d n))) := by
 refine Zhq mixed Zkc fun T => ?_
 unfold Zf8
 have xa : ∀ H : Heap,vIxA 16 1 (.c (.ptr bl 0 0)) (iC (a : Int)) H = some (.c (.ptr bl 0 (0 + a)),H) := fun H => Zcb ha
 have xb : ∀ H : Heap,vIxA 16 1 (.c (.ptr bl 0 0)) (iC (b : Int)) H = some (.c (.ptr bl 0 (0 + b)),H) := fun H => Zcb hb
 have xd : ∀ H : Heap,vIxA 16 1 (.c (.ptr bl 0 0)) (iC (d : Int)) H = some (.c (.ptr bl 0 (0 + d)),H) := fun H => Zcb hd
 have hbl : bl < H.length := (List.getElem?_eq_some_iff.1 hH).1
 have r1 := Z5k hH
 have m1 : Heap.mine H bl = true := Zb7 hH rfl rfl
 have p1 : Heap.put H bl 0 ((l.set a (addW (l.getD a 0) (l.getD b 0))).map wRow) = _ := Z31 hH
 have ia := Zuj (l := l) (i := a) (by omega)
 have ib := Zuj (l := l) (i := b) (by omega)
 have sa := Z3q (l := l) (i := a) (by omega) (addW (l.getD a 0) (l.getD b 0))
 have hla : a + 1 ≤ (l.map wRow).length := by simp; omega
 have hstep : Zg2 l a b d n = (l.set a (addW (l.getD a 0) (l.getD b 0))).set d (rotW (xorW ((l.set a (addW (l.getD a 0) (l.getD b 0))).getD d 0) ((l.set a (addW (l.getD a 0) (l.getD b 0))).getD a 0)) n) := rfl
 have hml : (l.set a (addW (l.getD a 0) (l.getD b 0))).length = 16 := by simp [hl]
 have hH2 := Zw (B' := aBlk 16 (l.set a (addW (l.getD a 0) (l.getD b 0)))) hH
 rw [hstep]
 generalize l.set a (addW (l.getD a 0) (l.getD b 0)) = m at sa p1 hml hH2 ⊢
 have r2 := Z5k hH2
 have m2 := Zb7 hH2 rfl rfl
 have p2 := Z31 (m := m.set d (rotW (xorW (m.getD d 0) (m.getD a 0)) n)) hH2
 rw [Zbt] at p2
 have ja := Zuj (l := m) (i := a) (by omega)
 have jd := Zuj (l := m) (i := d) (by omega)
 have sd := Z3q (l := m) (i := d) (by omega) (rotW (xorW (m.getD d 0) (m.getD a 0)) n)
 have hld : d + 1 ≤ (m.map wRow).length := by simp; omega
 have hbl2 : bl < (H.set bl (aBlk 16 m)).length := by simpa using hbl
 simp only [go_sem,simprocAttr,xa,xb,r1,ia,ib,m1,hla,sa,p1,xd,r2,ja,jd]
 refine Za (Zjv _ _ _ hn h0 h1) ?_
 simp only [go_sem,simprocAttr,xd,r2,m2,hld,sd,p2]
theorem Zcv {H : Heap} {bl : Nat} {l : List Int} {a b c d : Nat} (hH : H[bl]? = some (aBlk 16 l)) (hl : l.length = 16) (ha : a < 16) (hb : b < 16) (hc : c < 16) (hd : d < 16) :
  CallSound Tryz.prog 207 [.c (.ptr bl 0 0),iC a,iC b,iC c,iC d] H (.tup []) (H.set bl (aBlk 16 (Zbj l a b c d))) := by
 refine Zhq mixed Zja fun T => ?_
 unfold Zfb
 have c1 := Zh9 (n := 16) hH hl ha hb hd (by decide) (by decide) (by decide)
 have h2 := Zw (B' := aBlk 16 (Zg2 l a b d 16)) hH
 have c2 := Zh9 (n := 12) h2 (by rw [Zhk]; exact hl) hc hd hb (by decide) (by decide) (by decide)
 rw [Zbt] at c2
 have h3 := Zw (B' := aBlk 16 (Zg2 (Zg2 l a b d 16) c d b 12)) hH
 have c3 := Zh9 (n := 8) h3 (by rw [Zhk,Zhk]; exact hl) ha hb hd (by decide) (by decide) (by decide)
 rw [Zbt] at c3
 have h4 := Zw (B' := aBlk 16 (Zg2 (Zg2 (Zg2 l a b d 16) c d b 12) a b d 8)) hH
 have c4 := Zh9 (n := 7) h4 (by rw [Zhk,Zhk,Zhk]; exact hl) hc hd hb (by decide) (by decide) (by decide)
 rw [Zbt] at c4
 simp only [go_sem,simprocAttr]
 refine Z3 c1 (fun h => by cases h) ?_
 simp only [go_sem,simprocAttr]
 refine Z3 c2 (fun h => by cases h) ?_
 simp only [go_sem,simprocAttr]
 refine Z3 c3 (fun h => by cases h) ?_
 simp only [go_sem,simprocAttr]
 refine Z3 c4 (fun h => by cases h) ?_
 simp only [go_sem,simprocAttr]
 simp [Zbj]
theorem Z1r (key nonce : ByteArray) (ctr : Int) : Pr 184 [sC key,sC nonce,iC ctr] (bC (decide (key.size = 32) && decide (nonce.size = 12) && decide (0 ≤ ctr) && decide (ctr < 4294967296))) := by
 refine Zl mixed Z1y rfl fun hl T => ?_
 unfold Zt3
 have e1 : ((key.size : Int) = 32) ↔ key.size = 32 := by omega
 have e2 : ((nonce.size : Int) = 12) ↔ nonce.size = 12 := by omega
 simp only [go_sem,simprocAttr]
 by_cases h1 : key.size = 32 <;> by_cases h2 : nonce.size = 12 <;> by_cases h3 : 0 ≤ ctr <;> by_cases h4 : ctr < 4294967296 <;> simp [go_sem,simprocAttr,e1,e2,h1,h2,h3,h4,Zf,Ze,Zk,Zg,Zh,Zd,Zc,Zb]
end Go.Proofs.YticmfblfghdkbaaGreatDoor.Eng
