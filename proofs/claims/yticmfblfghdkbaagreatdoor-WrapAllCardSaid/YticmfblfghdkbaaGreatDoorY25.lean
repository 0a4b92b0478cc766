/- Parts of this claim's proof, joined. No statement of the seat is proved here. -/
import Derived.Test.YticmfblfghdkbaaGreatDoorY24
set_option linter.unusedVariables false
set_option linter.unusedSimpArgs false
namespace Go.Proofs.YticmfblfghdkbaaGreatDoor.Eng
open Go
def Z1e : AFun := ⟨[.tmp 4],.seq (.region [ii 3 (.box (.t 1)),ii 4 (.mv (.k (.c (.str ⟨#[]⟩))))] false) (.seq (.seq (.region [ii 5 (.load true 6 (.t 3)),icl 6 67 [.t 5],ii 7 (.un .not (.t 6))] false) (.cond (.t 7) (.seq (.region [ii 4 (.mv (.k (.c (.str ⟨#[]⟩))))] false) .ret) .skip)) (.seq (.region [ifl 8 5 3,ie (.store 1 (.t 8) (.k (.c (.str ⟨#[]⟩))))] false) (.seq (.region [im 9 0,ii 10 (.load true 6 (.t 3)),icl 11 69 [.t 10],iz 12 (.lit 1 [.str ⟨#[]⟩] 1 [(0,.t 11)]),icl 13 68 [.t 9,.t 12],ii 14 (.slS (.t 13) none (some (ki 16))),im 4 14] false) .ret)))⟩
theorem Z9u : Zm Tryz.prog 26 = some Z1e.erase := by kernel_rfl
def Zx1 : AFun := ⟨[.cell 6 true 6],.seq (.region [ii 6 (.new [.int .i64 0,.str ⟨#[]⟩,.int .i64 0,.int .i64 0,.nilS,.str ⟨#[]⟩])] false) (.seq (.region [im 8 0,ii 9 (.len (.t 8)),ii 10 (.bin .add (.t 9) (ki 1)),im 11 1,im 12 2,ii 13 (.build [.int .i64 0,.str ⟨#[]⟩,.int .i64 0,.int .i64 0,.nilS,.str ⟨#[]⟩] [(0,1,.t 10),(2,1,.t 11),(3,1,.t 12)]),ii 7 (.new [.int .i64 0,.str ⟨#[]⟩,.int .i64 0,.int .i64 0,.nilS,.str ⟨#[]⟩]),ie (.store 6 (.t 7) (.t 13))] false) (.seq (.seq (.region [im 14 0,ii 15 (.len (.t 14)),ii 16 (.bin .gtr (.t 15) (ki 0))] false) (.cond (.t 16) (.region [im 17 0,im 18 0,ii 19 (.len (.t 18)),ii 20 (.bin .sub (.t 19) (ki 1)),ixx 21 6 17 20,ii 22 (.load true 6 (.t 21)),icl 23 98 [.t 22],ifl 24 1 7,ie (.store 1 (.t 24) (.t 23))] false) .skip)) (.seq (.region [ii 25 (.load true 6 (.t 7)),ie (.store 6 (.t 6) (.t 25))] false) .ret)))⟩
theorem Z6v : Zm Tryz.prog 52 = some Zx1.erase := by kernel_rfl
def Zwe : AFun := ⟨[.tmp 6],.seq (.region [ii 6 (.mv (.k (.c .nilI)))] false) (.seq (.region [im 9 0,im 10 0,ii 11 (.len (.t 10)),im 12 2,icl 13 80 [.t 9,.t 11,.t 12],im 7 13] false) (.seq (.region [im 14 1,ii 15 (.bin .eql (.t 14) (ki 1)),im 16 15,ig 17 (.mv (.t 2)) 16 true,ig 18 (.bin .eql (.t 17) (ki 0)) 16 true,ii 19 (.pick (.t 16) (.t 18) (.k (.c (.bool false)))),im 8 19] false) (.seq (.block 0 (.seq (.region [im 21 1,ii 22 (.bin .neq (.t 21) (ki 1)),im 23 22,ig 24 (.mv (.t 1)) 23 true,ig 25 (.bin .neq (.t 24) (ki 2)) 23 true,ii 26 (.pick (.t 23) (.t 25) (.k (.c (.bool false)))),im 27 26,ig 28 (.mv (.t 2)) 27 false,ig 29 (.bin .lss (.t 28) (ki 0)) 27 false,ii 30 (.pick (.t 27) (.k (.c (.bool true))) (.t 29)),im 31 30,ig 32 (.mv (.t 2)) 31 false,ig 33 (.bin .geq (.t 32) (ki 8)) 31 false,ii 34 (.pick (.t 31) (.k (.c (.bool true))) (.t 33)),im 35 34,ig 36 (.mv (.t 0)) 35 false,ig 37 (.call (.f 96) [.t 36]) 35 false,ig 38 (.un .not (.t 37)) 35 false,ii 39 (.pick (.t 35) (.k (.c (.bool true))) (.t 38)),im 20 39] false) (.cond (.t 20) (.seq (.region [ii 40 (.build [.int .i64 0] [(0,1,.k (.c (.int .i64 1)))]),ii 41 (.mkI 136 (.t 40)),ii 42 (.build [.str ⟨#[]⟩,.nilI] [(0,1,.k (.c (.str ⟨#[109,97,107,101]⟩))),(1,1,.t 41)]),ii 43 (.mkI 138 (.t 42)),im 6 43] false) .ret) (.seq (.region [im 45 0,ii 46 (.len (.t 45)),ii 47 (.bin .eql (.t 46) (ki 0)),im 48 47,ig 49 (.mv (.t 8)) 48 true,ig 50 (.un .not (.t 49)) 48 true,ii 51 (.pick (.t 48) (.t 50) (.k (.c (.bool false)))),im 52 51,ig 53 (.mv (.t 1)) 52 false,ig 54 (.bin .eql (.t 53) (ki 2)) 52 false,ig 55 (.mv (.t 54)) 52 false,ig 56 (.mv (.t 2)) 55 true,ig 57 (.bin .eql (.t 56) (ki 0)) 55 true,ig 58 (.pick (.t 55) (.t 57) (.k (.c (.bool false)))) 52 false,ii 59 (.pick (.t 52) (.k (.c (.bool true))) (.t 58)),im 44 59] false) (.cond (.t 44) (.seq (.region [ii 60 (.build [.int .i64 0] [(0,1,.k (.c (.int .i64 1)))]),ii 61 (.mkI 136 (.t 60)),ii 62 (.build [.str ⟨#[]⟩,.nilI] [(0,1,.k (.c (.str ⟨#[109,97,107,101]⟩))),(1,1,.t 61)]),ii 63 (.mkI 138 (.t 62)),im 6 63] false) .ret) (.seq (.region [im 65 1,ii 66 (.bin .eql (.t 65) (ki 1)),im 67 66,ig 68 (.mv (.t 7)) 67 true,ii 69 (.pick (.t 67) (.t 68) (.k (.c (.bool false)))),im 64 69] false) (.cond (.t 64) (.seq (.region [ii 70 (.build [.int .i64 0] [(0,1,.k (.c (.int .i64 3)))]),ii 71 (.mkI 136 (.t 70)),ii 72 (.build [.str ⟨#[]⟩,.nilI] [(0,1,.k (.c (.str ⟨#[109,97,107,101]⟩))),(1,1,.t 71)]),ii 73 (.mkI 138 (.t 72)),im 6 73] false) .ret) (.seq (.region [im 75 1,ii 76 (.bin .eql (.t 75) (ki 2)),im 77 76,ig 78 (.mv (.t 7)) 77 true,ig 79 (.un .not (.t 78)) 77 true,ii 80 (.pick (.t 77) (.t 79) (.k (.c (.bool false)))),im 74 80] false) (.cond (.t 74) (.seq (.region [ii 81 (.build [.int .i64 0] [(0,1,.k (.c (.int .i64 2)))]),ii 82 (.mkI 136 (.t 81)),ii 83 (.build [.str ⟨#[]⟩,.nilI] [(0,1,.k (.c (.str ⟨#[109,97,107,101]⟩))),(1,1,.t 82)]),ii 84 (.mkI 138 (.t 83)),im 6 84] false) .ret) (.seq (.region [im 86 0,ii 87 (.len (.t 86)),ii 88 (.bin .geq (.t 87) (ki 40)),im 85 88] false) (.cond (.t 85) (.seq (.region [ii 89 (.build [.int .i64 0] [(0,1,.k (.c (.int .i64 12)))]),ii 90 (.mkI 136 (.t 89)),ii 91 (.build [.str ⟨#[]⟩,.nilI] [(0,1,.k (.c (.str ⟨#[109,97,107,101]⟩))),(1,1,.t 90)]),ii 92 (.mkI 138 (.t 91)),im 6 92] false) .ret) .skip))))))))))) (.seq (.region [ii 6 (.mv (.k (.c .nilI)))] false) .ret))))⟩
theorem Z4t : Zm Tryz.prog 50 = some Zwe.erase := by kernel_rfl
def Zt0 : AFun := ⟨[.tmp 3],.seq (.region [iz 2 (.box (.t 0)),ii 3 (.mv (.k (.c (.bool false))))] false) (.seq (.region [ifl 4 0 2,il 5 4,il 6 1,ibt 7 .eql 5 6,im 3 7] false) .ret)⟩
theorem Z2v : Zm Tryz.prog 63 = some Zt0.erase := by kernel_rfl
def Zrj : AFun := ⟨[.tmp 6,.tmp 7],.seq (.region [iz 4 (.box (.t 1)),iz 5 (.box (.t 2)),ii 6 (.mv (.k (.c (.str ⟨#[]⟩)))),ii 7 (.mv (.k (.c (.bool false))))] false) (.seq (.region [ifl 11 4 4,il 12 11,ii 13 (.mkF 63 [.t 5]),icl 14 62 [.t 12,.t 13],im 8 14] false) (.seq (.seq (.region [im 15 8,ii 16 (.bin .lss (.t 15) (ki 0))] false) (.cond (.t 16) (.seq (.region [ii 6 (.mv (.k (.c (.str ⟨#[]⟩)))),ii 7 (.mv (.k (.c (.bool false))))] false) .ret) .skip)) (.seq (.region [im 18 0,icl 19 56 [.t 18],ifl 20 0 4,il 21 20,icl 22 59 [.t 21],ii 23 (.load true 6 (.t 4)),icl 24 53 [.t 23],ifl 25 4 4,il 26 25,im 27 8,ixx 28 2 26 27,ifl 29 1 28,il 30 29,icl 31 64 [.t 19,.t 22,.t 24,.t 30],im 17 31,ii 32 (.ext (.t 17) 0),ii 33 (.ext (.t 17) 1),im 9 32,im 10 33] true) (.seq (.seq (.region [im 34 10,ii 35 (.un .not (.t 34)),im 36 35,ig 37 (.mv (.t 9)) 36 false,ig 38 (.lenS (.t 37)) 36 false,ig 39 (.bin .neq (.t 38) (ki 32)) 36 false,ii 40 (.pick (.t 36) (.k (.c (.bool true))) (.t 39))] false) (.cond (.t 40) (.seq (.region [ii 6 (.mv (.k (.c (.str ⟨#[]⟩)))),ii 7 (.mv (.k (.c (.bool false))))] false) .ret) .skip)) (.seq (.region [im 41 9,im 6 41,ii 7 (.mv (.k (.c (.bool true))))] false) .ret)))))⟩
theorem Zuq : Zm Tryz.prog 23 = some Zrj.erase := by kernel_rfl
def Zfo : ACode := .seq (.region [ibt 7 .lss 6 5] false) (.seq (.cond (.t 7) .skip (.exit 0)) (.seq (.block 1 (.seq (.region [im 8 6,im 3 8] false) (.seq (.region [im 9 3,ii 10 (.bin .gtr (.t 9) (ki 0)),im 11 10,ig 12 (.mv (.t 0)) 11 true,ig 13 (.mv (.t 3)) 11 true,ig 14 (.bin .sub (.t 13) (ki 1)) 11 true,ig 15 (.ix 2 (.t 12) (.t 14)) 11 true,ig 16 (.fld 0 (.t 15)) 11 true,ig 17 (.load false 1 (.t 16)) 11 true,ig 18 (.mv (.t 0)) 11 true,ig 19 (.mv (.t 3)) 11 true,ig 20 (.ix 2 (.t 18) (.t 19)) 11 true,ig 21 (.fld 0 (.t 20)) 11 true,ig 22 (.load false 1 (.t 21)) 11 true,ig 23 (.bin .geq (.t 17) (.t 22)) 11 true,ii 24 (.pick (.t 11) (.t 23) (.k (.c (.bool false))))] true) (.cond (.t 24) (.seq (.region [ii 2 (.mv (.k (.c (.bool false))))] false) .ret) .skip)))) (.region [ii 25 (.bin .add (.t 6) (ki 1)),im 6 25] false)))
def Ziy : ACode := .seq (.region [ii 2 (.mv (.k (.c (.bool true))))] false) .ret
def Zt6 : AFun := ⟨[.tmp 2],.seq (.region [ii 2 (.mv (.k (.c (.bool false))))] false) (.seq (.seq (.region [im 4 0,ii 5 (.len (.t 4)),ii 6 (.mv (ki 0))] false) (.block 0 (.loop Zfo))) Ziy)⟩
theorem Z25 : Zm Tryz.prog 123 = some Zt6.erase := by kernel_rfl
def Zrz : AFun := ⟨[.tmp 3],.seq (.region [iz 2 (.box (.t 0)),ii 3 (.mv (.k (.c (.bool false))))] false) (.seq (.region [ifl 4 0 2,il 5 4,il 6 1,ibt 7 .eql 5 6,im 3 7] false) .ret)⟩
theorem Zzt : Zm Tryz.prog 163 = some Zrz.erase := by kernel_rfl
def Zut : AFun := ⟨[.tmp 4,.tmp 5],.seq (.region [iz 3 (.box (.t 1)),ii 4 (.mv (.k (.c (.str ⟨#[]⟩)))),ii 5 (.mv (.k (.c (.bool false))))] false) (.seq (.region [im 7 0,ii 8 (.mkF 163 [.t 3]),icl 9 136 [.t 7,.t 8],im 6 9] false) (.seq (.seq (.region [im 10 6,ii 11 (.bin .lss (.t 10) (ki 0))] false) (.cond (.t 11) (.seq (.region [ii 4 (.mv (.k (.c (.str ⟨#[]⟩)))),ii 5 (.mv (.k (.c (.bool false))))] false) .ret) .skip)) (.seq (.region [im 12 0,im 13 6,ixx 14 2 12 13,ifl 15 1 14,il 16 15,im 4 16,ii 5 (.mv (.k (.c (.bool true))))] false) .ret)))⟩
theorem Z4r : Zm Tryz.prog 127 = some Zut.erase := by kernel_rfl
def Zsp : AFun := ⟨[.tmp 3],.seq (.region [iz 2 (.box (.t 0)),ii 3 (.mv (.k (.c (.bool false))))] false) (.seq (.region [ifl 4 0 2,il 5 4,ifl 6 0 1,il 7 6,ibt 8 .eql 5 7,im 3 8] false) .ret)⟩
theorem Z0d : Zm Tryz.prog 125 = some Zsp.erase := by kernel_rfl
def Zvs : AFun := ⟨[.tmp 6],.seq (.region [iz 5 (.box (.t 2)),ii 6 (.mv (.k (.c .nilI)))] false) (.seq (.seq (.region [im 10 0,icl 11 96 [.t 10],ii 12 (.un .not (.t 11)),im 13 12,ig 14 (.mv (.t 1)) 13 false,ig 15 (.call (.f 123) [.t 14]) 13 false,ig 16 (.un .not (.t 15)) 13 false,ii 17 (.pick (.t 13) (.k (.c (.bool true))) (.t 16))] false) (.cond (.t 17) (.seq (.region [ii 18 (.build [.int .i64 0] [(0,1,.k (.c (.int .i64 1)))]),ii 19 (.mkI 136 (.t 18)),ii 20 (.build [.str ⟨#[]⟩,.nilI] [(0,1,.k (.c (.str ⟨#[116,97,107,101]⟩))),(1,1,.t 19)]),ii 21 (.mkI 138 (.t 20)),im 6 21] false) .ret) .skip)) (.seq (.seq (.region [im 22 0,ii 23 (.mkF 125 [.t 5]),icl 24 124 [.t 22,.t 23],im 7 24] false) (.seq (.region [im 25 7,ii 26 (.bin .geq (.t 25) (ki 0))] false) (.cond (.t 26) (.seq (.seq (.region [im 27 0,im 28 7,ixx 29 6 27 28,ii 30 (.load true 6 (.t 29)),ii 31 (.load true 6 (.t 5)),icl 32 126 [.t 30,.t 31]] true) (.cond (.t 32) (.seq (.region [ii 33 (.build [.int .i64 0] [(0,1,.k (.c (.int .i64 10)))]),ii 34 (.mkI 136 (.t 33)),ii 35 (.build [.str ⟨#[]⟩,.nilI] [(0,1,.k (.c (.str ⟨#[116,97,107,101]⟩))),(1,1,.t 34)]),ii 36 (.mkI 138 (.t 35)),im 6 36] false) .ret) .skip)) (.seq (.region [ii 37 (.build [.int .i64 0] [(0,1,.k (.c (.int .i64 11)))]),ii 38 (.mkI 136 (.t 37)),ii 39 (.build [.str ⟨#[]⟩,.nilI] [(0,1,.k (.c (.str ⟨#[116,97,107,101]⟩))),(1,1,.t 38)]),ii 40 (.mkI 138 (.t 39)),im 6 40] false) .ret)) .skip))) (.seq (.region [im 42 1,ifl 43 0 5,il 44 43,ii 45 (.bin .sub (.t 44) (ki 1)),icl 46 127 [.t 42,.t 45],im 41 46,ii 47 (.ext (.t 41) 0),ii 48 (.ext (.t 41) 1),im 8 47,im 9 48] false) (.seq (.block 0 (.seq (.region [ifl 50 0 5,il 51 50,im 52 0,ii 53 (.len (.t 52)),ii 54 (.bin .add (.t 53) (ki 1)),ibt 55 .gtr 51 54,im 49 55] false) (.cond (.t 49) (.seq (.region [ii 56 (.build [.int .i64 0] [(0,1,.k (.c (.int .i64 6)))]),ii 57 (.mkI 136 (.t 56)),ii 58 (.build [.str ⟨#[]⟩,.nilI] [(0,1,.k (.c (.str ⟨#[116,97,107,101]⟩))),(1,1,.t 57)]),ii 59 (.mkI 138 (.t 58)),im 6 59] false) .ret) (.seq (.region [im 61 0,icl 62 55 [.t 61],ii 63 (.load true 6 (.t 5)),iz 64 (.lit 6 [.int .i64 0,.str ⟨#[]⟩,.int .i64 0,.int .i64 0,.nilS,.str ⟨#[]⟩] 1 [(0,.t 63)]),ii 65 (.app 6 80 (.t 62) (.t 64)),icl 66 96 [.t 65],ii 67 (.un .not (.t 66)),im 60 67] true) (.cond (.t 60) (.seq (.region [ii 68 (.build [.int .i64 0] [(0,1,.k (.c (.int .i64 11)))]),ii 69 (.mkI 136 (.t 68)),ii 70 (.build [.str ⟨#[]⟩,.nilI] [(0,1,.k (.c (.str ⟨#[116,97,107,101]⟩))),(1,1,.t 69)]),ii 71 (.mkI 138 (.t 70)),im 6 71] false) .ret) (.seq (.region [im 73 9,im 74 73,ig 75 (.fld 5 (.t 5)) 74 true,ig 76 (.load false 1 (.t 75)) 74 true,ig 77 (.mv (.t 8)) 74 true,ig 78 (.load true 6 (.t 5)) 74 true,ig 79 (.call (.f 26) [.t 77,.t 78]) 74 true,ig 80 (.call (.f 128) [.t 76,.t 79]) 74 true,ig 81 (.un .not (.t 80)) 74 true,ii 82 (.pick (.t 74) (.t 81) (.k (.c (.bool false)))),im 72 82] true) (.cond (.t 72) (.seq (.region [ii 83 (.build [.int .i64 0] [(0,1,.k (.c (.int .i64 9)))]),ii 84 (.mkI 136 (.t 83)),ii 85 (.build [.str ⟨#[]⟩,.nilI] [(0,1,.k (.c (.str ⟨#[116,97,107,101]⟩))),(1,1,.t 84)]),ii 86 (.mkI 138 (.t 85)),im 6 86] false) .ret) .skip))))))) (.seq (.region [ii 6 (.mv (.k (.c .nilI)))] false) .ret)))))⟩
theorem Z43 : Zm Tryz.prog 79 = some Zvs.erase := by kernel_rfl
def Zd4 : ACode := .seq (.region [ibt 9 .lss 8 7] false) (.seq (.cond (.t 9) .skip (.exit 0)) (.seq (.block 1 (.seq (.region [im 10 8,im 5 10] false) (.seq (.region [im 11 1,im 12 0,im 13 5,ixx 14 2 12 13,ii 15 (.load true 2 (.t 14)),ii 16 (.call (.t 11) [.t 15])] false) (.cond (.t 16) (.seq (.region [im 17 5,im 4 17] false) .ret) .skip)))) (.region [ii 18 (.bin .add (.t 8) (ki 1)),im 8 18] false)))
def Zfx : ACode := .seq (.region [ii 4 (.mv (ki (-1)))] false) .ret
def Zje : AFun := ⟨[.tmp 4],.seq (.region [ii 4 (.mv (ki 0))] false) (.seq (.seq (.region [im 6 0,ii 7 (.len (.t 6)),ii 8 (.mv (ki 0))] false) (.block 0 (.loop Zd4))) Zfx)⟩
theorem Zpv : Zm Tryz.prog 62 = some Zje.erase := by kernel_rfl
def Zdk : ACode := .seq (.region [ibt 9 .lss 8 7] false) (.seq (.cond (.t 9) .skip (.exit 0)) (.seq (.block 1 (.seq (.region [im 10 8,im 5 10] false) (.seq (.region [im 11 1,im 12 0,im 13 5,ixx 14 2 12 13,ii 15 (.load true 2 (.t 14)),ii 16 (.call (.t 11) [.t 15])] false) (.cond (.t 16) (.seq (.region [im 17 5,im 4 17] false) .ret) .skip)))) (.region [ii 18 (.bin .add (.t 8) (ki 1)),im 8 18] false)))
def Zej : ACode := .seq (.region [ii 4 (.mv (ki (-1)))] false) .ret
def Zg7 : AFun := ⟨[.tmp 4],.seq (.region [ii 4 (.mv (ki 0))] false) (.seq (.seq (.region [im 6 0,ii 7 (.len (.t 6)),ii 8 (.mv (ki 0))] false) (.block 0 (.loop Zdk))) Zej)⟩
theorem Zlv : Zm Tryz.prog 136 = some Zg7.erase := by kernel_rfl
def Zdu : ACode := .seq (.region [ibt 9 .lss 8 7] false) (.seq (.cond (.t 9) .skip (.exit 0)) (.seq (.block 1 (.seq (.region [im 10 8,im 5 10] false) (.seq (.region [im 11 1,im 12 0,im 13 5,ixx 14 6 12 13,ii 15 (.load true 6 (.t 14)),ii 16 (.call (.t 11) [.t 15])] false) (.cond (.t 16) (.seq (.region [im 17 5,im 4 17] false) .ret) .skip)))) (.region [ii 18 (.bin .add (.t 8) (ki 1)),im 8 18] false)))
def Ze6 : ACode := .seq (.region [ii 4 (.mv (ki (-1)))] false) .ret
def Zh2 : AFun := ⟨[.tmp 4],.seq (.region [ii 4 (.mv (ki 0))] false) (.seq (.seq (.region [im 6 0,ii 7 (.len (.t 6)),ii 8 (.mv (ki 0))] false) (.block 0 (.loop Zdu))) Ze6)⟩
theorem Zni : Zm Tryz.prog 124 = some Zh2.erase := by kernel_rfl
def Z35 : AFun := ⟨[.tmp 4],.seq (.region [ii 3 (.box (.t 1)),ii 4 (.mv (.k (.c (.str ⟨#[]⟩))))] false) (.seq (.seq (.region [ii 5 (.load true 6 (.t 3)),icl 6 61 [.t 5],ii 7 (.un .not (.t 6))] false) (.cond (.t 7) (.seq (.region [ii 4 (.mv (.k (.c (.str ⟨#[]⟩))))] false) .ret) .skip)) (.seq (.region [ifl 8 5 3,ie (.store 1 (.t 8) (.k (.c (.str ⟨#[]⟩))))] false) (.seq (.region [im 9 0,ii 10 (.load true 6 (.t 3)),icl 11 71 [.t 10],icl 12 82 [.t 9,.t 11],ii 13 (.slS (.t 12) none (some (ki 16))),im 4 13] false) .ret)))⟩
theorem Zbbd : Zm Tryz.prog 35 = some Z35.erase := by kernel_rfl
def Zkb : ACode := .seq (.seq (.region [im 9 7,ifl 10 4 4,il 11 10,ii 12 (.len (.t 11)),ibt 13 .lss 9 12] false) (.cond (.t 13) .skip (.exit 0))) (.seq (.block 1 (.seq (.seq (.region [ifl 16 4 4,il 17 16,im 18 7,ixx 19 2 17 18,ifl 20 0 19,il 21 20,im 22 2,ibt 23 .neq 21 22] false) (.cond (.t 23) (.exit 1) .skip)) (.seq (.region [im 24 0,icl 25 73 [.t 24],ifl 26 0 4,il 27 26,icl 28 74 [.t 27],ii 29 (.load true 6 (.t 4)),icl 30 75 [.t 29],ifl 31 4 4,il 32 31,im 33 7,ixx 34 2 32 33,ifl 35 1 34,il 36 35,icl 37 76 [.t 25,.t 28,.t 30,.t 36],ii 8 (.new [.str ⟨#[]⟩,.bool false]),ie (.store 2 (.t 8) (.t 37))] true) (.seq (.seq (.region [ifl 38 1 8,il 39 38,ii 40 (.un .not (.t 39)),im 41 40,ig 42 (.fld 0 (.t 8)) 41 false,ig 43 (.load false 1 (.t 42)) 41 false,ig 44 (.lenS (.t 43)) 41 false,ig 45 (.bin .neq (.t 44) (ki 32)) 41 false,ii 46 (.pick (.t 41) (.k (.c (.bool true))) (.t 45))] false) (.cond (.t 46) (.seq (.region [ii 47 (.build [.str ⟨#[]⟩,.bool false] []),ie (.store 2 (.t 6) (.t 47))] false) .ret) .skip)) (.seq (.region [ii 48 (.load true 2 (.t 8)),ie (.store 2 (.t 6) (.t 48))] false) .ret))))) (.region [im 14 7,ii 15 (.bin .add (.t 14) (ki 1)),im 7 15] false))
def Zne : ACode := .seq (.region [ii 49 (.build [.str ⟨#[]⟩,.bool false] []),ie (.store 2 (.t 6) (.t 49))] false) .ret
def Zvf : AFun := ⟨[.cell 6 true 2],.seq (.region [iz 4 (.box (.t 1)),ii 6 (.new [.str ⟨#[]⟩,.bool false])] false) (.seq (.seq (.region [ii 7 (.mv (ki 0))] false) (.block 0 (.loop Zkb))) Zne)⟩
theorem Z5p : Zm Tryz.prog 31 = some Zvf.erase := by kernel_rfl
def Ze8 : ACode := .seq (.seq (.region [im 4 3,im 5 0,ii 6 (.len (.t 5)),ibt 7 .lss 4 6] false) (.cond (.t 7) .skip (.exit 0))) (.seq (.block 1 (.seq (.region [im 10 0,im 11 3,ii 12 (.bin .sub (.t 11) (ki 1)),ixx 13 2 10 12,ifl 14 0 13,il 15 14,im 16 0,im 17 3,ixx 18 2 16 17,ifl 19 0 18,il 20 19,ibt 21 .geq 15 20] true) (.cond (.t 21) (.seq (.region [ii 2 (.mv (.k (.c (.bool false))))] false) .ret) .skip))) (.region [im 8 3,ii 9 (.bin .add (.t 8) (ki 1)),im 3 9] false))
def Zgu : ACode := .seq (.region [ii 2 (.mv (.k (.c (.bool true))))] false) .ret
def Zp5 : AFun := ⟨[.tmp 2],.seq (.region [ii 2 (.mv (.k (.c (.bool false))))] false) (.seq (.seq (.region [ii 3 (.mv (ki 1))] false) (.block 0 (.loop Ze8))) Zgu)⟩
theorem Zxe : Zm Tryz.prog 81 = some Zp5.erase := by kernel_rfl
def Zlf : ACode := .seq (.seq (.region [im 6 5,im 7 0,ii 8 (.len (.t 7)),ibt 9 .lss 6 8] false) (.cond (.t 9) .skip (.exit 0))) (.seq (.block 1 (.seq (.region [im 12 0,im 13 5,ixx 14 2 12 13,ifl 15 0 14,il 16 15,im 17 1,ibt 18 .eql 16 17] false) (.cond (.t 18) (.seq (.region [im 19 0,im 20 5,ixx 21 2 19 20,ifl 22 1 21,il 23 22,ii 24 (.build [.str ⟨#[]⟩,.bool false] [(0,1,.t 23),(1,1,.k (.c (.bool true)))]),ie (.store 2 (.t 4) (.t 24))] false) .ret) .skip))) (.region [im 10 5,ii 11 (.bin .add (.t 10) (ki 1)),im 5 11] false))
def Zp0 : ACode := .seq (.region [ii 25 (.build [.str ⟨#[]⟩,.bool false] []),ie (.store 2 (.t 4) (.t 25))] false) .ret
def Zyc : AFun := ⟨[.cell 4 true 2],.seq (.region [ii 4 (.new [.str ⟨#[]⟩,.bool false])] false) (.seq (.seq (.region [ii 5 (.mv (ki 0))] false) (.block 0 (.loop Zlf))) Zp0)⟩
theorem Z63 : Zm Tryz.prog 39 = some Zyc.erase := by kernel_rfl
theorem Zbge {s : ByteArray} (h : 16 ≤ s.size) (e : Env) (H : Heap) : vSlS (.c (.str s)) e none (some (.k (.c (.int .i64 16)))) H = some (.c (.str (s.extract 0 16)),H) := Zf8 (k := 16) rfl h
theorem Ztq (key : ByteArray) (r : Rec) (hk : key.size ≤ 1000000) : Pr 35 [sC key,.agg r.cells] (sC (tagR key r)) := by
 have hm := Zhb r
 have hput := Zpu { r with tag := Z2 }
 have hz := Zvc { r with tag := Z2 }
 have hmac := Ziu key (putR { r with tag := Z2 }) (by omega) (by omega)
 have hsz := Zev key (putR { r with tag := Z2 })
 have hcl := Rec.closed r
 unfold tagR
 generalize macD key (putR { r with tag := Z2 }) = T16 at hmac hsz ⊢
 generalize putR { r with tag := Z2 } = P at hput hmac
 have hsl := Zbge (s := T16) (by omega)
 refine Zl mixed Zbbd (by simp [Zo,Zn,Zc,hcl]) fun hl T => ?_
 unfold Z35
 generalize Z9 r = mb at hm ⊢
 obtain ⟨seq,prev,kind,dev,wraps,tag⟩ := r
 simp only [Rec.cells] at hm hcl hput ⊢
 simp only [go_sem,simprocAttr,Ztn]
 refine Za hm ?_
 cases mb with
 | false =>
  simp only [go_sem,simprocAttr]
  simp [Zf,Ze,Zi,Zg,Zh,Zd,Zc,Zb]
 | true =>
  simp only [go_sem,simprocAttr]
  refine Za hput ?_
  simp only [go_sem,simprocAttr]
  refine Za hmac ?_
  simp only [go_sem,simprocAttr,hsl]
  simp [Zf,Ze,Zi,Zg,Zh,Zd,Zc,Zb]
theorem Zrd (key : ByteArray) (r : Rec) (hk : key.size ≤ 1000000) : Pr 26 [sC key,.agg r.cells] (sC (tagR key r)) := by
 have hm := Zkc r
 have hput := Zuc { r with tag := Z2 }
 have hz := Zvc { r with tag := Z2 }
 have hcat : catS [putR { r with tag := Z2 }] = putR { r with tag := Z2 } := Zep _
 have hmac := Zrm key [putR { r with tag := Z2 }] (by omega) (by simp) (by rw [hcat]; omega)
 rw [hcat] at hmac
 have hsz := Zev key (putR { r with tag := Z2 })
 have hcl := Rec.closed r
 unfold tagR
 generalize macD key (putR { r with tag := Z2 }) = T16 at hmac hsz ⊢
 generalize putR { r with tag := Z2 } = P at hput hmac
 have hsl := Zbge (s := T16) (by omega)
 refine Zl mixed Z9u (by simp [Zo,Zn,Zc,hcl]) fun hl T => ?_
 unfold Z1e
 generalize Z9 r = mb at hm ⊢
 obtain ⟨seq,prev,kind,dev,wraps,tag⟩ := r
 simp only [Rec.cells] at hm hcl hput ⊢
 simp only [go_sem,simprocAttr,Ztn]
 refine Za hm ?_
 cases mb with
 | false =>
  simp only [go_sem,simprocAttr]
  simp [Zf,Ze,Zi,Zg,Zh,Zd,Zc,Zb]
 | true =>
  simp only [go_sem,simprocAttr]
  refine Za hput ?_
  simp only [go_sem,simprocAttr]
  refine Za hmac ?_
  simp only [go_sem,simprocAttr,hsl]
  simp [Zf,Ze,Zi,Zg,Zh,Zd,Zc,Zb]
theorem Z7j {log : List Rec} (h : log ≠ []) : ∃ l : Rec,(log.map Rec.cells)[log.length - 1]? = some l.cells ∧ Zkv l = Zbl log := by
 have hl : 0 < log.length := List.length_pos_iff.2 h
 refine ⟨log[log.length - 1]'(by omega),?_,?_⟩
 ·rw [List.getElem?_map,List.getElem?_eq_getElem (by omega)]
  rfl
 ·unfold Zbl
  rw [List.getLast?_eq_getElem?,List.getElem?_eq_getElem (by omega)]
theorem Z5i (log : List Rec) (kind dev : Int) (h40 : log.length ≤ 40) : Pr 52 [.c (Zw log),iC kind,iC dev] (.agg [.int .i64 ((log.length : Int) + 1),.str (Zbl log),.int .i64 kind,.int .i64 dev,.nilS,.str ⟨#[]⟩]) := by
 refine Zl mixed Z6v (by simp [Zo,Zn,Zc,Zw,Z4]) fun hl T => ?_
 unfold Zx1
 have hml : (log.map Rec.cells).length = log.length := by simp
 have hw1 : IntKind.wrap .i64 ((log.length : Int) + 1) = (log.length : Int) + 1 := Zr (by omega)
 have hw2 : IntKind.wrap .i64 ((log.length : Int) - 1) = (log.length : Int) - 1 := Zr (by omega)
 simp only [Zw]
 by_cases hz : log = []
 ·have hpos : ¬ ((0 : Int) < (log.length : Int)) := by rw [hz]; simp
  have hp0 : Zbl log = ⟨#[]⟩ := by rw [hz]; rfl
  rw [hp0]
  simp only [go_sem,simprocAttr,hml,hw1,hpos]
  simp [Zf,Ze,Zi,Zg,Zh,Zd,Zc,Zb]
 ·obtain ⟨l,hl1,hl2⟩ := Z7j hz
  have hpos : (0 : Int) < (log.length : Int) := by have := List.length_pos_iff.2 hz; omega
  have hti : ((log.length : Int) - 1).toNat = log.length - 1 := by omega
  have hge : (0 : Int) ≤ (log.length : Int) - 1 := by omega
  have hhash := Zsr l
  rw [hl2] at hhash
  have hlen6 : ∀ l : Rec,l.cells.length = 6 := fun _ => rfl
  have htk6 : ∀ l : Rec,l.cells.take 6 = l.cells := fun _ => rfl
  have hix : ∀ H : Heap,vIx 6 (.c (.lst 6 (log.map Rec.cells))) (iC ((log.length : Int) - 1)) H = some (.c (.fp l.cells 0),H) := fun H => by
   simp only [vIx]
   rw [if_pos ⟨trivial,hge⟩,hti,hl1]
  simp only [go_sem,simprocAttr,hml,hw1,hw2,hpos,hix,hlen6,htk6]
  refine Za hhash ?_
  simp only [go_sem,simprocAttr]
  simp [Zf,Ze,Zi,Zg,Zh,Zd,Zc,Zb]
abbrev Zbib (n : Int) : Cell := .iface 136 true [.int .i64 n]
abbrev Z1l (s : ByteArray) (n : Int) : Cell := .iface 138 true [.str s,Zbib n]
abbrev Zz9 : ByteArray := ⟨#[109,97,107,101]⟩
abbrev Z1q : ByteArray := ⟨#[116,97,107,101]⟩
def Zz (s : ByteArray) (n : Int) : AVal := if n = 0 then .c .nilI else .c (Z1l s n)
set_option maxHeartbeats 4000000 in
theorem Z4v (log : List Rec) (kind dev : Int) : Pr 50 [.c (Zw log),iC kind,iC dev] (Zz Zz9 (Zcv log kind dev)) := by
 have hin := Zu6 log log.length dev
 have hck := Zln log
 obtain ⟨E,hE⟩ : ∃ E,E = Zcv log kind dev := ⟨_,rfl⟩
 rw [← hE]
 unfold Zcv at hE
 refine Zl mixed Z4t (by simp [Zo,Zn,Zc,Zw,Z4]) fun hl T => ?_
 have hlen : log.length ≤ maxLen := by simp [Zd7,lenA,lenC,Zw] at hl; exact hl
 unfold Zwe
 have hml : ((log.map Rec.cells).length : Int) = (log.length : Int) := by simp
 simp only [Zw] at hin hck ⊢
 generalize memL log log.length dev = m at hin hE
 generalize Zcx log = ck at hck hE
 have n0 : (log.length = 0) = ((log.length : Int) = 0) := by rw [Int.natCast_eq_zero]
 have n40 : (40 ≤ log.length) = ((40 : Int) ≤ (log.length : Int)) := by apply propext; omega
 simp only [n0,n40] at hE
 clear n0 n40 hl
 generalize (log.length : Int) = N at hin hE hml ⊢
 simp only [go_sem,simprocAttr,hml]
 refine Za hin ?_
 have q21 : ¬ ((2 : Int) = 1) := by omega
 have q12 : ¬ ((1 : Int) = 2) := by omega
 by_cases k1 : kind = 1
 ·subst k1
  by_cases d1 : dev < 0
  ·have d0 : ¬ dev = 0 := by omega
   simp only [go_sem,simprocAttr,hml,q21,q12,eq_self,d1,d0]
   simp [Zf,Ze,Zi,Zg,Zh,Zd,Zc,Zb,hE,Zz,q21,q12,eq_self,d1,d0]
  by_cases d2 : 8 ≤ dev
  ·have d0 : ¬ dev = 0 := by omega
   simp only [go_sem,simprocAttr,hml,q21,q12,eq_self,d1,d2,d0]
   simp [Zf,Ze,Zi,Zg,Zh,Zd,Zc,Zb,hE,Zz,q21,q12,eq_self,d1,d2,d0]
  cases ck with
  | false =>
   by_cases d0 : dev = 0
   ·simp only [go_sem,simprocAttr,hml,q21,q12,eq_self,d1,d2,d0]
    refine Za hck ?_
    simp only [go_sem,simprocAttr,hml,q21,q12,eq_self,d1,d2,d0]
    simp [Zf,Ze,Zi,Zg,Zh,Zd,Zc,Zb,hE,Zz,q21,q12,eq_self,d1,d2,d0]
   ·simp only [go_sem,simprocAttr,hml,q21,q12,eq_self,d1,d2,d0]
    refine Za hck ?_
    simp only [go_sem,simprocAttr,hml,q21,q12,eq_self,d1,d2,d0]
    simp [Zf,Ze,Zi,Zg,Zh,Zd,Zc,Zb,hE,Zz,q21,q12,eq_self,d1,d2,d0]
  | true =>
   by_cases d0 : dev = 0
   ·by_cases l0 : N = 0
    ·by_cases l40 : 40 ≤ N
     ·cases m with
      | false =>
       simp only [go_sem,simprocAttr,hml,q21,q12,eq_self,d1,d2,d0,l0,l40]
       refine Za hck ?_
       simp only [go_sem,simprocAttr,hml,q21,q12,eq_self,d1,d2,d0,l0,l40]
       simp [Zf,Ze,Zi,Zg,Zh,Zd,Zc,Zb,hE,Zz,q21,q12,eq_self,d1,d2,d0,l0,l40]
      | true =>
       simp only [go_sem,simprocAttr,hml,q21,q12,eq_self,d1,d2,d0,l0,l40]
       refine Za hck ?_
       simp only [go_sem,simprocAttr,hml,q21,q12,eq_self,d1,d2,d0,l0,l40]
       simp [Zf,Ze,Zi,Zg,Zh,Zd,Zc,Zb,hE,Zz,q21,q12,eq_self,d1,d2,d0,l0,l40]
     ·cases m with
      | false =>
       simp only [go_sem,simprocAttr,hml,q21,q12,eq_self,d1,d2,d0,l0,l40]
       refine Za hck ?_
       simp only [go_sem,simprocAttr,hml,q21,q12,eq_self,d1,d2,d0,l0,l40]
       simp [Zf,Ze,Zi,Zg,Zh,Zd,Zc,Zb,hE,Zz,q21,q12,eq_self,d1,d2,d0,l0,l40]
      | true =>
       simp only [go_sem,simprocAttr,hml,q21,q12,eq_self,d1,d2,d0,l0,l40]
       refine Za hck ?_
       simp only [go_sem,simprocAttr,hml,q21,q12,eq_self,d1,d2,d0,l0,l40]
       simp [Zf,Ze,Zi,Zg,Zh,Zd,Zc,Zb,hE,Zz,q21,q12,eq_self,d1,d2,d0,l0,l40]
    ·by_cases l40 : 40 ≤ N
     ·cases m with
      | false =>
       simp only [go_sem,simprocAttr,hml,q21,q12,eq_self,d1,d2,d0,l0,l40]
       refine Za hck ?_
       simp only [go_sem,simprocAttr,hml,q21,q12,eq_self,d1,d2,d0,l0,l40]
       simp [Zf,Ze,Zi,Zg,Zh,Zd,Zc,Zb,hE,Zz,q21,q12,eq_self,d1,d2,d0,l0,l40]
      | true =>
       simp only [go_sem,simprocAttr,hml,q21,q12,eq_self,d1,d2,d0,l0,l40]
       refine Za hck ?_
       simp only [go_sem,simprocAttr,hml,q21,q12,eq_self,d1,d2,d0,l0,l40]
       simp [Zf,Ze,Zi,Zg,Zh,Zd,Zc,Zb,hE,Zz,q21,q12,eq_self,d1,d2,d0,l0,l40]
     ·cases m with
      | false =>
       simp only [go_sem,simprocAttr,hml,q21,q12,eq_self,d1,d2,d0,l0,l40]
       refine Za hck ?_
       simp only [go_sem,simprocAttr,hml,q21,q12,eq_self,d1,d2,d0,l0,l40]
       simp [Zf,Ze,Zi,Zg,Zh,Zd,Zc,Zb,hE,Zz,q21,q12,eq_self,d1,d2,d0,l0,l40]
      | true =>
       simp only [go_sem,simprocAttr,hml,q21,q12,eq_self,d1,d2,d0,l0,l40]
       refine Za hck ?_
       simp only [go_sem,simprocAttr,hml,q21,q12,eq_self,d1,d2,d0,l0,l40]
       simp [Zf,Ze,Zi,Zg,Zh,Zd,Zc,Zb,hE,Zz,q21,q12,eq_self,d1,d2,d0,l0,l40]
   ·by_cases l0 : N = 0
    ·by_cases l40 : 40 ≤ N
     ·cases m with
      | false =>
       simp only [go_sem,simprocAttr,hml,q21,q12,eq_self,d1,d2,d0,l0,l40]
       refine Za hck ?_
       simp only [go_sem,simprocAttr,hml,q21,q12,eq_self,d1,d2,d0,l0,l40]
       simp [Zf,Ze,Zi,Zg,Zh,Zd,Zc,Zb,hE,Zz,q21,q12,eq_self,d1,d2,d0,l0,l40]
      | true =>
       simp only [go_sem,simprocAttr,hml,q21,q12,eq_self,d1,d2,d0,l0,l40]
       refine Za hck ?_
       simp only [go_sem,simprocAttr,hml,q21,q12,eq_self,d1,d2,d0,l0,l40]
       simp [Zf,Ze,Zi,Zg,Zh,Zd,Zc,Zb,hE,Zz,q21,q12,eq_self,d1,d2,d0,l0,l40]
     ·cases m with
      | false =>
       simp only [go_sem,simprocAttr,hml,q21,q12,eq_self,d1,d2,d0,l0,l40]
       refine Za hck ?_
       simp only [go_sem,simprocAttr,hml,q21,q12,eq_self,d1,d2,d0,l0,l40]
       simp [Zf,Ze,Zi,Zg,Zh,Zd,Zc,Zb,hE,Zz,q21,q12,eq_self,d1,d2,d0,l0,l40]
      | true =>
       simp only [go_sem,simprocAttr,hml,q21,q12,eq_self,d1,d2,d0,l0,l40]
       refine Za hck ?_
       simp only [go_sem,simprocAttr,hml,q21,q12,eq_self,d1,d2,d0,l0,l40]
       simp [Zf,Ze,Zi,Zg,Zh,Zd,Zc,Zb,hE,Zz,q21,q12,eq_self,d1,d2,d0,l0,l40]
    ·by_cases l40 : 40 ≤ N
     ·cases m with
      | false =>
       simp only [go_sem,simprocAttr,hml,q21,q12,eq_self,d1,d2,d0,l0,l40]
       refine Za hck ?_
       simp only [go_sem,simprocAttr,hml,q21,q12,eq_self,d1,d2,d0,l0,l40]
       simp [Zf,Ze,Zi,Zg,Zh,Zd,Zc,Zb,hE,Zz,q21,q12,eq_self,d1,d2,d0,l0,l40]
      | true =>
       simp only [go_sem,simprocAttr,hml,q21,q12,eq_self,d1,d2,d0,l0,l40]
       refine Za hck ?_
       simp only [go_sem,simprocAttr,hml,q21,q12,eq_self,d1,d2,d0,l0,l40]
       simp [Zf,Ze,Zi,Zg,Zh,Zd,Zc,Zb,hE,Zz,q21,q12,eq_self,d1,d2,d0,l0,l40]
     ·cases m with
      | false =>
       simp only [go_sem,simprocAttr,hml,q21,q12,eq_self,d1,d2,d0,l0,l40]
       refine Za hck ?_
       simp only [go_sem,simprocAttr,hml,q21,q12,eq_self,d1,d2,d0,l0,l40]
       simp [Zf,Ze,Zi,Zg,Zh,Zd,Zc,Zb,hE,Zz,q21,q12,eq_self,d1,d2,d0,l0,l40]
      | true =>
       simp only [go_sem,simprocAttr,hml,q21,q12,eq_self,d1,d2,d0,l0,l40]
       refine Za hck ?_
       simp only [go_sem,simprocAttr,hml,q21,q12,eq_self,d1,d2,d0,l0,l40]
       simp [Zf,Ze,Zi,Zg,Zh,Zd,Zc,Zb,hE,Zz,q21,q12,eq_self,d1,d2,d0,l0,l40]
 ·by_cases k2 : kind = 2
  ·subst k2
   by_cases d1 : dev < 0
   ·have d0 : ¬ dev = 0 := by omega
    simp only [go_sem,simprocAttr,hml,q21,q12,k1,d1,d0]
    simp [Zf,Ze,Zi,Zg,Zh,Zd,Zc,Zb,hE,Zz,q21,q12,k1,d1,d0]
   by_cases d2 : 8 ≤ dev
   ·have d0 : ¬ dev = 0 := by omega
    simp only [go_sem,simprocAttr,hml,q21,q12,k1,d1,d2,d0]
    simp [Zf,Ze,Zi,Zg,Zh,Zd,Zc,Zb,hE,Zz,q21,q12,k1,d1,d2,d0]
   cases ck with
   | false =>
    by_cases d0 : dev = 0
    ·simp only [go_sem,simprocAttr,hml,q21,q12,k1,d1,d2,d0]
     refine Za hck ?_
     simp only [go_sem,simprocAttr,hml,q21,q12,k1,d1,d2,d0]
     simp [Zf,Ze,Zi,Zg,Zh,Zd,Zc,Zb,hE,Zz,q21,q12,k1,d1,d2,d0]
    ·simp only [go_sem,simprocAttr,hml,q21,q12,k1,d1,d2,d0]
     refine Za hck ?_
     simp only [go_sem,simprocAttr,hml,q21,q12,k1,d1,d2,d0]
     simp [Zf,Ze,Zi,Zg,Zh,Zd,Zc,Zb,hE,Zz,q21,q12,k1,d1,d2,d0]
   | true =>
    by_cases d0 : dev = 0
    ·by_cases l0 : N = 0
     ·by_cases l40 : 40 ≤ N
      ·cases m with
       | false =>
        simp only [go_sem,simprocAttr,hml,q21,q12,k1,d1,d2,d0,l0,l40]
        refine Za hck ?_
        simp only [go_sem,simprocAttr,hml,q21,q12,k1,d1,d2,d0,l0,l40]
        simp [Zf,Ze,Zi,Zg,Zh,Zd,Zc,Zb,hE,Zz,q21,q12,k1,d1,d2,d0,l0,l40]
       | true =>
        simp only [go_sem,simprocAttr,hml,q21,q12,k1,d1,d2,d0,l0,l40]
        refine Za hck ?_
        simp only [go_sem,simprocAttr,hml,q21,q12,k1,d1,d2,d0,l0,l40]
        simp [Zf,Ze,Zi,Zg,Zh,Zd,Zc,Zb,hE,Zz,q21,q12,k1,d1,d2,d0,l0,l40]
      ·cases m with
       | false =>
        simp only [go_sem,simprocAttr,hml,q21,q12,k1,d1,d2,d0,l0,l40]
        refine Za hck ?_
        simp only [go_sem,simprocAttr,hml,q21,q12,k1,d1,d2,d0,l0,l40]
        simp [Zf,Ze,Zi,Zg,Zh,Zd,Zc,Zb,hE,Zz,q21,q12,k1,d1,d2,d0,l0,l40]
       | true =>
        simp only [go_sem,simprocAttr,hml,q21,q12,k1,d1,d2,d0,l0,l40]
        refine Za hck ?_
        simp only [go_sem,simprocAttr,hml,q21,q12,k1,d1,d2,d0,l0,l40]
        simp [Zf,Ze,Zi,Zg,Zh,Zd,Zc,Zb,hE,Zz,q21,q12,k1,d1,d2,d0,l0,l40]
     ·by_cases l40 : 40 ≤ N
      ·cases m with
       | false =>
        simp only [go_sem,simprocAttr,hml,q21,q12,k1,d1,d2,d0,l0,l40]
        refine Za hck ?_
        simp only [go_sem,simprocAttr,hml,q21,q12,k1,d1,d2,d0,l0,l40]
        simp [Zf,Ze,Zi,Zg,Zh,Zd,Zc,Zb,hE,Zz,q21,q12,k1,d1,d2,d0,l0,l40]
       | true =>
        simp only [go_sem,simprocAttr,hml,q21,q12,k1,d1,d2,d0,l0,l40]
        refine Za hck ?_
        simp only [go_sem,simprocAttr,hml,q21,q12,k1,d1,d2,d0,l0,l40]
        simp [Zf,Ze,Zi,Zg,Zh,Zd,Zc,Zb,hE,Zz,q21,q12,k1,d1,d2,d0,l0,l40]
      ·cases m with
       | false =>
        simp only [go_sem,simprocAttr,hml,q21,q12,k1,d1,d2,d0,l0,l40]
        refine Za hck ?_
        simp only [go_sem,simprocAttr,hml,q21,q12,k1,d1,d2,d0,l0,l40]
        simp [Zf,Ze,Zi,Zg,Zh,Zd,Zc,Zb,hE,Zz,q21,q12,k1,d1,d2,d0,l0,l40]
       | true =>
        simp only [go_sem,simprocAttr,hml,q21,q12,k1,d1,d2,d0,l0,l40]
        refine Za hck ?_
        simp only [go_sem,simprocAttr,hml,q21,q12,k1,d1,d2,d0,l0,l40]
        simp [Zf,Ze,Zi,Zg,Zh,Zd,Zc,Zb,hE,Zz,q21,q12,k1,d1,d2,d0,l0,l40]
    ·by_cases l0 : N = 0
     ·by_cases l40 : 40 ≤ N
      ·cases m with
       | false =>
        simp only [go_sem,simprocAttr,hml,q21,q12,k1,d1,d2,d0,l0,l40]
        refine Za hck ?_
        simp only [go_sem,simprocAttr,hml,q21,q12,k1,d1,d2,d0,l0,l40]
        simp [Zf,Ze,Zi,Zg,Zh,Zd,Zc,Zb,hE,Zz,q21,q12,k1,d1,d2,d0,l0,l40]
       | true =>
        simp only [go_sem,simprocAttr,hml,q21,q12,k1,d1,d2,d0,l0,l40]
        refine Za hck ?_
        simp only [go_sem,simprocAttr,hml,q21,q12,k1,d1,d2,d0,l0,l40]
        simp [Zf,Ze,Zi,Zg,Zh,Zd,Zc,Zb,hE,Zz,q21,q12,k1,d1,d2,d0,l0,l40]
      ·cases m with
       | false =>
        simp only [go_sem,simprocAttr,hml,q21,q12,k1,d1,d2,d0,l0,l40]
        refine Za hck ?_
        simp only [go_sem,simprocAttr,hml,q21,q12,k1,d1,d2,d0,l0,l40]
        simp [Zf,Ze,Zi,Zg,Zh,Zd,Zc,Zb,hE,Zz,q21,q12,k1,d1,d2,d0,l0,l40]
       | true =>
        simp only [go_sem,simprocAttr,hml,q21,q12,k1,d1,d2,d0,l0,l40]
        refine Za hck ?_
        simp only [go_sem,simprocAttr,hml,q21,q12,k1,d1,d2,d0,l0,l40]
        simp [Zf,Ze,Zi,Zg,Zh,Zd,Zc,Zb,hE,Zz,q21,q12,k1,d1,d2,d0,l0,l40]
     ·by_cases l40 : 40 ≤ N
      ·cases m with
       | false =>
        simp only [go_sem,simprocAttr,hml,q21,q12,k1,d1,d2,d0,l0,l40]
        refine Za hck ?_
        simp only [go_sem,simprocAttr,hml,q21,q12,k1,d1,d2,d0,l0,l40]
        simp [Zf,Ze,Zi,Zg,Zh,Zd,Zc,Zb,hE,Zz,q21,q12,k1,d1,d2,d0,l0,l40]
       | true =>
        simp only [go_sem,simprocAttr,hml,q21,q12,k1,d1,d2,d0,l0,l40]
        refine Za hck ?_
        simp only [go_sem,simprocAttr,hml,q21,q12,k1,d1,d2,d0,l0,l40]
        simp [Zf,Ze,Zi,Zg,Zh,Zd,Zc,Zb,hE,Zz,q21,q12,k1,d1,d2,d0,l0,l40]
      ·cases m with
       | false =>
        simp only [go_sem,simprocAttr,hml,q21,q12,k1,d1,d2,d0,l0,l40]
        refine Za hck ?_
        simp only [go_sem,simprocAttr,hml,q21,q12,k1,d1,d2,d0,l0,l40]
        simp [Zf,Ze,Zi,Zg,Zh,Zd,Zc,Zb,hE,Zz,q21,q12,k1,d1,d2,d0,l0,l40]
       | true =>
        simp only [go_sem,simprocAttr,hml,q21,q12,k1,d1,d2,d0,l0,l40]
        refine Za hck ?_
        simp only [go_sem,simprocAttr,hml,q21,q12,k1,d1,d2,d0,l0,l40]
        simp [Zf,Ze,Zi,Zg,Zh,Zd,Zc,Zb,hE,Zz,q21,q12,k1,d1,d2,d0,l0,l40]
  ·by_cases d0 : dev = 0
   ·simp only [go_sem,simprocAttr,hml,q21,q12,k1,k2,d0]
    simp [Zf,Ze,Zi,Zg,Zh,Zd,Zc,Zb,hE,Zz,q21,q12,k1,k2,d0]
   ·simp only [go_sem,simprocAttr,hml,q21,q12,k1,k2,d0]
    simp [Zf,Ze,Zi,Zg,Zh,Zd,Zc,Zb,hE,Zz,q21,q12,k1,k2,d0]
theorem Zber (a b : Rec) : (a = b) ↔ (a.seq = b.seq ∧ a.prev = b.prev ∧ a.kind = b.kind ∧ a.dev = b.dev ∧ a.tag = b.tag ∧ a.wraps = b.wraps) := by
 cases a; cases b
 simp only [Rec.mk.injEq]
 constructor
 ·rintro ⟨h1,h2,h3,h4,h5,h6⟩; exact ⟨h1,h2,h3,h4,h6,h5⟩
 ·rintro ⟨h1,h2,h3,h4,h5,h6⟩; exact ⟨h1,h2,h3,h4,h6,h5⟩
set_option maxHeartbeats 1000000 in
theorem Z2e (a b : Rec) : Pr 126 [.agg a.cells,.agg b.cells] (bC (decide (a = b))) := by
 have hw := Ztg a.wraps b.wraps
 have hca := Rec.closed a
 have hcb := Rec.closed b
 have hab := Zber a b
 obtain ⟨v,hv⟩ : ∃ v,v = decide (a = b) := ⟨_,rfl⟩
 rw [← hv]
 simp only [hab,Bool.decide_and] at hv
 clear hab
 obtain ⟨s1,p1,k1,d1,w1,t1⟩ := a
 obtain ⟨s2,p2,k2,d2,w2,t2⟩ := b
 simp only [Rec.cells] at hca hcb ⊢
 simp only at hw hv
 refine Zl mixed Z2b (by simp [Zo,Zn,hca,hcb]) fun hl T => ?_
 unfold Ztx
 have hba := fun H : Heap => (Zbs (H := H) hca)
 have hbb := fun H : Heap => (Zbs (H := H) hcb)
 generalize decide (w1 = w2) = we at hw hv
 generalize Zx w1 = W1 at *
 generalize Zx w2 = W2 at *
 simp only [go_sem,simprocAttr,hba,hbb]
 by_cases e1 : s1 = s2
 ·by_cases e2 : p1 = p2
  ·by_cases e3 : k1 = k2
   ·by_cases e4 : d1 = d2
    ·by_cases e5 : t1 = t2
     ·subst e1; subst e2; subst e3; subst e4; subst e5
      simp only [go_sem,simprocAttr]
      refine Za hw ?_
      simp only [go_sem,simprocAttr]
      simp [Zf,Ze,Zi,Zg,Zh,Zd,Zc,Zb,hv]
     ·simp only [go_sem,simprocAttr,e1,e2,e3,e4,e5]
      simp [Zf,Ze,Zi,Zg,Zh,Zd,Zc,Zb,hv,e5]
    ·simp only [go_sem,simprocAttr,e1,e2,e3,e4]
     simp [Zf,Ze,Zi,Zg,Zh,Zd,Zc,Zb,hv,e4]
   ·simp only [go_sem,simprocAttr,e1,e2,e3]
    simp [Zf,Ze,Zi,Zg,Zh,Zd,Zc,Zb,hv,e3]
  ·simp only [go_sem,simprocAttr,e1,e2]
   simp [Zf,Ze,Zi,Zg,Zh,Zd,Zc,Zb,hv,e2]
 ·simp only [go_sem,simprocAttr,e1]
  simp [Zf,Ze,Zi,Zg,Zh,Zd,Zc,Zb,hv,e1]
set_option maxHeartbeats 1000000 in
theorem Zjj (a b : Rec) : Pr 34 [.agg a.cells,.agg b.cells] (bC (decide (a = b))) := by
 have hca := Rec.closed a
 have hcb := Rec.closed b
 have hab := Zber a b
 obtain ⟨v,hv⟩ : ∃ v,v = decide (a = b) := ⟨_,rfl⟩
 rw [← hv]
 simp only [hab,Bool.decide_and] at hv
 clear hab
 obtain ⟨s1,p1,k1,d1,w1,t1⟩ := a
 obtain ⟨s2,p2,k2,d2,w2,t2⟩ := b
 simp only [Rec.cells,Zx] at hca hcb ⊢
 simp only at hv
 refine Zl mixed Zxj (by simp [Zo,Zn,hca,hcb]) fun hl T => ?_
 have hlen : w1.length ≤ maxLen := by
  have h1 : lenC (.lst 2 (w1.map Wrp.cells)) := hl (.agg [.int .i64 s1,.str p1,.int .i64 k1,.int .i64 d1,.lst 2 (w1.map Wrp.cells),.str t1]) (by simp) _ (by simp)
  simpa [lenC] using h1
 unfold Zp1
 have hba := fun H : Heap => (Zbs (H := H) hca)
 have hbb := fun H : Heap => (Zbs (H := H) hcb)
 have hla : (w1.map Wrp.cells).length = w1.length := by simp
 have hlb : (w2.map Wrp.cells).length = w2.length := by simp
 simp only [go_sem,simprocAttr,hba,hbb]
 by_cases e1 : s1 = s2
 ·by_cases e2 : p1 = p2
  ·by_cases e3 : k1 = k2
   ·by_cases e4 : d1 = d2
    ·by_cases e5 : t1 = t2
     ·by_cases e6 : (w1.length : Int) = (w2.length : Int)
      ·have hvw : v = decide (w1 = w2) := by rw [hv,decide_eq_true e1,decide_eq_true e2,decide_eq_true e3,decide_eq_true e4,decide_eq_true e5]; simp
       clear hv
       subst e1; subst e2; subst e3; subst e4; subst e5
       have loop : ∀ (ra rb pa pb : List Wrp) (e : Env) (H : Heap),w1 = pa ++ ra → w2 = pb ++ rb → pa.length = pb.length → v = decide (ra = rb) → ra.length = rb.length → e 2 = .c (.fp [.int .i64 s1,.str p1,.int .i64 k1,.int .i64 d1,.lst 2 (w1.map Wrp.cells),.str t1] 0) → e 3 = .c (.fp [.int .i64 s1,.str p1,.int .i64 k1,.int .i64 d1,.lst 2 (w2.map Wrp.cells),.str t1] 0) → e 5 = iC pa.length →
         Run (Zu Tryz.prog T) ⟨[.tmp 4],fun u E => Zf E u = some (bC v)⟩ [.loop Zgv,.blk 0,.code Zji] e H := by
        intro ra
        induction ra with
        | nil =>
         intro rb pa pb e H ha hb hpp hvv hlr h2 h3 h5
         have hc := Zcf (f := Wrp.cells) ha
         refine Zj ?_
         conv => enter [3,1]; unfold Zgv
         simp only [go_sem,simprocAttr,h2,h5,hc]
         unfold Zji
         simp only [go_sem,simprocAttr]
         have : rb = [] := List.eq_nil_of_length_eq_zero hlr.symm
         subst this
         simp at hvv
         simp [Zf,Ze,Zi,Zg,Zh,Zd,Zc,Zb,hvv]
        | cons x ra ih =>
         intro rb pa pb e H ha hb hpp hvv hlr h2 h3 h5
         cases rb with
         | nil => simp at hlr
         | cons y rb =>
          have hc := Zer (f := Wrp.cells) ha
          have hra := Zb6 (f := Wrp.cells) ha
          have hrb := Zb6 (f := Wrp.cells) hb
          rw [← hpp] at hrb
          have hn := Zbt ha hlen
          refine Zj ?_
          conv => enter [3,1]; unfold Zgv
          by_cases c1 : x = y
          ·simp only [go_sem,simprocAttr,h2,h3,h5,hc,hra,hrb,Wrp.cells,Zkm,Zww,Bool.true_bne,decide_eq_true c1,hn]
           refine ih rb (pa ++ [x]) (pb ++ [y]) _ _ (by rw [ha]; simp) (by rw [hb]; simp) (by simp [hpp]) (by rw [hvv,c1]; simp) (by simpa using hlr) ?_ ?_ ?_
           ·simp only [go_sem,simprocAttr,h2]
           ·simp only [go_sem,simprocAttr,h3]
           ·simp only [go_sem,simprocAttr,hn]
          ·have hvf : v = false := by rw [hvv]; exact decide_eq_false (fun h => c1 (by injection h))
           simp only [go_sem,simprocAttr,h2,h3,h5,hc,hra,hrb,Wrp.cells,Zkm,Zww,Bool.true_bne,decide_eq_false c1]
           simp [Zf,Ze,Zi,Zg,Zh,Zd,Zc,Zb,hvf]
       simp only [go_sem,simprocAttr,hla,hlb,e6]
       refine loop w1 w2 [] [] _ _ rfl rfl rfl hvw (by omega) ?_ ?_ ?_
       ·simp only [go_sem,simprocAttr]
       ·simp only [go_sem,simprocAttr]
       ·simp only [go_sem,simprocAttr,List.length_nil,Int.natCast_zero]
      ·have hne : ¬ w1 = w2 := fun h => e6 (by rw [h])
       simp only [go_sem,simprocAttr,hla,hlb,e1,e2,e3,e4,e5,e6]
       simp [Zf,Ze,Zi,Zg,Zh,Zd,Zc,Zb,hv,hne]
     ·simp only [go_sem,simprocAttr,e1,e2,e3,e4,e5]
      simp [Zf,Ze,Zi,Zg,Zh,Zd,Zc,Zb,hv,e5]
    ·simp only [go_sem,simprocAttr,e1,e2,e3,e4]
     simp [Zf,Ze,Zi,Zg,Zh,Zd,Zc,Zb,hv,e4]
   ·simp only [go_sem,simprocAttr,e1,e2,e3]
    simp [Zf,Ze,Zi,Zg,Zh,Zd,Zc,Zb,hv,e3]
  ·simp only [go_sem,simprocAttr,e1,e2]
   simp [Zf,Ze,Zi,Zg,Zh,Zd,Zc,Zb,hv,e2]
 ·simp only [go_sem,simprocAttr,e1]
  simp [Zf,Ze,Zi,Zg,Zh,Zd,Zc,Zb,hv,e1]
theorem Wrp.closed' (w : Wrp) : Zb w.cells = true := rfl
theorem EKey.closed (k : EKey) : Zb k.cells = true := rfl
theorem Z2k (w : Wrp) (n : Int) : Pr 63 [.agg w.cells,.c (.fp [.int .i64 n] 0)] (bC (decide (w.dev = n))) := by
 have hcl := Wrp.closed' w
 refine Zl mixed Z2v (by simp [Zo,Zn,Zc,Zb,hcl]) fun hl T => ?_
 unfold Zt0
 have hbx : ∀ H : Heap,mkF H (vBox (.agg w.cells) H) = some (.c (.fp w.cells 0)) := fun H => Zbs hcl
 obtain ⟨d,b⟩ := w
 simp only [Wrp.cells] at hbx hcl ⊢
 by_cases h : d = n
 ·simp only [go_sem,simprocAttr,hbx,h]
  simp [Zf,Ze,Zi,Zg,Zh,Zd,Zc,Zb,h]
 ·simp only [go_sem,simprocAttr,hbx,h]
  simp [Zf,Ze,Zi,Zg,Zh,Zd,Zc,Zb,h]
theorem Z0l (w : EKey) (n : Int) : Pr 163 [.agg w.cells,.c (.fp [.int .i64 n] 0)] (bC (decide (w.epoch = n))) := by
 have hcl := EKey.closed w
 refine Zl mixed Zzt (by simp [Zo,Zn,Zc,Zb,hcl]) fun hl T => ?_
 unfold Zrz
 have hbx : ∀ H : Heap,mkF H (vBox (.agg w.cells) H) = some (.c (.fp w.cells 0)) := fun H => Zbs hcl
 obtain ⟨d,b⟩ := w
 simp only [EKey.cells] at hbx hcl ⊢
 by_cases h : d = n
 ·simp only [go_sem,simprocAttr,hbx,h]
  simp [Zf,Ze,Zi,Zg,Zh,Zd,Zc,Zb,h]
 ·simp only [go_sem,simprocAttr,hbx,h]
  simp [Zf,Ze,Zi,Zg,Zh,Zd,Zc,Zb,h]
def Zdd {α : Type} (q : α → Bool) : Nat → List α → Option Nat
 | _,[] => none
 | n,f :: r => if q f then some n else Zdd q (n + 1) r
theorem Zmj {α : Type} {q : α → Bool} : ∀ (l : List α) (n : Nat),(Zdd q n l = none ∧ l.find? q = none) ∨ ∃ k x,Zdd q n l = some (n + k) ∧ l[k]? = some x ∧ l.find? q = some x
 | [],n => .inl ⟨rfl,rfl⟩
 | f :: r,n => by
  cases h : q f with
  | true => exact .inr ⟨0,f,by simp [Zdd,h],rfl,by simp [h]⟩
  | false =>
   rcases Zmj (q := q) r (n + 1) with ⟨h1,h2⟩ | ⟨k,x,h1,h2,h3⟩
   ·exact .inl ⟨by simp [Zdd,h,h1],by simp [h,h2]⟩
   ·exact .inr ⟨k + 1,x,by simp [Zdd,h,h1]; omega,by simpa using h2,by simp [h,h3]⟩
theorem Wrp.closed (w : Wrp) : Zb w.cells = true := rfl
theorem Zpl (l : List Wrp) (g : Nat) (caps : List Cell) (q : Wrp → Bool) (hcc : Zb caps = true)
  (hg : ∀ f : Wrp,Pr g (.agg f.cells :: caps.map .c) (bC (q f))) : Pr 62 [.c (.lst 2 (l.map Wrp.cells)),.c (.fn g caps)] (iC (idxN (Zdd q 0 l))) := by
 have hcr : closedR (l.map Wrp.cells) = true := Zcd Wrp.closed l
 refine Zl mixed Zpv (by simp [Zo,Zn,Zc,hcr,hcc]) fun hl T => ?_
 have hlen : l.length ≤ maxLen := by simp [Zd7,lenA,lenC] at hl; exact hl
 unfold Zje
 generalize hv : Zdd q 0 l = v
 simp only [go_sem,simprocAttr]
 have hlc : ∀ f : Wrp,f.cells.length = 2 := fun _ => rfl
 have htk : ∀ f : Wrp,f.cells.take 2 = f.cells := fun _ => rfl
 have loop : ∀ (rest pre : List Wrp) (e : Env) (H : Heap),l = pre ++ rest → e 0 = .c (.lst 2 (l.map Wrp.cells)) → e 1 = .c (.fn g caps) → e 7 = iC (l.map Wrp.cells).length → e 8 = iC pre.length →
   Zdd q pre.length rest = v → Run (Zu Tryz.prog T) ⟨[.tmp 4],fun u E => Zf E u = some (iC (idxN v))⟩ [.loop Zd4,.blk 0,.code Zfx] e H := by
  intro rest
  induction rest with
  | nil =>
   intro pre e H hp h0 h1 h7 h8 hm
   have hc := Zcf (f := Wrp.cells) hp
   refine Zj ?_
   conv => enter [3,1]; unfold Zd4
   simp only [go_sem,simprocAttr,h0,h1,h7,h8,hc]
   unfold Zfx
   simp only [go_sem,simprocAttr]
   simp [Zf,Ze,Zi,Zg,Zh,Zd,Zc,Zb,← hm,Zdd,idxN]
  | cons r rest ih =>
   intro pre e H hp h0 h1 h7 h8 hm
   have hc := Zer (f := Wrp.cells) hp
   have hr := Zb6 (f := Wrp.cells) hp
   have hn := Zbt hp hlen
   refine Zj ?_
   conv => enter [3,1]; unfold Zd4
   simp only [go_sem,simprocAttr,h0,h1,h7,h8,hc,hr,hlc,htk]
   refine Za (hg r) ?_
   simp only [go_sem,simprocAttr]
   cases hpr : q r with
   | true =>
    simp only [go_sem,simprocAttr]
    simp [Zf,Ze,Zi,Zg,Zh,Zd,Zc,Zb,← hm,Zdd,hpr,idxN]
   | false =>
    simp only [go_sem,simprocAttr,h8,hn]
    refine ih (pre ++ [r]) _ _ (by simp [hp]) ?_ ?_ ?_ ?_ ?_
    all_goals first | (simp only [go_sem,simprocAttr,h0,h1,h7]; done) | (simp [← hm,Zdd,hpr]; done)
 refine loop l [] _ _ rfl ?_ ?_ ?_ ?_ hv
 all_goals simp only [go_sem,simprocAttr,List.length_nil,Int.natCast_zero]
theorem Zlx (l : List EKey) (g : Nat) (caps : List Cell) (q : EKey → Bool) (hcc : Zb caps = true)
  (hg : ∀ f : EKey,Pr g (.agg f.cells :: caps.map .c) (bC (q f))) : Pr 136 [.c (.lst 2 (l.map EKey.cells)),.c (.fn g caps)] (iC (idxN (Zdd q 0 l))) := by
 have hcr : closedR (l.map EKey.cells) = true := Zcd EKey.closed l
 refine Zl mixed Zlv (by simp [Zo,Zn,Zc,hcr,hcc]) fun hl T => ?_
 have hlen : l.length ≤ maxLen := by simp [Zd7,lenA,lenC] at hl; exact hl
 unfold Zg7
 generalize hv : Zdd q 0 l = v
 simp only [go_sem,simprocAttr]
 have hlc : ∀ f : EKey,f.cells.length = 2 := fun _ => rfl
 have htk : ∀ f : EKey,f.cells.take 2 = f.cells := fun _ => rfl
 have loop : ∀ (rest pre : List EKey) (e : Env) (H : Heap),l = pre ++ rest → e 0 = .c (.lst 2 (l.map EKey.cells)) → e 1 = .c (.fn g caps) → e 7 = iC (l.map EKey.cells).length → e 8 = iC pre.length →
   Zdd q pre.length rest = v → Run (Zu Tryz.prog T) ⟨[.tmp 4],fun u E => Zf E u = some (iC (idxN v))⟩ [.loop Zdk,.blk 0,.code Zej] e H := by
  intro rest
  induction rest with
  | nil =>
   intro pre e H hp h0 h1 h7 h8 hm
   have hc := Zcf (f := EKey.cells) hp
   refine Zj ?_
   conv => enter [3,1]; unfold Zdk
   simp only [go_sem,simprocAttr,h0,h1,h7,h8,hc]
   unfold Zej
   simp only [go_sem,simprocAttr]
   simp [Zf,Ze,Zi,Zg,Zh,Zd,Zc,Zb,← hm,Zdd,idxN]
  | cons r rest ih =>
   intro pre e H hp h0 h1 h7 h8 hm
   have hc := Zer (f := EKey.cells) hp
   have hr := Zb6 (f := EKey.cells) hp
   have hn := Zbt hp hlen
   refine Zj ?_
   conv => enter [3,1]; unfold Zdk
   simp only [go_sem,simprocAttr,h0,h1,h7,h8,hc,hr,hlc,htk]
   refine Za (hg r) ?_
   simp only [go_sem,simprocAttr]
   cases hpr : q r with
   | true =>
    simp only [go_sem,simprocAttr]
    simp [Zf,Ze,Zi,Zg,Zh,Zd,Zc,Zb,← hm,Zdd,hpr,idxN]
   | false =>
    simp only [go_sem,simprocAttr,h8,hn]
    refine ih (pre ++ [r]) _ _ (by simp [hp]) ?_ ?_ ?_ ?_ ?_
    all_goals first | (simp only [go_sem,simprocAttr,h0,h1,h7]; done) | (simp [← hm,Zdd,hpr]; done)
 refine loop l [] _ _ rfl ?_ ?_ ?_ ?_ hv
 all_goals simp only [go_sem,simprocAttr,List.length_nil,Int.natCast_zero]
theorem Zno (l : List Rec) (g : Nat) (caps : List Cell) (q : Rec → Bool) (hcc : Zb caps = true)
  (hg : ∀ f : Rec,Pr g (.agg f.cells :: caps.map .c) (bC (q f))) : Pr 124 [.c (.lst 6 (l.map Rec.cells)),.c (.fn g caps)] (iC (idxN (Zdd q 0 l))) := by
 have hcr : closedR (l.map Rec.cells) = true := Zcd Rec.closed l
 refine Zl mixed Zni (by simp [Zo,Zn,Zc,hcr,hcc]) fun hl T => ?_
 have hlen : l.length ≤ maxLen := by simp [Zd7,lenA,lenC] at hl; exact hl
 unfold Zh2
 generalize hv : Zdd q 0 l = v
 simp only [go_sem,simprocAttr]
 have hlc : ∀ f : Rec,f.cells.length = 6 := fun _ => rfl
 have htk : ∀ f : Rec,f.cells.take 6 = f.cells := fun _ => rfl
 have loop : ∀ (rest pre : List Rec) (e : Env) (H : Heap),l = pre ++ rest → e 0 = .c (.lst 6 (l.map Rec.cells)) → e 1 = .c (.fn g caps) → e 7 = iC (l.map Rec.cells).length → e 8 = iC pre.length →
   Zdd q pre.length rest = v → Run (Zu Tryz.prog T) ⟨[.tmp 4],fun u E => Zf E u = some (iC (idxN v))⟩ [.loop Zdu,.blk 0,.code Ze6] e H := by
  intro rest
  induction rest with
  | nil =>
   intro pre e H hp h0 h1 h7 h8 hm
   have hc := Zcf (f := Rec.cells) hp
   refine Zj ?_
   conv => enter [3,1]; unfold Zdu
   simp only [go_sem,simprocAttr,h0,h1,h7,h8,hc]
   unfold Ze6
   simp only [go_sem,simprocAttr]
   simp [Zf,Ze,Zi,Zg,Zh,Zd,Zc,Zb,← hm,Zdd,idxN]
  | cons r rest ih =>
   intro pre e H hp h0 h1 h7 h8 hm
   have hc := Zer (f := Rec.cells) hp
   have hr := Zb6 (f := Rec.cells) hp
   have hn := Zbt hp hlen
   refine Zj ?_
   conv => enter [3,1]; unfold Zdu
   simp only [go_sem,simprocAttr,h0,h1,h7,h8,hc,hr,hlc,htk]
   refine Za (hg r) ?_
   simp only [go_sem,simprocAttr]
   cases hpr : q r with
   | true =>
    simp only [go_sem,simprocAttr]
    simp [Zf,Ze,Zi,Zg,Zh,Zd,Zc,Zb,← hm,Zdd,hpr,idxN]
   | false =>
    simp only [go_sem,simprocAttr,h8,hn]
    refine ih (pre ++ [r]) _ _ (by simp [hp]) ?_ ?_ ?_ ?_ ?_
    all_goals first | (simp only [go_sem,simprocAttr,h0,h1,h7]; done) | (simp [← hm,Zdd,hpr]; done)
 refine loop l [] _ _ rfl ?_ ?_ ?_ ?_ hv
 all_goals simp only [go_sem,simprocAttr,List.length_nil,Int.natCast_zero]
end Go.Proofs.YticmfblfghdkbaaGreatDoor.Eng
