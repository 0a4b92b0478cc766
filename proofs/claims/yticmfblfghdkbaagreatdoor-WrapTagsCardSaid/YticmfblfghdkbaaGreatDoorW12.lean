/- Parts of this claim's proof, joined. No statement of the seat is proved here. -/
import Derived.Test.YticmfblfghdkbaaGreatDoorW11
import Derived.Shelf.Strings.Repeat
import Derived.Shelf.Strings.OnBuilder
set_option linter.unusedVariables false
set_option linter.unusedSimpArgs false
namespace Go.Proofs.YticmfblfghdkbaaGreatDoor.Eng
open Go
def Zmc : ACode := .seq (.seq (.region [im 27 5,ii 28 (.bin .geq (.t 27) (ki 0))] false) (.cond (.t 28) .skip (.exit 0))) (.seq (.block 1 (.region [im 31 3,im 32 4,im 33 5,ii 34 (.bin .mul (ki 8) (.t 33)),ibt 35 .shr 32 34,ii 36 (.conv .u8 (.t 35)),iz 37 (.lit 1 [.int .u8 0] 1 [(0,.t 36)]),ii 38 (.b2s (.t 37)),ibt 39 .add 31 38,im 3 39] false)) (.region [im 29 5,ii 30 (.bin .sub (.t 29) (ki 1)),im 5 30] false))
def Zm0 : ACode := .seq (.seq (.region [im 42 3,ii 43 (.bin .neq (.t 42) (.k (.c (.str ⟨#[]⟩))))] false) (.cond (.t 43) .skip (.exit 2))) (.seq (.block 3 (.region [ii 46 (.load true 8 (.t 6)),ii 47 (.load true 64 (.t 7)),im 48 3,ii 49 (.slS (.t 48) none (some (ki 64))),icl 50 158 [.t 46,.t 47,.t 49],ie (.store 8 (.t 6) (.t 50))] true)) (.region [im 44 3,ii 45 (.slS (.t 44) (some (ki 64)) none),im 3 45] false))
def Zmb : ACode := .seq (.region [ii 53 (.bin .lss (.t 52) (ki 8))] false) (.seq (.cond (.t 53) .skip (.exit 4)) (.seq (.block 5 (.seq (.region [ii 54 (.ixV false 8 1 (.t 51) (.t 52)),im 10 54] false) (.region [im 55 8,im 56 10,ii 57 (.bin .shr (.t 56) (.k (.c (.int .u64 24)))),ii 58 (.conv .u8 (.t 57)),im 59 10,ii 60 (.bin .shr (.t 59) (.k (.c (.int .u64 16)))),ii 61 (.conv .u8 (.t 60)),im 62 10,ii 63 (.bin .shr (.t 62) (.k (.c (.int .u64 8)))),ii 64 (.conv .u8 (.t 63)),im 65 10,ii 66 (.conv .u8 (.t 65)),iz 67 (.lit 1 [.int .u8 0] 4 [(0,.t 58),(1,.t 61),(2,.t 64),(3,.t 66)]),ii 68 (.app 1 1 (.t 55) (.t 67)),im 8 68] false))) (.region [ii 69 (.bin .add (.t 52) (ki 1)),im 52 69] false)))
def Zq5 : ACode := .seq (.region [im 70 8,ii 71 (.b2s (.t 70)),im 2 71] false) .ret
def Zq8 : ACode := .seq (.region [ii 8 (.mv (.k (.c .nilS)))] false) (.seq (.seq (.region [ii 51 (.load true 8 (.t 6)),ii 52 (.mv (ki 0))] false) (.block 4 (.loop Zmb))) Zq5)
def Zri : ACode := .seq (.region [icl 40 156 [],icl 41 157 [],ii 6 (.new [.int .u32 0,.int .u32 0,.int .u32 0,.int .u32 0,.int .u32 0,.int .u32 0,.int .u32 0,.int .u32 0]),ii 7 (.new [.int .u32 0,.int .u32 0,.int .u32 0,.int .u32 0,.int .u32 0,.int .u32 0,.int .u32 0,.int .u32 0,.int .u32 0,.int .u32 0,.int .u32 0,.int .u32 0,.int .u32 0,.int .u32 0,.int .u32 0,.int .u32 0,.int .u32 0,.int .u32 0,.int .u32 0,.int .u32 0,.int .u32 0,.int .u32 0,.int .u32 0,.int .u32 0,.int .u32 0,.int .u32 0,.int .u32 0,.int .u32 0,.int .u32 0,.int .u32 0,.int .u32 0,.int .u32 0,.int .u32 0,.int .u32 0,.int .u32 0,.int .u32 0,.int .u32 0,.int .u32 0,.int .u32 0,.int .u32 0,.int .u32 0,.int .u32 0,.int .u32 0,.int .u32 0,.int .u32 0,.int .u32 0,.int .u32 0,.int .u32 0,.int .u32 0,.int .u32 0,.int .u32 0,.int .u32 0,.int .u32 0,.int .u32 0,.int .u32 0,.int .u32 0,.int .u32 0,.int .u32 0,.int .u32 0,.int .u32 0,.int .u32 0,.int .u32 0,.int .u32 0,.int .u32 0]),ie (.store 8 (.t 6) (.t 40)),ie (.store 64 (.t 7) (.t 41))] false) (.seq (.block 2 (.loop Zm0)) Zq8)
def Z08 : AFun := ⟨[.tmp 2],.seq (.region [ii 2 (.mv (.k (.c (.str ⟨#[]⟩))))] false) (.seq (.region [im 11 0,icl 12 155 [.t 11,.k (.c (.str ⟨#[]⟩))],im 3 12] false) (.seq (.region [im 13 3,ii 14 (.lenS (.t 13)),ii 15 (.conv .u64 (.t 14)),ii 16 (.bin .mul (.t 15) (.k (.c (.int .u64 8)))),im 4 16] false) (.seq (.region [im 17 3,ii 18 (.bin .add (.t 17) (.k (.c (.str ⟨#[128]⟩)))),im 3 18] false) (.seq (.region [im 19 3,im 20 3,ii 21 (.lenS (.t 20)),ii 22 (.bin .rem (.t 21) (ki 64)),ii 23 (.bin .sub (ki 120) (.t 22)),ii 24 (.bin .rem (.t 23) (ki 64)),icl 25 132 [.k (.c (.str ⟨#[0]⟩)),.t 24],ibt 26 .add 19 25,im 3 26] false) (.seq (.seq (.region [ii 5 (.mv (ki 7))] false) (.block 0 (.loop Zmc))) Zri)))))⟩
theorem Z8n : Zm Tryz.prog 110 = some Z08.erase := by kernel_rfl
def Zvo : AFun := ⟨[.cell 0 true 8],.seq (.region [ii 0 (.new [.int .u32 0,.int .u32 0,.int .u32 0,.int .u32 0,.int .u32 0,.int .u32 0,.int .u32 0,.int .u32 0])] false) (.seq (.region [ii 1 (.build [.int .u32 0,.int .u32 0,.int .u32 0,.int .u32 0,.int .u32 0,.int .u32 0,.int .u32 0,.int .u32 0] [(0,1,.k (.c (.int .u32 1779033703))),(1,1,.k (.c (.int .u32 3144134277))),(2,1,.k (.c (.int .u32 1013904242))),(3,1,.k (.c (.int .u32 2773480762))),(4,1,.k (.c (.int .u32 1359893119))),(5,1,.k (.c (.int .u32 2600822924))),(6,1,.k (.c (.int .u32 528734635))),(7,1,.k (.c (.int .u32 1541459225)))]),ie (.store 8 (.t 0) (.t 1))] false) .ret)⟩
theorem Z3t : Zm Tryz.prog 156 = some Zvo.erase := by kernel_rfl
def Zvu : AFun := ⟨[.cell 0 true 64],.seq (.region [ii 0 (.new [.int .u32 0,.int .u32 0,.int .u32 0,.int .u32 0,.int .u32 0,.int .u32 0,.int .u32 0,.int .u32 0,.int .u32 0,.int .u32 0,.int .u32 0,.int .u32 0,.int .u32 0,.int .u32 0,.int .u32 0,.int .u32 0,.int .u32 0,.int .u32 0,.int .u32 0,.int .u32 0,.int .u32 0,.int .u32 0,.int .u32 0,.int .u32 0,.int .u32 0,.int .u32 0,.int .u32 0,.int .u32 0,.int .u32 0,.int .u32 0,.int .u32 0,.int .u32 0,.int .u32 0,.int .u32 0,.int .u32 0,.int .u32 0,.int .u32 0,.int .u32 0,.int .u32 0,.int .u32 0,.int .u32 0,.int .u32 0,.int .u32 0,.int .u32 0,.int .u32 0,.int .u32 0,.int .u32 0,.int .u32 0,.int .u32 0,.int .u32 0,.int .u32 0,.int .u32 0,.int .u32 0,.int .u32 0,.int .u32 0,.int .u32 0,.int .u32 0,.int .u32 0,.int .u32 0,.int .u32 0,.int .u32 0,.int .u32 0,.int .u32 0,.int .u32 0])] false) (.seq (.region [ii 1 (.build [.int .u32 0,.int .u32 0,.int .u32 0,.int .u32 0,.int .u32 0,.int .u32 0,.int .u32 0,.int .u32 0,.int .u32 0,.int .u32 0,.int .u32 0,.int .u32 0,.int .u32 0,.int .u32 0,.int .u32 0,.int .u32 0,.int .u32 0,.int .u32 0,.int .u32 0,.int .u32 0,.int .u32 0,.int .u32 0,.int .u32 0,.int .u32 0,.int .u32 0,.int .u32 0,.int .u32 0,.int .u32 0,.int .u32 0,.int .u32 0,.int .u32 0,.int .u32 0,.int .u32 0,.int .u32 0,.int .u32 0,.int .u32 0,.int .u32 0,.int .u32 0,.int .u32 0,.int .u32 0,.int .u32 0,.int .u32 0,.int .u32 0,.int .u32 0,.int .u32 0,.int .u32 0,.int .u32 0,.int .u32 0,.int .u32 0,.int .u32 0,.int .u32 0,.int .u32 0,.int .u32 0,.int .u32 0,.int .u32 0,.int .u32 0,.int .u32 0,.int .u32 0,.int .u32 0,.int .u32 0,.int .u32 0,.int .u32 0,.int .u32 0,.int .u32 0] [(0,1,.k (.c (.int .u32 1116352408))),(1,1,.k (.c (.int .u32 1899447441))),(2,1,.k (.c (.int .u32 3049323471))),(3,1,.k (.c (.int .u32 3921009573))),(4,1,.k (.c (.int .u32 961987163))),(5,1,.k (.c (.int .u32 1508970993))),(6,1,.k (.c (.int .u32 2453635748))),(7,1,.k (.c (.int .u32 2870763221))),(8,1,.k (.c (.int .u32 3624381080))),(9,1,.k (.c (.int .u32 310598401))),(10,1,.k (.c (.int .u32 607225278))),(11,1,.k (.c (.int .u32 1426881987))),(12,1,.k (.c (.int .u32 1925078388))),(13,1,.k (.c (.int .u32 2162078206))),(14,1,.k (.c (.int .u32 2614888103))),(15,1,.k (.c (.int .u32 3248222580))),(16,1,.k (.c (.int .u32 3835390401))),(17,1,.k (.c (.int .u32 4022224774))),(18,1,.k (.c (.int .u32 264347078))),(19,1,.k (.c (.int .u32 604807628))),(20,1,.k (.c (.int .u32 770255983))),(21,1,.k (.c (.int .u32 1249150122))),(22,1,.k (.c (.int .u32 1555081692))),(23,1,.k (.c (.int .u32 1996064986))),(24,1,.k (.c (.int .u32 2554220882))),(25,1,.k (.c (.int .u32 2821834349))),(26,1,.k (.c (.int .u32 2952996808))),(27,1,.k (.c (.int .u32 3210313671))),(28,1,.k (.c (.int .u32 3336571891))),(29,1,.k (.c (.int .u32 3584528711))),(30,1,.k (.c (.int .u32 113926993))),(31,1,.k (.c (.int .u32 338241895))),(32,1,.k (.c (.int .u32 666307205))),(33,1,.k (.c (.int .u32 773529912))),(34,1,.k (.c (.int .u32 1294757372))),(35,1,.k (.c (.int .u32 1396182291))),(36,1,.k (.c (.int .u32 1695183700))),(37,1,.k (.c (.int .u32 1986661051))),(38,1,.k (.c (.int .u32 2177026350))),(39,1,.k (.c (.int .u32 2456956037))),(40,1,.k (.c (.int .u32 2730485921))),(41,1,.k (.c (.int .u32 2820302411))),(42,1,.k (.c (.int .u32 3259730800))),(43,1,.k (.c (.int .u32 3345764771))),(44,1,.k (.c (.int .u32 3516065817))),(45,1,.k (.c (.int .u32 3600352804))),(46,1,.k (.c (.int .u32 4094571909))),(47,1,.k (.c (.int .u32 275423344))),(48,1,.k (.c (.int .u32 430227734))),(49,1,.k (.c (.int .u32 506948616))),(50,1,.k (.c (.int .u32 659060556))),(51,1,.k (.c (.int .u32 883997877))),(52,1,.k (.c (.int .u32 958139571))),(53,1,.k (.c (.int .u32 1322822218))),(54,1,.k (.c (.int .u32 1537002063))),(55,1,.k (.c (.int .u32 1747873779))),(56,1,.k (.c (.int .u32 1955562222))),(57,1,.k (.c (.int .u32 2024104815))),(58,1,.k (.c (.int .u32 2227730452))),(59,1,.k (.c (.int .u32 2361852424))),(60,1,.k (.c (.int .u32 2428436474))),(61,1,.k (.c (.int .u32 2756734187))),(62,1,.k (.c (.int .u32 3204031479))),(63,1,.k (.c (.int .u32 3329325298)))]),ie (.store 64 (.t 0) (.t 1))] false) .ret)⟩
theorem Z4t : Zm Tryz.prog 157 = some Zvu.erase := by kernel_rfl
def Zkq : ACode := .seq (.region [ii 23 (.bin .lss (.t 22) (ki 64))] false) (.seq (.cond (.t 23) .skip (.exit 0)) (.seq (.block 1 (.seq (.region [im 24 22,ii 25 (.ixV false 64 1 (.t 21) (.t 22)),im 8 24,im 9 25] false) (.seq (.region [ii 26 (.ixA 8 1 (.t 7) (ki 0)),il 27 26,ii 28 (.ixA 8 1 (.t 7) (ki 1)),il 29 28,ii 30 (.ixA 8 1 (.t 7) (ki 2)),il 31 30,ii 32 (.ixA 8 1 (.t 7) (ki 4)),il 33 32,ii 34 (.ixA 8 1 (.t 7) (ki 5)),il 35 34,ii 36 (.ixA 8 1 (.t 7) (ki 6)),il 37 36,im 10 27,im 11 29,im 12 31,im 13 33,im 14 35,im 15 37] true) (.seq (.region [ii 38 (.ixA 8 1 (.t 7) (ki 7)),il 39 38,im 40 13,iz 41 (.lit 1 [.int .i64 0] 3 [(0,.k (.c (.int .i64 6))),(1,.k (.c (.int .i64 11))),(2,.k (.c (.int .i64 25)))]),icl 42 187 [.t 40,.t 41],ibt 43 .add 39 42,im 44 13,im 45 14,ibt 46 .and 44 45,im 47 13,ii 48 (.un .xor (.t 47)),im 49 15,ibt 50 .and 48 49,ibt 51 .xor 46 50,ibt 52 .add 43 51,im 53 8,ii 54 (.ixA 64 1 (.t 4) (.t 53)),il 55 54,ibt 56 .add 52 55,im 57 9,ibt 58 .add 56 57,im 16 58] true) (.seq (.region [im 59 10,iz 60 (.lit 1 [.int .i64 0] 3 [(0,.k (.c (.int .i64 2))),(1,.k (.c (.int .i64 13))),(2,.k (.c (.int .i64 22)))]),icl 61 187 [.t 59,.t 60],im 62 10,im 63 11,ibt 64 .and 62 63,im 65 10,im 66 12,ibt 67 .and 65 66,ibt 68 .xor 64 67,im 69 11,im 70 12,ibt 71 .and 69 70,ibt 72 .xor 68 71,ibt 73 .add 61 72,im 17 73] false) (.region [im 74 16,im 75 17,ibt 76 .add 74 75,im 77 10,im 78 11,im 79 12,ii 80 (.ixA 8 1 (.t 7) (ki 3)),il 81 80,im 82 16,ibt 83 .add 81 82,im 84 13,im 85 14,im 86 15,ii 87 (.build [.int .u32 0,.int .u32 0,.int .u32 0,.int .u32 0,.int .u32 0,.int .u32 0,.int .u32 0,.int .u32 0] [(0,1,.t 76),(1,1,.t 77),(2,1,.t 78),(3,1,.t 79),(4,1,.t 83),(5,1,.t 84),(6,1,.t 85),(7,1,.t 86)]),ie (.store 8 (.t 7) (.t 87))] false)))))) (.region [ii 88 (.bin .add (.t 22) (ki 1)),im 22 88] false)))
def Zdb : ACode := .seq (.region [ii 90 (.bin .lss (.t 89) (ki 8))] false) (.seq (.cond (.t 90) .skip (.exit 2)) (.seq (.block 3 (.seq (.region [im 91 89,im 18 91] false) (.region [im 92 18,ii 93 (.ixA 8 1 (.t 7) (.t 92)),il 94 93,im 95 18,ii 96 (.ixA 8 1 (.t 3) (.t 95)),il 97 96,ibt 98 .add 94 97,ii 99 (.ixA 8 1 (.t 7) (.t 92)),ie (.store 1 (.t 99) (.t 98))] true))) (.region [ii 100 (.bin .add (.t 89) (ki 1)),im 89 100] false)))
def Zpg : ACode := .seq (.region [ii 101 (.load true 8 (.t 7)),ie (.store 8 (.t 6) (.t 101))] false) .ret
def Zpr : ACode := .seq (.seq (.region [ii 89 (.mv (ki 0))] false) (.block 2 (.loop Zdb))) Zpg
def Zx7 : AFun := ⟨[.cell 6 true 8],.seq (.region [iz 3 (.box (.t 0)),iz 4 (.box (.t 1)),ii 6 (.new [.int .u32 0,.int .u32 0,.int .u32 0,.int .u32 0,.int .u32 0,.int .u32 0,.int .u32 0,.int .u32 0])] false) (.seq (.region [ii 19 (.load true 8 (.t 3)),ii 7 (.new [.int .u32 0,.int .u32 0,.int .u32 0,.int .u32 0,.int .u32 0,.int .u32 0,.int .u32 0,.int .u32 0]),ie (.store 8 (.t 7) (.t 19))] false) (.seq (.seq (.region [im 20 2,icl 21 186 [.t 20],ii 22 (.mv (ki 0))] false) (.block 0 (.loop Zkq))) Zpr))⟩
theorem Z5x : Zm Tryz.prog 158 = some Zx7.erase := by kernel_rfl
def Zfc : ACode := .seq (.region [ii 13 (.bin .lss (.t 12) (ki 4))] false) (.seq (.cond (.t 13) .skip (.exit 2)) (.seq (.block 3 (.seq (.region [im 14 12,im 5 14] false) (.region [im 15 4,im 16 4,ii 17 (.ixA 64 1 (.t 3) (.t 16)),il 18 17,ii 19 (.bin .shl (.t 18) (.k (.c (.int .u64 8)))),im 20 0,im 21 4,ii 22 (.bin .mul (ki 4) (.t 21)),im 23 5,ibt 24 .add 22 23,ii 25 (.ixS (.t 20) (.t 24)),ii 26 (.conv .u32 (.t 25)),ibt 27 .or 19 26,ii 28 (.ixA 64 1 (.t 3) (.t 15)),ie (.store 1 (.t 28) (.t 27))] true))) (.region [ii 29 (.bin .add (.t 12) (ki 1)),im 12 29] false)))
def Zr3 : ACode := .region [ii 30 (.bin .add (.t 9) (ki 1)),im 9 30] false
def Zip : ACode := .seq (.region [ii 10 (.bin .lss (.t 9) (ki 16))] false) (.seq (.cond (.t 10) .skip (.exit 0)) (.seq (.block 1 (.seq (.region [im 11 9,im 4 11] false) (.seq (.region [ii 12 (.mv (ki 0))] false) (.block 2 (.loop Zfc))))) Zr3))
def Ziu : ACode := .seq (.seq (.region [im 31 6,ii 32 (.bin .lss (.t 31) (ki 64))] false) (.cond (.t 32) .skip (.exit 4))) (.seq (.block 5 (.seq (.region [im 35 6,ii 36 (.bin .sub (.t 35) (ki 15)),ii 37 (.ixA 64 1 (.t 3) (.t 36)),il 38 37,im 39 6,ii 40 (.bin .sub (.t 39) (ki 2)),ii 41 (.ixA 64 1 (.t 3) (.t 40)),il 42 41,im 7 38,im 8 42] true) (.region [im 43 6,im 44 6,ii 45 (.bin .sub (.t 44) (ki 16)),ii 46 (.ixA 64 1 (.t 3) (.t 45)),il 47 46,im 48 6,ii 49 (.bin .sub (.t 48) (ki 7)),ii 50 (.ixA 64 1 (.t 3) (.t 49)),il 51 50,ibt 52 .add 47 51,im 53 7,iz 54 (.lit 1 [.int .i64 0] 2 [(0,.k (.c (.int .i64 7))),(1,.k (.c (.int .i64 18)))]),icl 55 187 [.t 53,.t 54],im 56 7,ii 57 (.bin .shr (.t 56) (.k (.c (.int .u64 3)))),ibt 58 .xor 55 57,ibt 59 .add 52 58,im 60 8,iz 61 (.lit 1 [.int .i64 0] 2 [(0,.k (.c (.int .i64 17))),(1,.k (.c (.int .i64 19)))]),icl 62 187 [.t 60,.t 61],im 63 8,ii 64 (.bin .shr (.t 63) (.k (.c (.int .u64 10)))),ibt 65 .xor 62 64,ibt 66 .add 59 65,ii 67 (.ixA 64 1 (.t 3) (.t 43)),ie (.store 1 (.t 67) (.t 66))] true))) (.region [im 33 6,ii 34 (.bin .add (.t 33) (ki 1)),im 6 34] false))
def Zlv : ACode := .seq (.region [ii 68 (.load true 64 (.t 3)),ie (.store 64 (.t 2) (.t 68))] false) .ret
def Zly : ACode := .seq (.seq (.region [ii 6 (.mv (ki 16))] false) (.block 4 (.loop Ziu))) Zlv
def Ztm : AFun := ⟨[.cell 2 true 64],.seq (.region [ii 2 (.new [.int .u32 0,.int .u32 0,.int .u32 0,.int .u32 0,.int .u32 0,.int .u32 0,.int .u32 0,.int .u32 0,.int .u32 0,.int .u32 0,.int .u32 0,.int .u32 0,.int .u32 0,.int .u32 0,.int .u32 0,.int .u32 0,.int .u32 0,.int .u32 0,.int .u32 0,.int .u32 0,.int .u32 0,.int .u32 0,.int .u32 0,.int .u32 0,.int .u32 0,.int .u32 0,.int .u32 0,.int .u32 0,.int .u32 0,.int .u32 0,.int .u32 0,.int .u32 0,.int .u32 0,.int .u32 0,.int .u32 0,.int .u32 0,.int .u32 0,.int .u32 0,.int .u32 0,.int .u32 0,.int .u32 0,.int .u32 0,.int .u32 0,.int .u32 0,.int .u32 0,.int .u32 0,.int .u32 0,.int .u32 0,.int .u32 0,.int .u32 0,.int .u32 0,.int .u32 0,.int .u32 0,.int .u32 0,.int .u32 0,.int .u32 0,.int .u32 0,.int .u32 0,.int .u32 0,.int .u32 0,.int .u32 0,.int .u32 0,.int .u32 0,.int .u32 0])] false) (.seq (.region [ii 3 (.new [.int .u32 0,.int .u32 0,.int .u32 0,.int .u32 0,.int .u32 0,.int .u32 0,.int .u32 0,.int .u32 0,.int .u32 0,.int .u32 0,.int .u32 0,.int .u32 0,.int .u32 0,.int .u32 0,.int .u32 0,.int .u32 0,.int .u32 0,.int .u32 0,.int .u32 0,.int .u32 0,.int .u32 0,.int .u32 0,.int .u32 0,.int .u32 0,.int .u32 0,.int .u32 0,.int .u32 0,.int .u32 0,.int .u32 0,.int .u32 0,.int .u32 0,.int .u32 0,.int .u32 0,.int .u32 0,.int .u32 0,.int .u32 0,.int .u32 0,.int .u32 0,.int .u32 0,.int .u32 0,.int .u32 0,.int .u32 0,.int .u32 0,.int .u32 0,.int .u32 0,.int .u32 0,.int .u32 0,.int .u32 0,.int .u32 0,.int .u32 0,.int .u32 0,.int .u32 0,.int .u32 0,.int .u32 0,.int .u32 0,.int .u32 0,.int .u32 0,.int .u32 0,.int .u32 0,.int .u32 0,.int .u32 0,.int .u32 0,.int .u32 0,.int .u32 0])] false) (.seq (.seq (.region [ii 9 (.mv (ki 0))] false) (.block 0 (.loop Zip))) Zly))⟩
theorem Z16 : Zm Tryz.prog 186 = some Ztm.erase := by kernel_rfl
def Ziq : ACode := .seq (.region [ibt 11 .lss 10 9] false) (.seq (.cond (.t 11) .skip (.exit 0)) (.seq (.block 1 (.seq (.region [ixx 12 1 8 10,il 13 12,im 7 13] false) (.region [im 14 5,im 15 0,im 16 7,ii 17 (.un .neg (.t 16)),icl 18 208 [.t 15,.t 17],ibt 19 .xor 14 18,im 5 19] false))) (.region [ii 20 (.bin .add (.t 10) (ki 1)),im 10 20] false)))
def Zlr : ACode := .seq (.region [im 21 5,im 4 21] false) .ret
def Zud : AFun := ⟨[.tmp 4],.seq (.region [ii 4 (.mv (.k (.c (.int .u32 0))))] false) (.seq (.region [ii 5 (.mv (.k (.c (.int .u32 0))))] false) (.seq (.seq (.region [im 8 1,ii 9 (.len (.t 8)),ii 10 (.mv (ki 0))] false) (.block 0 (.loop Ziq))) Zlr))⟩
theorem Z1x : Zm Tryz.prog 187 = some Zud.erase := by kernel_rfl
def Zkd : AFun := ⟨[.tmp 4],.seq (.region [ii 4 (.mv (.k (.c (.int .u32 0))))] false) (.seq (.region [im 6 1,ii 7 (.conv .u64 (.t 6)),ii 8 (.bin .and (.t 7) (.k (.c (.int .u64 31)))),im 5 8] false) (.seq (.region [im 9 0,im 10 5,ibt 11 .shl 9 10,im 12 0,im 13 5,ii 14 (.bin .sub (.k (.c (.int .u64 32))) (.t 13)),ibt 15 .shr 12 14,ibt 16 .or 11 15,im 4 16] false) .ret))⟩
theorem Zrm : Zm Tryz.prog 208 = some Zkd.erase := by kernel_rfl
end Go.Proofs.YticmfblfghdkbaaGreatDoor.Eng
namespace Go.Proofs.YticmfblfghdkbaaGreatDoor.Eng
open Go
section
variable {a b : Int} {ik : IntKind} {H : Heap}
theorem Zbbi : vBin .xor (.c (.int .u32 a)) (.c (.int .u32 b)) H = some (.c (.int .u32 (xorW a b)),H) := by simp [vBin,Zch,Zca,xorW]
theorem Z91 : vBin .and (.c (.int .u32 a)) (.c (.int .u32 b)) H = some (.c (.int .u32 (andW a b)),H) := by simp [vBin,Zch,Zca,andW]
theorem Zbf6 : vBin .or (.c (.int .u32 a)) (.c (.int .u32 b)) H = some (.c (.int .u32 (orW a b)),H) := by simp [vBin,Zch,Zca,orW]
theorem Zdw (h : 0 ≤ b) : vBin .shl (.c (.int .u32 a)) (.c (.int ik b)) H = some (.c (.int .u32 (shlW a b)),H) := by simp [vBin,Zch,Zca,shlW,h]
theorem Zci (h : 0 ≤ b) : vBin .shr (.c (.int .u32 a)) (.c (.int ik b)) H = some (.c (.int .u32 (shrW a b)),H) := by simp [vBin,Zch,Zca,shrW,h]
theorem Zbe6 : vUn .xor (.c (.int .u32 a)) H = some (.c (.int .u32 (notW a)),H) := rfl
theorem Zbdi : IntKind.wrap .u32 (a + b) = addW a b := rfl
end
attribute [go_sem] Zbbi Z91 Zbf6 Zbe6 Zbdi
abbrev wC (n : Int) : AVal := .c (.int .u32 n)
def wRow (n : Int) : Cell := .int .u32 n
theorem Zjv (x k s : Int) (hs : IntKind.wrap .u64 ((BitVec.ofInt IntKind.u64.bits (IntKind.wrap .u64 k) &&& BitVec.ofInt IntKind.u64.bits 31).toNat : Int) = s) (h0 : 0 ≤ s) (h1 : s ≤ 32) : Pr 208 [wC x,iC k] (wC (rotW x s)) := by
 refine Zl mixed Zrm rfl fun hl T => ?_
 unfold Zkd
 have e1 : ∀ H : Heap,vBin .and (.c (.int .u64 (IntKind.wrap .u64 k))) (.c (.int .u64 31)) H = some (.c (.int .u64 s),H) := fun H => by rw [← hs]; simp [vBin,Zch,Zca]
 have e2 : IntKind.wrap .u64 (32 - s) = 32 - s := by simp [IntKind.wrap,IntKind.bits,IntKind.signed]; omega
 have e3 : ∀ (a : Int) (H : Heap),vBin .shl (.c (.int .u32 a)) (.c (.int .u64 s)) H = some (.c (.int .u32 (shlW a s)),H) := fun a H => Zdw h0
 have e4 : ∀ (a : Int) (H : Heap),vBin .shr (.c (.int .u32 a)) (.c (.int .u64 (32 - s))) H = some (.c (.int .u32 (shrW a (32 - s))),H) := fun a H => Zci (by omega)
 simp only [go_sem,simprocAttr,e1,e2,e3,e4]
 simp [Zf,Ze,Zk,Zg,Zh,Zd,Zc,Zb,rotW]
theorem Zbi4 : ∀ n : Nat,0 < n → n < 32 → IntKind.wrap .u64 ((BitVec.ofInt IntKind.u64.bits (IntKind.wrap .u64 (IntKind.wrap .i64 (0 - (n : Int)))) &&& BitVec.ofInt IntKind.u64.bits 31).toNat : Int) = 32 - (n : Int) := by
 have h : ∀ n : Fin 32,0 < n.val → IntKind.wrap .u64 ((BitVec.ofInt IntKind.u64.bits (IntKind.wrap .u64 (IntKind.wrap .i64 (0 - (n.val : Int)))) &&& BitVec.ofInt IntKind.u64.bits 31).toNat : Int) = 32 - (n.val : Int) := by decide
 exact fun n h0 h1 => h ⟨n,h1⟩ h0
def Zxb (x : Int) (l : List Nat) : Int := l.foldl (fun a (n : Nat) => xorW a (rotW x (32 - (n : Int)))) 0
theorem Zr8 (x : Int) (l : List Nat) (hn : ∀ n ∈ l,0 < n ∧ n < 32) : Pr 187 [wC x,.c (.lst 1 (l.map fun n : Nat => [.int .i64 (n : Int)]))] (wC (Zxb x l)) := by
 have hcl : closedR (l.map fun n : Nat => [Cell.int .i64 (n : Int)]) = true := Zcg (fun _ => rfl) l
 refine Zl mixed Z1x (by simp [Zr,Zp,Zc,hcl]) fun hl T => ?_
 have hlen : l.length ≤ maxLen := by simp [Zgn,lenA,lenC] at hl; exact hl
 unfold Zud
 generalize hv : Zxb x l = v
 simp only [go_sem,simprocAttr]
 have loop : ∀ (rest pre : List Nat) (a : Int) (e : Env) (H : Heap),l = pre ++ rest → e 0 = wC x → e 8 = .c (.lst 1 (l.map fun n : Nat => [.int .i64 (n : Int)])) → e 9 = iC (l.map fun n : Nat => [Cell.int .i64 (n : Int)]).length → e 10 = iC pre.length → e 5 = wC a →
   rest.foldl (fun a (n : Nat) => xorW a (rotW x (32 - (n : Int)))) a = v → Run (Zt Tryz.prog T) ⟨[.tmp 4],fun u E => Zf E u = some (wC v)⟩ [.loop Ziq,.blk 0,.code Zlr] e H := by
  intro rest
  induction rest with
  | nil =>
   intro pre a e H hp h0 h8 h9 h10 h5 hm
   have hc := Zdh (f := fun n : Nat => [Cell.int .i64 (n : Int)]) hp
   refine Zi ?_
   conv => enter [3,1]; unfold Ziq
   simp only [go_sem,simprocAttr,h0,h5,h8,h9,h10,hc]
   unfold Zlr
   simp only [go_sem,simprocAttr,h5]
   simp only [List.foldl_nil] at hm
   simp [Zf,Ze,Zk,Zg,Zh,Zd,Zc,Zb,hm]
  | cons n rest ih =>
   intro pre a e H hp h0 h8 h9 h10 h5 hm
   have hc := Zhy (f := fun n : Nat => [Cell.int .i64 (n : Int)]) hp
   have hr := Zee (f := fun n : Nat => [Cell.int .i64 (n : Int)]) hp
   have hnx := Zcy hp hlen
   obtain ⟨n0,n1⟩ := hn n (by rw [hp]; simp)
   refine Zi ?_
   conv => enter [3,1]; unfold Ziq
   simp only [go_sem,simprocAttr,h0,h5,h8,h9,h10,hc,hr]
   refine Za (Zjv x _ _ (Zbi4 n n0 n1) (by omega) (by omega)) ?_
   simp only [go_sem,simprocAttr,h5,h10,hnx]
   refine ih (pre ++ [n]) (xorW a (rotW x (32 - (n : Int)))) _ _ (by simp [hp]) ?_ ?_ ?_ ?_ ?_ ?_
   all_goals first | (simp only [go_sem,simprocAttr,h0,h8,h9]; done) | exact hm
 exact loop l [] 0 _ _ rfl rfl rfl rfl rfl rfl hv
theorem Zqn (x a b c : Int) (A B C : Nat) (ha : a = A) (hb : b = B) (hc : c = C) (h : (0 < A ∧ A < 32) ∧ (0 < B ∧ B < 32) ∧ (0 < C ∧ C < 32)) :
  Pr 187 [wC x,.c (.lst 1 [[.int .i64 a],[.int .i64 b],[.int .i64 c]])] (wC (xorW (xorW (rotW x (32 - a)) (rotW x (32 - b))) (rotW x (32 - c)))) := by
 subst ha; subst hb; subst hc
 have := Zr8 x [A,B,C] (by intro n hn; simp at hn; rcases hn with rfl | rfl | rfl; exact h.1; exact h.2.1; exact h.2.2)
 simpa [Zxb,Z0j (Z65 _ _)] using this
theorem Zpx (x a b : Int) (A B : Nat) (ha : a = A) (hb : b = B) (h : (0 < A ∧ A < 32) ∧ (0 < B ∧ B < 32)) :
  Pr 187 [wC x,.c (.lst 1 [[.int .i64 a],[.int .i64 b]])] (wC (xorW (rotW x (32 - a)) (rotW x (32 - b)))) := by
 subst ha; subst hb
 have := Zr8 x [A,B] (by intro n hn; simp at hn; rcases hn with rfl | rfl; exact h.1; exact h.2)
 simpa [Zxb,Z0j (Z65 _ _)] using this
theorem Zbit (x : Int) : Pr 187 [wC x,.c (.lst 1 [[.int .i64 6],[.int .i64 11],[.int .i64 25]])] (wC (bigS x)) := Zqn x 6 11 25 6 11 25 rfl rfl rfl (by decide)
theorem Zbho (x : Int) : Pr 187 [wC x,.c (.lst 1 [[.int .i64 2],[.int .i64 13],[.int .i64 22]])] (wC (bigT x)) := Zqn x 2 13 22 2 13 22 rfl rfl rfl (by decide)
theorem Zbbu (x : Int) : Pr 187 [wC x,.c (.lst 1 [[.int .i64 7],[.int .i64 18]])] (wC (xorW (rotW x 25) (rotW x 14))) := Zpx x 7 18 7 18 rfl rfl (by decide)
theorem Z8t (x : Int) : Pr 187 [wC x,.c (.lst 1 [[.int .i64 17],[.int .i64 19]])] (wC (xorW (rotW x 15) (rotW x 13))) := Zpx x 17 19 17 19 rfl rfl (by decide)
theorem Z24 : Pr 156 [] (.agg Zlf.cells) := by
 refine Zl mixed Z3t rfl fun hl T => ?_
 unfold Zvo
 dsimp only [Zlf,V8.cells]
 simp only [go_sem,simprocAttr]
 simp [Zf,Ze,Zk,Zg,Zh,Zd,Zc,Zb]
def Zb4 (s : ByteArray) (i : Nat) : Nat := if h : i < s.size then (s[i]'h).toNat else 0
theorem Zdu (s : ByteArray) (i : Nat) : Zb4 s i < 256 := by
 unfold Zb4
 split
 ·exact UInt8.toNat_lt _
 ·omega
theorem Zdv {s : ByteArray} {j : Nat} {ik : IntKind} {H : Heap} (h : j < s.size) : vIxS (.c (.str s)) (.c (.int ik (j : Int))) H = some (.c (.int .u8 (Zb4 s j : Int)),H) := by
 have h2 : 0 ≤ (j : Int) ∧ ((j : Int)).toNat < s.size := by simp; exact h
 simp only [vIxS,dif_pos h2,Zb4,dif_pos h]
 rfl
theorem Zkp {n : Nat} (h : n < 256) : IntKind.wrap .u32 (n : Int) = (n : Int) := by rw [Zto]; omega
def Zqq (s : ByteArray) (i : Nat) : Int := be32 (Zb4 s i) (Zb4 s (i + 1)) (Zb4 s (i + 2)) (Zb4 s (i + 3))
def Zeg (s : ByteArray) (i : Nat) (n : Nat) : List Int := (List.range n).map fun k => Zqq s (i + 4 * k)
theorem Zjj (s : ByteArray) (i n : Nat) : (Zeg s i n).length = n := by simp [Zeg]
theorem Z75 (s : ByteArray) (i n : Nat) : Zeg s i (n + 1) = Zeg s i n ++ [Zqq s (i + 4 * n)] := by simp [Zeg,List.range_succ]
def Zd6 (s : ByteArray) (i : Nat) : List Int := Zm1 48 (Zeg s i 16)
theorem Zwk (s : ByteArray) (i : Nat) : (Zd6 s i).length = 64 := by rw [Zd6,Zsi,Zjj]
theorem Zt7 {H : Heap} : ∀ l : List Int,Zg H (l.map wRow) = some (l.map wRow)
 | [] => rfl
 | x :: l => by
  have h1 : Ze H (wRow x) = some (wRow x) := rfl
  simp only [List.map_cons,Zg,h1,Zt7 l]
theorem Zbjf {pre post : List Int} {i : Nat} (h : pre.length = i) (a : Int) : ((pre ++ a :: post).map wRow)[i]? = some (.int .u32 a) := by
 subst h; simp [wRow]
theorem Zfd {pre post : List Int} {i : Nat} (h : pre.length = i) (a v : Int) : ((pre ++ a :: post).map wRow).take i ++ [.int .u32 v] ++ ((pre ++ a :: post).map wRow).drop (i + 1) = (pre ++ v :: post).map wRow := by
 subst h
 rw [Zmf (by simp)]
 simp [wRow]
theorem Zf9 {pre post : List Int} {i : Nat} (h : pre.length = i) (a : Int) : i + 1 ≤ ((pre ++ a :: post).map wRow).length := by subst h; simp
theorem Z8c : IntKind.wrap .i64 1 = 1 := by decide
theorem Zyw : IntKind.wrap .i64 2 = 2 := by decide
theorem Z2u : IntKind.wrap .i64 3 = 3 := by decide
theorem Z7r : IntKind.wrap .i64 4 = 4 := by decide
set_option maxHeartbeats 4000000 in
theorem Z2e (s : ByteArray) (hs : s.size = 64) : Pr 186 [sC s] (.agg ((Zd6 s 0).map wRow)) := by
 refine Zl mixed Z16 rfl fun hl T => ?_
 have hclo : ∀ l : List Int,Zb (l.map wRow) = true := fun l => by
  induction l with
  | nil => rfl
  | cons x l ih => simp [Zb,Zc,wRow,ih]
 have loop2 : ∀ (m : Nat) (ws : List Int) (e : Env) (k0 : Blk),ws.length + m = 64 → 16 ≤ ws.length → (∃ z : List Cell,z.length = 64 ∧ k0 = { sz := 64,rows := [z] }) → e 2 = .c (.ptr 0 0 0) → e 3 = .c (.ptr 1 0 0) → e 6 = iC ws.length → Zm1 m ws = Zd6 s 0 →
   Run (Zt Tryz.prog T) ⟨[.cell 2 true 64],fun u E => Zf E u = some (.agg ((Zd6 s 0).map wRow))⟩ [.loop Ziu,.blk 4,.code Zlv] e [k0,{ sz := 64,rows := [(ws ++ List.replicate m 0).map wRow] }] := by
  intro m
  induction m with
  | zero =>
   intro ws e k0 hm h16 hk h2 h3 h6 hsc
   obtain ⟨z,hz,rfl⟩ := hk
   have hc : ¬ ((ws.length : Int) < 64) := by omega
   have h64 : ws.length = 64 := by omega
   have htk : (ws.map wRow).take 64 = ws.map wRow := List.take_of_length_le (by simp [h64])
   have hdz : z.drop 64 = [] := List.drop_eq_nil_of_le (by omega)
   refine Zi ?_
   conv => enter [3,1]; unfold Ziu
   simp only [go_sem,simprocAttr,-Nat.reduceSubDiff,h2,h3,h6,hc]
   unfold Zlv
   simp only [go_sem,simprocAttr,-Nat.reduceSubDiff,h2,h3,List.replicate_zero,List.length_map,h64,htk,hz,hdz]
   have : ws = Zd6 s 0 := hsc
   rw [← this]
   simp only [Zf,Zt7 ws]
  | succ m ih =>
   intro ws e k0 hm h16 hk h2 h3 h6 hsc
   have hc : ((ws.length : Int) < 64) := by omega
   obtain ⟨i,hi⟩ : ∃ i,ws.length = i + 16 := ⟨ws.length - 16,by omega⟩
   have g : ∀ d : Nat,d ≤ 16 → IntKind.wrap .i64 (((i + 16 : Nat) : Int) - (d : Int)) = ((i + 16 - d : Nat) : Int) := fun d hd => by rw [Zn (by omega)]; omega
   have g15 := g 15 (by omega)
   have g2 := g 2 (by omega)
   have g16 := g 16 (by omega)
   have g7 := g 7 (by omega)
   have hat : ∀ j,j < i + 16 → ((ws ++ 0 :: List.replicate m 0).map wRow)[j]? = some (.int .u32 (ws.getD j 0)) := fun j hj => by
    rw [List.getElem?_map,List.getElem?_append_left (by omega),List.getElem?_eq_getElem (by omega),List.getD_eq_getElem?_getD,List.getElem?_eq_getElem (by omega)]
    rfl
   have x : ∀ (j : Nat) (H : Heap),j < i + 16 → vIxA 64 1 (.c (.ptr 1 0 0)) (iC (j : Int)) H = some (.c (.ptr 1 0 (0 + j)),H) := fun j H hj => Zcb (by omega)
   have x15 := fun H => x (i + 16 - 15) H (by omega)
   have x2 := fun H => x (i + 16 - 2) H (by omega)
   have x16 := fun H => x (i + 16 - 16) H (by omega)
   have x7 := fun H => x (i + 16 - 7) H (by omega)
   have xn : ∀ H : Heap,vIxA 64 1 (.c (.ptr 1 0 0)) (iC ((i + 16 : Nat) : Int)) H = some (.c (.ptr 1 0 (0 + (i + 16))),H) := fun H => Zcb (by omega)
   have a15 := hat (i + 16 - 15) (by omega)
   have a2 := hat (i + 16 - 2) (by omega)
   have a16 := hat (i + 16 - 16) (by omega)
   have a7 := hat (i + 16 - 7) (by omega)
   have hsh : ∀ (a : Int) (n : Int) (ik : IntKind) (H : Heap),0 ≤ n → vBin .shr (.c (.int .u32 a)) (.c (.int ik n)) H = some (.c (.int .u32 (shrW a n)),H) := fun a n ik H h => Zci h
   have s3 := fun a ik H => hsh a 3 ik H (by decide)
   have s10 := fun a ik H => hsh a 10 ik H (by decide)
   have e1 : ((15 : Nat) : Int) = 15 := rfl
   have e2 : ((2 : Nat) : Int) = 2 := rfl
   have e3 : ((16 : Nat) : Int) = 16 := rfl
   have e4 : ((7 : Nat) : Int) = 7 := rfl
   rw [e1] at g15; rw [e2] at g2; rw [e3] at g16; rw [e4] at g7
   have hput : ∀ v : Int,((ws ++ 0 :: List.replicate m 0).map wRow).take (i + 16) ++ [.int .u32 v] ++ ((ws ++ 0 :: List.replicate m 0).map wRow).drop (i + 16 + 1) = ((ws ++ [v]) ++ List.replicate m 0).map wRow := fun v => by
    have := Zfd (pre := ws) (post := List.replicate m 0) (i := i + 16) hi 0 v
    rw [List.append_assoc ws [v]]
    exact this
   have hlen : i + 16 + 1 ≤ ((ws ++ 0 :: List.replicate m 0).map wRow).length := by simp; omega
   have hn : IntKind.wrap .i64 (((i + 16 : Nat) : Int) + 1) = ((ws ++ [Zi3 ws]).length : Int) := by rw [Zn (by omega)]; simp; omega
   have hnx : addW (addW (addW (ws.getD (i + 16 - 16) 0) (ws.getD (i + 16 - 7) 0)) (xorW (xorW (rotW (ws.getD (i + 16 - 15) 0) 25) (rotW (ws.getD (i + 16 - 15) 0) 14)) (shrW (ws.getD (i + 16 - 15) 0) 3))) (xorW (xorW (rotW (ws.getD (i + 16 - 2) 0) 15) (rotW (ws.getD (i + 16 - 2) 0) 13)) (shrW (ws.getD (i + 16 - 2) 0) 10)) = Zi3 ws := by
    unfold Zi3 lowS lowT
    rw [hi]
   rw [hi] at h6 hc
   refine Zi ?_
   conv => enter [3,1]; unfold Ziu
   simp only [go_sem,simprocAttr,-Nat.reduceSubDiff,h2,h3,h6,hc,g15,g2,x15,x2,a15,a2,g16,g7,x16,x7,a16,a7]
   refine Za (Zbbu _) ?_
   simp only [go_sem,simprocAttr,-Nat.reduceSubDiff,s3]
   refine Za (Z8t _) ?_
   simp only [go_sem,simprocAttr,-Nat.reduceSubDiff,s10,h3,h6,xn,hlen,hput,hn,hnx]
   refine ih (ws ++ [Zi3 ws]) _ k0 (by simp; omega) (by simp; omega) hk ?_ ?_ ?_ hsc
   all_goals (simp only [go_sem,simprocAttr,-Nat.reduceSubDiff,h2,h3,hn]; done)
 have loop1 : ∀ (m i : Nat) (R : List Int) (e : Env) (k0 : Blk),i + m = 16 → R = Zeg s 0 i ++ List.replicate (64 - i) 0 → (∃ z : List Cell,z.length = 64 ∧ k0 = { sz := 64,rows := [z] }) → e 0 = sC s → e 2 = .c (.ptr 0 0 0) → e 3 = .c (.ptr 1 0 0) → e 9 = iC i →
   Run (Zt Tryz.prog T) ⟨[.cell 2 true 64],fun u E => Zf E u = some (.agg ((Zd6 s 0).map wRow))⟩ [.loop Zip,.blk 0,.code Zly] e [k0,{ sz := 64,rows := [R.map wRow] }] := by
  intro m
  induction m with
  | zero =>
   intro i R e k0 hm hR hk h0 h2 h3 h9
   have hc : ¬ ((i : Int) < 16) := by omega
   have hi : i = 16 := by omega
   refine Zi ?_
   conv => enter [3,1]; unfold Zip
   simp only [go_sem,simprocAttr,-Nat.reduceSubDiff,h2,h3,h9,hc]
   unfold Zly
   simp only [go_sem,simprocAttr,-Nat.reduceSubDiff,h2,h3]
   subst hi
   rw [hR]
   have e16 : (Zeg s 0 16).length = 16 := Zjj _ _ _
   refine loop2 48 (Zeg s 0 16) _ k0 (by rw [e16]) (by rw [e16]; exact Nat.le_refl _) hk ?_ ?_ ?_ rfl
   ·simp only [go_sem,simprocAttr,-Nat.reduceSubDiff,h2]
   ·simp only [go_sem,simprocAttr,-Nat.reduceSubDiff,h3]
   ·rw [e16]; simp only [go_sem,simprocAttr,-Nat.reduceSubDiff] <;> rfl
  | succ m ih =>
   intro i R e k0 hm hR hk h0 h2 h3 h9
   have hc : ((i : Int) < 16) := by omega
   have hR2 : R = Zeg s 0 i ++ 0 :: List.replicate (63 - i) 0 := by
    rw [hR,show 64 - i = (63 - i) + 1 by omega]; rfl
   have hpre : (Zeg s 0 i).length = i := Zjj _ _ _
   have hnext : (Zeg s 0 i ++ [Zqq s (4 * i)]) = Zeg s 0 (i + 1) := by rw [Z75,Nat.zero_add]
   obtain ⟨pre,hp⟩ : ∃ pre,pre = Zeg s 0 i := ⟨_,rfl⟩
   obtain ⟨post,hpo⟩ : ∃ post : List Int,post = List.replicate (63 - i) 0 := ⟨_,rfl⟩
   rw [← hp] at hpre hnext hR2
   rw [← hpo] at hR2
   subst hR2
   have hat := fun a => Zbjf (post := post) hpre a
   have hput := fun a v => Zfd (post := post) hpre a v
   have hlen := fun a => Zf9 (post := post) hpre a
   have xn : ∀ H : Heap,vIxA 64 1 (.c (.ptr 1 0 0)) (iC (i : Int)) H = some (.c (.ptr 1 0 (0 + i)),H) := fun H => Zcb (by omega)
   have hsh : ∀ (a : Int) (ik : IntKind) (H : Heap),vBin .shl (.c (.int .u32 a)) (.c (.int ik 8)) H = some (.c (.int .u32 (shlW a 8)),H) := fun a ik H => Zdw (by decide)
   have w4 : IntKind.wrap .i64 (4 * (i : Int)) = ((4 * i : Nat) : Int) := by rw [Zn (by omega)]; omega
   have wk0 : IntKind.wrap .i64 (((4 * i : Nat) : Int) + 0) = ((4 * i : Nat) : Int) := by rw [Zn (by omega)]; omega
   have wk1 : IntKind.wrap .i64 (((4 * i : Nat) : Int) + 1) = ((4 * i + 1 : Nat) : Int) := by rw [Zn (by omega)]; omega
   have wk2 : IntKind.wrap .i64 (((4 * i : Nat) : Int) + 2) = ((4 * i + 2 : Nat) : Int) := by rw [Zn (by omega)]; omega
   have wk3 : IntKind.wrap .i64 (((4 * i : Nat) : Int) + 3) = ((4 * i + 3 : Nat) : Int) := by rw [Zn (by omega)]; omega
   have hb0 := fun H => Zdv (s := s) (j := 4 * i) (ik := .i64) (H := H) (by omega)
   have hb1 := fun H => Zdv (s := s) (j := 4 * i + 1) (ik := .i64) (H := H) (by omega)
   have hb2 := fun H => Zdv (s := s) (j := 4 * i + 2) (ik := .i64) (H := H) (by omega)
   have hb3 := fun H => Zdv (s := s) (j := 4 * i + 3) (ik := .i64) (H := H) (by omega)
   have hby : ∀ j,IntKind.wrap .u32 (Zb4 s j : Int) = Zb4 s j := fun j => Zkp (Zdu s j)
   have hn : IntKind.wrap .i64 ((i : Int) + 1) = ((i + 1 : Nat) : Int) := by rw [Zn (by omega)]; omega
   refine Zi ?_
   conv => enter [3,1]; unfold Zip
   simp only [go_sem,simprocAttr,-Nat.reduceSubDiff,h0,h2,h3,h9,hc]
   refine Zi ?_
   conv => enter [3,1]; unfold Zfc
   simp only [go_sem,simprocAttr,-Nat.reduceSubDiff,h0,h2,h3,h9,w4,wk0,xn,hat,hsh,hb0,hby,hlen,hput,Z8c]
   refine Zi ?_
   conv => enter [3,1]; unfold Zfc
   simp only [go_sem,simprocAttr,-Nat.reduceSubDiff,h0,h2,h3,h9,w4,wk1,xn,hat,hsh,hb1,hby,hlen,hput,Zyw]
   refine Zi ?_
   conv => enter [3,1]; unfold Zfc
   simp only [go_sem,simprocAttr,-Nat.reduceSubDiff,h0,h2,h3,h9,w4,wk2,xn,hat,hsh,hb2,hby,hlen,hput,Z2u]
   refine Zi ?_
   conv => enter [3,1]; unfold Zfc
   simp only [go_sem,simprocAttr,-Nat.reduceSubDiff,h0,h2,h3,h9,w4,wk3,xn,hat,hsh,hb3,hby,hlen,hput,Z7r]
   refine Zi ?_
   conv => enter [3,1]; unfold Zfc
   simp only [go_sem,simprocAttr,-Nat.reduceSubDiff,h0,h2,h3,h9]
   unfold Zr3
   simp only [go_sem,simprocAttr,-Nat.reduceSubDiff,h0,h2,h3,h9,hn]
   refine ih (i + 1) _ _ k0 (by omega) ?_ hk ?_ ?_ ?_ ?_
   ·rw [Z87 (Zdu s _) (Zdu s _) (Zdu s _) (Zdu s _)]
    rw [show 64 - (i + 1) = 63 - i by omega,← hnext,← hpo,List.append_assoc]
    rfl
   all_goals (simp only [go_sem,simprocAttr,-Nat.reduceSubDiff,h0,h2,h3]; done)
 unfold Ztm
 simp only [go_sem,simprocAttr,-Nat.reduceSubDiff]
 refine loop1 16 0 (List.replicate 64 0) _ _ rfl rfl ⟨_,?_,rfl⟩ rfl rfl rfl rfl
 rfl
theorem Z4l : Pr 157 [] (.agg (Zfp.map wRow)) := by
 refine Zl mixed Z4t rfl fun hl T => ?_
 unfold Zvu
 dsimp only [Zfp,List.map_cons,List.map_nil,wRow]
 simp only [go_sem,simprocAttr]
 rfl
def Zn7 (h : V8) (s : ByteArray) (i : Nat) : V8 := (Zff h (Zfp.zip (Zd6 s i))).add h
theorem Zs3 {n i : Nat} {l : List Int} {x : Int} {ik : IntKind} {H : Heap} (h : i < n) (hx : l[i]? = some x) : vIxV false n 1 (.agg (l.map wRow)) (.c (.int ik (i : Int))) H = some (.c (.int .u32 x),H) :=
 Zbdu h (by rw [List.getElem?_map,hx]; rfl)
set_option maxHeartbeats 4000000 in
theorem Z6s (h : V8) (s : ByteArray) (hs : s.size = 64) : Pr 158 [.agg h.cells,.agg (Zfp.map wRow),sC s] (.agg (Zn7 h s 0).cells) := by
 have hclo : ∀ l : List Int,Zb (l.map wRow) = true := fun l => by
  induction l with
  | nil => rfl
  | cons x l ih => simp [Zb,Zc,wRow,ih]
 have hch : ∀ v : V8,Zb v.cells = true := fun v => rfl
 refine Zl mixed Z5x (by simp [Zr,Zp,Zc,hclo,hch]) fun hl T => ?_
 have hcl : Zfp.length = 64 := rfl
 have hsl := Zwk s 0
 have hsp := Z2e s hs
 obtain ⟨tv,htv⟩ : ∃ tv,Zn7 h s 0 = tv := ⟨_,rfl⟩
 rw [htv]
 unfold Zn7 at htv
 generalize Zd6 s 0 = ws at hsl hsp htv
 unfold Zx7
 generalize Zfp = cw at hcl htv hl
 have loop2 : ∀ (v : V8) (e : Env) (k0 : Blk),(∃ z : List Cell,z.length = 8 ∧ k0 = { sz := 8,rows := [z] }) → v.add h = tv → e 3 = .c (.fp h.cells 0) → e 6 = .c (.ptr 0 0 0) → e 7 = .c (.ptr 1 0 0) → e 89 = iC 0 →
   Run (Zt Tryz.prog T) ⟨[.cell 6 true 8],fun u E => Zf E u = some (.agg tv.cells)⟩ [.loop Zdb,.blk 2,.code Zpg] e [k0,{ sz := 8,rows := [v.cells] }] := by
  intro v e k0 hk hv h3 h6 h7 h89
  obtain ⟨z,hz,rfl⟩ := hk
  obtain ⟨a,b,c,d,e',f,g,q⟩ := v
  obtain ⟨a1,b1,c1,d1,e1,f1,g1,q1⟩ := h
  have hdz : z.drop 8 = [] := List.drop_eq_nil_of_le (by omega)
  have hp0 : ∀ (ik : IntKind) (H : Heap),vIxA 8 1 (.c (.ptr 1 0 0)) (.c (.int ik 0)) H = some (.c (.ptr 1 0 0),H) := fun ik H => rfl
  have hp1 : ∀ (ik : IntKind) (H : Heap),vIxA 8 1 (.c (.ptr 1 0 0)) (.c (.int ik 1)) H = some (.c (.ptr 1 0 1),H) := fun ik H => rfl
  have hp2 : ∀ (ik : IntKind) (H : Heap),vIxA 8 1 (.c (.ptr 1 0 0)) (.c (.int ik 2)) H = some (.c (.ptr 1 0 2),H) := fun ik H => rfl
  have hp3 : ∀ (ik : IntKind) (H : Heap),vIxA 8 1 (.c (.ptr 1 0 0)) (.c (.int ik 3)) H = some (.c (.ptr 1 0 3),H) := fun ik H => rfl
  have hp4 : ∀ (ik : IntKind) (H : Heap),vIxA 8 1 (.c (.ptr 1 0 0)) (.c (.int ik 4)) H = some (.c (.ptr 1 0 4),H) := fun ik H => rfl
  have hp5 : ∀ (ik : IntKind) (H : Heap),vIxA 8 1 (.c (.ptr 1 0 0)) (.c (.int ik 5)) H = some (.c (.ptr 1 0 5),H) := fun ik H => rfl
  have hp6 : ∀ (ik : IntKind) (H : Heap),vIxA 8 1 (.c (.ptr 1 0 0)) (.c (.int ik 6)) H = some (.c (.ptr 1 0 6),H) := fun ik H => rfl
  have hp7 : ∀ (ik : IntKind) (H : Heap),vIxA 8 1 (.c (.ptr 1 0 0)) (.c (.int ik 7)) H = some (.c (.ptr 1 0 7),H) := fun ik H => rfl
  have hf0 : ∀ (ik : IntKind) (row : List Cell) (H : Heap),vIxA 8 1 (.c (.fp row 0)) (.c (.int ik 0)) H = some (.c (.fp row 0),H) := fun ik row H => rfl
  have hf1 : ∀ (ik : IntKind) (row : List Cell) (H : Heap),vIxA 8 1 (.c (.fp row 0)) (.c (.int ik 1)) H = some (.c (.fp row 1),H) := fun ik row H => rfl
  have hf2 : ∀ (ik : IntKind) (row : List Cell) (H : Heap),vIxA 8 1 (.c (.fp row 0)) (.c (.int ik 2)) H = some (.c (.fp row 2),H) := fun ik row H => rfl
  have hf3 : ∀ (ik : IntKind) (row : List Cell) (H : Heap),vIxA 8 1 (.c (.fp row 0)) (.c (.int ik 3)) H = some (.c (.fp row 3),H) := fun ik row H => rfl
  have hf4 : ∀ (ik : IntKind) (row : List Cell) (H : Heap),vIxA 8 1 (.c (.fp row 0)) (.c (.int ik 4)) H = some (.c (.fp row 4),H) := fun ik row H => rfl
  have hf5 : ∀ (ik : IntKind) (row : List Cell) (H : Heap),vIxA 8 1 (.c (.fp row 0)) (.c (.int ik 5)) H = some (.c (.fp row 5),H) := fun ik row H => rfl
  have hf6 : ∀ (ik : IntKind) (row : List Cell) (H : Heap),vIxA 8 1 (.c (.fp row 0)) (.c (.int ik 6)) H = some (.c (.fp row 6),H) := fun ik row H => rfl
  have hf7 : ∀ (ik : IntKind) (row : List Cell) (H : Heap),vIxA 8 1 (.c (.fp row 0)) (.c (.int ik 7)) H = some (.c (.fp row 7),H) := fun ik row H => rfl
  have w5 : IntKind.wrap .i64 5 = 5 := by decide
  have w6 : IntKind.wrap .i64 6 = 6 := by decide
  have w7 : IntKind.wrap .i64 7 = 7 := by decide
  have w8 : IntKind.wrap .i64 8 = 8 := by decide
  dsimp only [V8.cells] at h3 ⊢
  refine Zi ?_
  conv => enter [3,1]; unfold Zdb
  simp only [go_sem,simprocAttr,h3,h6,h7,h89,hp0,hf0,Z8c]
  refine Zi ?_
  conv => enter [3,1]; unfold Zdb
  simp only [go_sem,simprocAttr,h3,h6,h7,h89,hp1,hf1,Zyw]
  refine Zi ?_
  conv => enter [3,1]; unfold Zdb
  simp only [go_sem,simprocAttr,h3,h6,h7,h89,hp2,hf2,Z2u]
  refine Zi ?_
  conv => enter [3,1]; unfold Zdb
  simp only [go_sem,simprocAttr,h3,h6,h7,h89,hp3,hf3,Z7r]
  refine Zi ?_
  conv => enter [3,1]; unfold Zdb
  simp only [go_sem,simprocAttr,h3,h6,h7,h89,hp4,hf4,w5]
  refine Zi ?_
  conv => enter [3,1]; unfold Zdb
  simp only [go_sem,simprocAttr,h3,h6,h7,h89,hp5,hf5,w6]
  refine Zi ?_
  conv => enter [3,1]; unfold Zdb
  simp only [go_sem,simprocAttr,h3,h6,h7,h89,hp6,hf6,w7]
  refine Zi ?_
  conv => enter [3,1]; unfold Zdb
  simp only [go_sem,simprocAttr,h3,h6,h7,h89,hp7,hf7,w8]
  refine Zi ?_
  conv => enter [3,1]; unfold Zdb
  simp only [go_sem,simprocAttr,h3,h6,h7]
  unfold Zpg
  simp only [go_sem,simprocAttr,h6,h7,hz,hdz]
  rw [← hv]
  rfl
 have loop1 : ∀ (m i : Nat) (v : V8) (e : Env) (k0 : Blk),i + m = 64 → Zff v ((cw.zip ws).drop i) = Zff h (cw.zip ws) → (∃ z : List Cell,z.length = 8 ∧ k0 = { sz := 8,rows := [z] }) →
   e 3 = .c (.fp h.cells 0) → e 4 = .c (.fp (cw.map wRow) 0) → e 6 = .c (.ptr 0 0 0) → e 7 = .c (.ptr 1 0 0) → e 21 = .agg (ws.map wRow) → e 22 = iC i →
   Run (Zt Tryz.prog T) ⟨[.cell 6 true 8],fun u E => Zf E u = some (.agg tv.cells)⟩ [.loop Zkq,.blk 0,.code Zpr] e [k0,{ sz := 8,rows := [v.cells] }] := by
  intro m
  induction m with
  | zero =>
   intro i v e k0 hm hv hk h3 h4 h6 h7 h21 h22
   have hc : ¬ ((i : Int) < 64) := by omega
   have hi : i = 64 := by omega
   refine Zi ?_
   conv => enter [3,1]; unfold Zkq
   simp only [go_sem,simprocAttr,h22,hc]
   unfold Zpr
   simp only [go_sem,simprocAttr]
   have hd : (cw.zip ws).drop i = [] := List.drop_eq_nil_of_le (by rw [List.length_zip,hcl,hsl]; omega)
   rw [hd] at hv
   refine loop2 v _ k0 hk ?_ ?_ ?_ ?_ ?_
   ·rw [← htv,← hv]; rfl
   all_goals (simp only [go_sem,simprocAttr,h3,h6,h7]; done)
  | succ m ih =>
   intro i v e k0 hm hv hk h3 h4 h6 h7 h21 h22
   have hc : ((i : Int) < 64) := by omega
   obtain ⟨x,hx⟩ : ∃ x,ws[i]? = some x := ⟨ws[i]'(by omega),List.getElem?_eq_getElem _⟩
   obtain ⟨k,hkk⟩ : ∃ k,cw[i]? = some k := ⟨cw[i]'(by omega),List.getElem?_eq_getElem _⟩
   have hdr : (cw.zip ws).drop i = (k,x) :: (cw.zip ws).drop (i + 1) := by
    rw [List.drop_eq_getElem_cons (by rw [List.length_zip,hcl,hsl]; omega)]
    congr 1
    rw [List.getElem_zip]
    obtain ⟨_,e1⟩ := List.getElem?_eq_some_iff.1 hx
    obtain ⟨_,e2⟩ := List.getElem?_eq_some_iff.1 hkk
    rw [e1,e2]
   rw [hdr] at hv
   have hv : Zff (v.step k x) ((cw.zip ws).drop (i + 1)) = Zff h (cw.zip ws) := hv
   have hxv := fun H => Zs3 (n := 64) (l := ws) (ik := .i64) (H := H) (by omega) hx
   have hkv : (cw.map wRow)[i]? = some (.int .u32 k) := by rw [List.getElem?_map,hkk]; rfl
   have hkx : ∀ (row : List Cell) (H : Heap),vIxA 64 1 (.c (.fp row 0)) (iC (i : Int)) H = some (.c (.fp row (0 + i)),H) := fun row H => Z3c (by omega)
   have hn : IntKind.wrap .i64 ((i : Int) + 1) = ((i + 1 : Nat) : Int) := by rw [Zn (by omega)]; omega
   have q0 : ∀ (f : Nat) (H : Heap),vIxA 8 1 (.c (.ptr 1 0 f)) (iC 0) H = some (.c (.ptr 1 0 f),H) := fun f H => Zbkl (by omega)
   have q1 : ∀ (f : Nat) (H : Heap),vIxA 8 1 (.c (.ptr 1 0 f)) (iC 1) H = some (.c (.ptr 1 0 (f + 1)),H) := fun f H => Zbkg (by omega)
   have q2 : ∀ (f : Nat) (H : Heap),vIxA 8 1 (.c (.ptr 1 0 f)) (iC 2) H = some (.c (.ptr 1 0 (f + 2)),H) := fun f H => Zbkh (by omega)
   have q3 : ∀ (f : Nat) (H : Heap),vIxA 8 1 (.c (.ptr 1 0 f)) (iC 3) H = some (.c (.ptr 1 0 (f + 3)),H) := fun f H => Zbiu (by omega)
   have q4 : ∀ (f : Nat) (H : Heap),vIxA 8 1 (.c (.ptr 1 0 f)) (iC 4) H = some (.c (.ptr 1 0 (f + 4)),H) := fun f H => Zbkn (by omega)
   have q5 : ∀ (f : Nat) (H : Heap),vIxA 8 1 (.c (.ptr 1 0 f)) (iC 5) H = some (.c (.ptr 1 0 (f + 5)),H) := fun f H => Zbi3 (by omega)
   have q6 : ∀ (f : Nat) (H : Heap),vIxA 8 1 (.c (.ptr 1 0 f)) (iC 6) H = some (.c (.ptr 1 0 (f + 6)),H) := fun f H => Zbj1 (by omega)
   have q7 : ∀ (f : Nat) (H : Heap),vIxA 8 1 (.c (.ptr 1 0 f)) (iC 7) H = some (.c (.ptr 1 0 (f + 7)),H) := fun f H => Zbkf (by omega)
   obtain ⟨a,b,c,d,e',f,g,q⟩ := v
   dsimp only [V8.cells]
   refine Zi ?_
   conv => enter [3,1]; unfold Zkq
   simp only [go_sem,simprocAttr,h4,h7,h21,h22,hc,hxv,q0,q1,q2,q4,q5,q6,q7]
   refine Za (Zbit e') ?_
   simp only [go_sem,simprocAttr,h4,hkx,hkv]
   refine Za (Zbho a) ?_
   simp only [go_sem,simprocAttr,h7,h22,q3,hn]
   refine ih (i + 1) (V8.step ⟨a,b,c,d,e',f,g,q⟩ k x) _ k0 (by omega) hv hk ?_ ?_ ?_ ?_ ?_ ?_
   all_goals (simp only [go_sem,simprocAttr,h3,h4,h6,h7,h21]; done)
 obtain ⟨a,b,c,d,e',f,g,q⟩ := h
 dsimp only [V8.cells]
 simp only [go_sem,simprocAttr,hclo]
 refine Za hsp ?_
 simp only [go_sem,simprocAttr]
 refine loop1 64 0 ⟨a,b,c,d,e',f,g,q⟩ _ _ rfl (by rw [List.drop_zero]) ⟨_,?_,rfl⟩ ?_ ?_ ?_ ?_ ?_ ?_
 ·rfl
 all_goals first | rfl | (simp only [go_sem,simprocAttr]; done)
end Go.Proofs.YticmfblfghdkbaaGreatDoor.Eng
namespace Go.Proofs.YticmfblfghdkbaaGreatDoor.Eng
open Go Go.Shelf
def Zro : Go.Shelf.Ren := ⟨fun | 105 => 132 | 212 => 165 | 99 => 166 | 165 => 167 | 166 => 168 | 170 => 169 | 169 => 170 | 263 => 193 | 264 => 194 | 206 => 195 | 240 => 196 | 241 => 197 | 276 => 209 | 277 => 210 | n => n,fun | 9 => 9 | 3 => 3 | 4 => 4 | 20 => 20 | 0 => 0 | 46 => 160 | 109 => 217 | 5 => 5 | 72 => 221 | 76 => 223 | 51 => 90 | 146 => 267 | 53 => 152 | 148 => 269 | 70 => 219 | 37 => 22 | 75 => 98 | 127 => 271 | 164 => 192 | 80 => 226 | n => n,fun | n => n⟩
theorem Zqa : Go.Proofs.Lays.n105 Tryz.prog Zro := {
 mixed := by kernel_rfl
 f99 := Tryz.func166.trans (congrArg some (by kernel_rfl))
 f105 := Tryz.func132.trans (congrArg some (by kernel_rfl))
 f165 := Tryz.func167.trans (congrArg some (by kernel_rfl))
 f166 := Tryz.func168.trans (congrArg some (by kernel_rfl))
 f169 := Tryz.func170.trans (congrArg some (by kernel_rfl))
 f170 := Tryz.func169.trans (congrArg some (by kernel_rfl))
 f206 := Tryz.func195.trans (congrArg some (by kernel_rfl))
 f212 := Tryz.func165.trans (congrArg some (by kernel_rfl))
 f240 := Tryz.func196.trans (congrArg some (by kernel_rfl))
 f241 := Tryz.func197.trans (congrArg some (by kernel_rfl))
 f263 := Tryz.func193.trans (congrArg some (by kernel_rfl))
 f264 := Tryz.func194.trans (congrArg some (by kernel_rfl))
 f276 := Tryz.func209.trans (congrArg some (by kernel_rfl))
 f277 := Tryz.func210.trans (congrArg some (by kernel_rfl))
 t0 := Tryz.underlying0
 a0 := Tryz.isAgg0
 z0 := Tryz.sizeOf0
 v0 := Tryz.zeroValue0
 t3 := Tryz.underlying3
 a3 := Tryz.isAgg3
 z3 := Tryz.sizeOf3
 v3 := Tryz.zeroValue3
 t4 := Tryz.underlying4
 a4 := Tryz.isAgg4
 z4 := Tryz.sizeOf4
 v4 := Tryz.zeroValue4
 t5 := Tryz.underlying5
 a5 := Tryz.isAgg5
 z5 := Tryz.sizeOf5
 v5 := Tryz.zeroValue5
 t9 := Tryz.underlying9
 a9 := Tryz.isAgg9
 z9 := Tryz.sizeOf9
 v9 := Tryz.zeroValue9
 t20 := Tryz.underlying20
 a20 := Tryz.isAgg20
 z20 := Tryz.sizeOf20
 v20 := Tryz.zeroValue20
 t37 := Tryz.underlying22
 a37 := Tryz.isAgg22
 z37 := Tryz.sizeOf22
 v37 := Tryz.zeroValue22
 t46 := Tryz.underlying160
 a46 := Tryz.isAgg160
 z46 := Tryz.sizeOf160
 v46 := Tryz.zeroValue160
 t51 := Tryz.underlying90
 a51 := Tryz.isAgg90
 z51 := Tryz.sizeOf90
 v51 := Tryz.zeroValue90
 t53 := Tryz.underlying152
 a53 := Tryz.isAgg152
 z53 := Tryz.sizeOf152
 v53 := Tryz.zeroValue152
 t70 := Tryz.underlying219
 a70 := Tryz.isAgg219
 z70 := Tryz.sizeOf219
 v70 := Tryz.zeroValue219
 t72 := Tryz.underlying221
 a72 := Tryz.isAgg221
 z72 := Tryz.sizeOf221
 v72 := Tryz.zeroValue221
 t75 := Tryz.underlying98
 a75 := Tryz.isAgg98
 z75 := Tryz.sizeOf98
 v75 := Tryz.zeroValue98
 t76 := Tryz.underlying223
 a76 := Tryz.isAgg223
 z76 := Tryz.sizeOf223
 v76 := Tryz.zeroValue223
 t109 := Tryz.underlying217
 a109 := Tryz.isAgg217
 z109 := Tryz.sizeOf217
 v109 := Tryz.zeroValue217
 t127 := Tryz.underlying271
 a127 := Tryz.isAgg271
 z127 := Tryz.sizeOf271
 v127 := Tryz.zeroValue271
 t146 := Tryz.underlying267
 a146 := Tryz.isAgg267
 z146 := Tryz.sizeOf267
 v146 := Tryz.zeroValue267
 t148 := Tryz.underlying269
 a148 := Tryz.isAgg269
 z148 := Tryz.sizeOf269
 v148 := Tryz.zeroValue269
 t164 := Tryz.underlying192
 a164 := Tryz.isAgg192
 z164 := Tryz.sizeOf192
 v164 := Tryz.zeroValue192 }
end Go.Proofs.YticmfblfghdkbaaGreatDoor.Eng
namespace Go.Proofs.YticmfblfghdkbaaGreatDoor.Eng
open Go Go.Shelf Go.RowKit
theorem Zbfo : Builder.Extra Tryz.prog Zro := {
 sizeBuilder := by kernel_rfl
 liesBuilder := by kernel_rfl
 t5 := Zqa.t5
 a5 := Zqa.a5
 z5 := Zqa.z5
 v5 := Zqa.v5
 infoByte := by kernel_rfl
 cellsByte := by kernel_rfl
 sizeByte := by kernel_rfl
 neB5 := by decide }
theorem Z03 : Zro.f 105 = 132 := by kernel_rfl
def repS (s : ByteArray) (c : Nat) : ByteArray := ⟨(Lib.repeatL s.data.toList c).toArray⟩
theorem Z0v (s : ByteArray) (c : Nat) : (repS s c).size = c * s.size := by
 show (Lib.repeatL s.data.toList c).toArray.size = _
 rw [List.size_toArray,Lib.repeatL_length]
 rfl
theorem Zu2 (s : ByteArray) (c : Nat) (hc : c ≤ 9223372036854775807) (hs : s.size * c ≤ 140737488355328) : Pr 132 [sC s,iC c] (sC (repS s c)) := by
 intro H
 refine ⟨by rw [← Z03]; exact ⟨_,Zqa.f105,rfl,rfl⟩,fun B m w vs r ha => ?_⟩
 obtain ⟨vs⟩ := vs
 cases ha with
 | cons a1 a2 =>
  cases a2 with
  | cons a2 a3 =>
   cases a3
   cases a1 with
   | c a1 =>
    cases a1
    cases a2 with
    | c a2 =>
     cases a2
     have h := Any.strings_Repeat Zqa Zbfo s c w hc hs
     rw [Z03] at h
     refine h.mono ?_
     rintro e w' ⟨rfl,hb⟩
     exact ⟨_,⟨m.f,m.z⟩,rfl,St.ofBelow r hb (Or.inl rfl) (fun _ h => h) (fun _ h => .inl h),.c (.str _)⟩
end Go.Proofs.YticmfblfghdkbaaGreatDoor.Eng
namespace Go.Proofs.YticmfblfghdkbaaGreatDoor.Eng
open Go Go.Shelf
def Zd8 : Go.Shelf.Ren := ⟨fun | 156 => 155 | 165 => 167 | 166 => 168 | 169 => 170 | 240 => 196 | 241 => 197 | 276 => 209 | 277 => 210 | n => n,fun | 31 => 155 | 9 => 9 | 3 => 3 | 4 => 4 | 0 => 0 | 20 => 20 | 72 => 221 | 76 => 223 | 70 => 219 | 37 => 22 | 75 => 98 | 127 => 271 | 164 => 192 | 5 => 5 | 80 => 226 | n => n,fun | n => n⟩
theorem Zm2 : Go.Proofs.Lays.n156 Tryz.prog Zd8 := {
 mixed := by kernel_rfl
 f156 := Tryz.func155.trans (congrArg some (by kernel_rfl))
 f165 := Tryz.func167.trans (congrArg some (by kernel_rfl))
 f166 := Tryz.func168.trans (congrArg some (by kernel_rfl))
 f169 := Tryz.func170.trans (congrArg some (by kernel_rfl))
 f240 := Tryz.func196.trans (congrArg some (by kernel_rfl))
 f241 := Tryz.func197.trans (congrArg some (by kernel_rfl))
 f276 := Tryz.func209.trans (congrArg some (by kernel_rfl))
 f277 := Tryz.func210.trans (congrArg some (by kernel_rfl))
 t0 := Tryz.underlying0
 a0 := Tryz.isAgg0
 z0 := Tryz.sizeOf0
 v0 := Tryz.zeroValue0
 t3 := Tryz.underlying3
 a3 := Tryz.isAgg3
 z3 := Tryz.sizeOf3
 v3 := Tryz.zeroValue3
 t4 := Tryz.underlying4
 a4 := Tryz.isAgg4
 z4 := Tryz.sizeOf4
 v4 := Tryz.zeroValue4
 t9 := Tryz.underlying9
 a9 := Tryz.isAgg9
 z9 := Tryz.sizeOf9
 v9 := Tryz.zeroValue9
 t20 := Tryz.underlying20
 a20 := Tryz.isAgg20
 z20 := Tryz.sizeOf20
 v20 := Tryz.zeroValue20
 t31 := Tryz.underlying155
 a31 := Tryz.isAgg155
 z31 := Tryz.sizeOf155
 v31 := Tryz.zeroValue155
 t37 := Tryz.underlying22
 a37 := Tryz.isAgg22
 z37 := Tryz.sizeOf22
 v37 := Tryz.zeroValue22
 t70 := Tryz.underlying219
 a70 := Tryz.isAgg219
 z70 := Tryz.sizeOf219
 v70 := Tryz.zeroValue219
 t72 := Tryz.underlying221
 a72 := Tryz.isAgg221
 z72 := Tryz.sizeOf221
 v72 := Tryz.zeroValue221
 t75 := Tryz.underlying98
 a75 := Tryz.isAgg98
 z75 := Tryz.sizeOf98
 v75 := Tryz.zeroValue98
 t76 := Tryz.underlying223
 a76 := Tryz.isAgg223
 z76 := Tryz.sizeOf223
 v76 := Tryz.zeroValue223
 t127 := Tryz.underlying271
 a127 := Tryz.isAgg271
 z127 := Tryz.sizeOf271
 v127 := Tryz.zeroValue271
 t164 := Tryz.underlying192
 a164 := Tryz.isAgg192
 z164 := Tryz.sizeOf192
 v164 := Tryz.zeroValue192 }
end Go.Proofs.YticmfblfghdkbaaGreatDoor.Eng
