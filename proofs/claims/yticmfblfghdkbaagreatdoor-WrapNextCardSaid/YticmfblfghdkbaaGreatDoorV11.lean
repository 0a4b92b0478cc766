/- Parts of this claim's proof, joined. No statement of the seat is proved here. -/
import Derived.Test.YticmfblfghdkbaaGreatDoorV10
set_option linter.unusedVariables false
set_option linter.unusedSimpArgs false
namespace Go.Proofs.YticmfblfghdkbaaGreatDoor.Eng
open Go
abbrev ii (d : Nat) (o : AOp) : AInstr := ⟨some d,o,none,false⟩
abbrev ig (d : Nat) (o : AOp) (g : Nat) (b : Bool) : AInstr := ⟨some d,o,some (g,b),false⟩
abbrev iz (d : Nat) (o : AOp) : AInstr := ⟨some d,o,none,true⟩
abbrev ie (o : AOp) : AInstr := ⟨none,o,none,false⟩
abbrev im (d s : Nat) : AInstr := ⟨some d,.mv (.t s),none,false⟩
abbrev ifl (d f s : Nat) : AInstr := ⟨some d,.fld f (.t s),none,false⟩
abbrev il (d s : Nat) : AInstr := ⟨some d,.load false 1 (.t s),none,false⟩
abbrev ibt (d : Nat) (o : BinOp) (a b : Nat) : AInstr := ⟨some d,.bin o (.t a) (.t b),none,false⟩
abbrev ixx (d n a b : Nat) : AInstr := ⟨some d,.ix n (.t a) (.t b),none,false⟩
abbrev icl (d f : Nat) (l : List Opd) : AInstr := ⟨some d,.call (.f f) l,none,false⟩
abbrev ki (n : Int) : Opd := .k (.c (.int .i64 n))
def Zoj : ACode := .seq (.seq (.region [im 23 3,ii 24 (.len (.t 23)),ii 25 (.bin .rem (.t 24) (ki 64)),ii 26 (.bin .neq (.t 25) (ki 56))] false) (.cond (.t 26) .skip (.exit 0))) (.block 1 (.region [im 27 3,iz 28 (.lit 1 [.int .u8 0] 1 [(0,.k (.c (.int .u8 0)))]),ii 29 (.app 1 1 (.t 27) (.t 28)),im 3 29] false))
def Zla : ACode := .seq (.seq (.region [im 48 9,ii 49 (.bin .lss (.t 48) (ki 64))] false) (.cond (.t 49) .skip (.exit 4))) (.seq (.block 5 (.seq (.seq (.region [im 52 9,ii 53 (.bin .lss (.t 52) (ki 16))] false) (.cond (.t 53) (.seq (.region [im 54 3,im 55 7,im 56 9,ii 57 (.bin .mul (ki 4) (.t 56)),ibt 58 .add 55 57,ii 59 (.sl 1 (.t 54) (some (.t 58)) none none),im 10 59] false) (.region [im 60 6,im 61 9,im 62 10,ii 63 (.ix 1 (.t 62) (ki 0)),il 64 63,ii 65 (.conv .u32 (.t 64)),ii 66 (.bin .shl (.t 65) (.k (.c (.int .u64 24)))),im 67 10,ii 68 (.ix 1 (.t 67) (ki 1)),il 69 68,ii 70 (.conv .u32 (.t 69)),ii 71 (.bin .shl (.t 70) (.k (.c (.int .u64 16)))),ibt 72 .or 66 71,im 73 10,ii 74 (.ix 1 (.t 73) (ki 2)),il 75 74,ii 76 (.conv .u32 (.t 75)),ii 77 (.bin .shl (.t 76) (.k (.c (.int .u64 8)))),ibt 78 .or 72 77,im 79 10,ii 80 (.ix 1 (.t 79) (ki 3)),il 81 80,ii 82 (.conv .u32 (.t 81)),ibt 83 .or 78 82,ixx 84 1 60 61,ie (.store 1 (.t 84) (.t 83))] true)) (.seq (.region [im 85 6,im 86 9,ii 87 (.bin .sub (.t 86) (ki 15)),ixx 88 1 85 87,il 89 88,im 90 6,im 91 9,ii 92 (.bin .sub (.t 91) (ki 2)),ixx 93 1 90 92,il 94 93,im 11 89,im 12 94] true) (.region [im 95 6,im 96 9,im 97 6,im 98 9,ii 99 (.bin .sub (.t 98) (ki 16)),ixx 100 1 97 99,il 101 100,im 102 6,im 103 9,ii 104 (.bin .sub (.t 103) (ki 7)),ixx 105 1 102 104,il 106 105,ibt 107 .add 101 106,im 108 11,icl 109 114 [.t 108,.k (.c (.int .u64 25))],im 110 11,icl 111 114 [.t 110,.k (.c (.int .u64 14))],ibt 112 .xor 109 111,im 113 11,ii 114 (.bin .shr (.t 113) (.k (.c (.int .u64 3)))),ibt 115 .xor 112 114,ibt 116 .add 107 115,im 117 12,icl 118 114 [.t 117,.k (.c (.int .u64 15))],im 119 12,icl 120 114 [.t 119,.k (.c (.int .u64 13))],ibt 121 .xor 118 120,im 122 12,ii 123 (.bin .shr (.t 122) (.k (.c (.int .u64 10)))),ibt 124 .xor 121 123,ibt 125 .add 116 124,ixx 126 1 95 96,ie (.store 1 (.t 126) (.t 125))] true)))) (.seq (.region [im 127 8,ii 128 (.ix 1 (.t 127) (ki 7)),il 129 128,im 130 8,ii 131 (.ix 1 (.t 130) (ki 4)),il 132 131,icl 133 115 [.t 132,.k (.c (.int .u64 6)),.k (.c (.int .u64 11)),.k (.c (.int .u64 25))],ibt 134 .add 129 133,im 135 8,ii 136 (.ix 1 (.t 135) (ki 4)),il 137 136,im 138 8,ii 139 (.ix 1 (.t 138) (ki 5)),il 140 139,ibt 141 .and 137 140,im 142 8,ii 143 (.ix 1 (.t 142) (ki 4)),il 144 143,ii 145 (.un .xor (.t 144)),im 146 8,ii 147 (.ix 1 (.t 146) (ki 6)),il 148 147,ibt 149 .and 145 148,ibt 150 .xor 141 149,ibt 151 .add 134 150,im 152 5,im 153 9,ixx 154 1 152 153,il 155 154,ibt 156 .add 151 155,im 157 6,im 158 9,ixx 159 1 157 158,il 160 159,ibt 161 .add 156 160,im 13 161] true) (.seq (.region [im 162 8,ii 163 (.ix 1 (.t 162) (ki 0)),il 164 163,icl 165 115 [.t 164,.k (.c (.int .u64 2)),.k (.c (.int .u64 13)),.k (.c (.int .u64 22))],im 166 8,ii 167 (.ix 1 (.t 166) (ki 0)),il 168 167,im 169 8,ii 170 (.ix 1 (.t 169) (ki 1)),il 171 170,ibt 172 .and 168 171,im 173 8,ii 174 (.ix 1 (.t 173) (ki 0)),il 175 174,im 176 8,ii 177 (.ix 1 (.t 176) (ki 2)),il 178 177,ibt 179 .and 175 178,ibt 180 .xor 172 179,im 181 8,ii 182 (.ix 1 (.t 181) (ki 1)),il 183 182,im 184 8,ii 185 (.ix 1 (.t 184) (ki 2)),il 186 185,ibt 187 .and 183 186,ibt 188 .xor 180 187,ibt 189 .add 165 188,im 14 189] true) (.seq (.region [im 190 13,im 191 14,ibt 192 .add 190 191,ii 193 (.lit 1 [.int .u32 0] 1 [(0,.t 192)]),im 194 8,ii 195 (.sl 1 (.t 194) none (some (ki 7)) none),ii 196 (.app 1 4 (.t 193) (.t 195)),im 8 196] false) (.region [im 197 8,ii 198 (.ix 1 (.t 197) (ki 4)),il 199 198,im 200 13,ibt 201 .add 199 200,ii 202 (.ix 1 (.t 197) (ki 4)),ie (.store 1 (.t 202) (.t 201))] false)))))) (.region [im 50 9,ii 51 (.bin .add (.t 50) (ki 1)),im 9 51] false))
def Zex : ACode := .seq (.seq (.region [im 203 15,ii 204 (.bin .lss (.t 203) (ki 8))] false) (.cond (.t 204) .skip (.exit 6))) (.seq (.block 7 (.region [im 207 4,im 208 15,ixx 209 1 207 208,il 210 209,im 211 8,im 212 15,ixx 213 1 211 212,il 214 213,ibt 215 .add 210 214,ixx 216 1 207 208,ie (.store 1 (.t 216) (.t 215))] true)) (.region [im 205 15,ii 206 (.bin .add (.t 205) (ki 1)),im 15 206] false))
def Zsd : ACode := .seq (.region [ii 15 (.mv (ki 0))] false) (.block 6 (.loop Zex))
def Ztr : ACode := .region [im 43 7,ii 44 (.bin .add (.t 43) (ki 64)),im 7 44] false
def Zlq : ACode := .seq (.seq (.region [im 39 7,im 40 3,ii 41 (.len (.t 40)),ibt 42 .lss 39 41] false) (.cond (.t 42) .skip (.exit 2))) (.seq (.block 3 (.seq (.region [iz 45 (.lit 1 [.int .u32 0] 0 []),im 46 4,ii 47 (.appZ 1 4 (.t 45) (.t 46)),im 8 47] false) (.seq (.seq (.region [ii 9 (.mv (ki 0))] false) (.block 4 (.loop Zla))) Zsd))) Ztr)
def Zoe : ACode := .seq (.seq (.region [im 217 17,ii 218 (.bin .lss (.t 217) (ki 8))] false) (.cond (.t 218) .skip (.exit 8))) (.seq (.block 9 (.region [im 221 16,im 222 4,im 223 17,ixx 224 1 222 223,il 225 224,ii 226 (.bin .shr (.t 225) (.k (.c (.int .u64 24)))),ii 227 (.conv .u8 (.t 226)),im 228 4,im 229 17,ixx 230 1 228 229,il 231 230,ii 232 (.bin .shr (.t 231) (.k (.c (.int .u64 16)))),ii 233 (.conv .u8 (.t 232)),im 234 4,im 235 17,ixx 236 1 234 235,il 237 236,ii 238 (.bin .shr (.t 237) (.k (.c (.int .u64 8)))),ii 239 (.conv .u8 (.t 238)),im 240 4,im 241 17,ixx 242 1 240 241,il 243 242,ii 244 (.conv .u8 (.t 243)),iz 245 (.lit 1 [.int .u8 0] 4 [(0,.t 227),(1,.t 233),(2,.t 239),(3,.t 244)]),ii 246 (.app 1 1 (.t 221) (.t 245)),im 16 246] true)) (.region [im 219 17,ii 220 (.bin .add (.t 219) (ki 1)),im 17 220] false))
def Ztl : ACode := .seq (.region [im 247 16,ii 248 (.b2s (.t 247)),im 2 248] false) .ret
def Zoo : ACode := .seq (.region [ii 16 (.mv (.k (.c .nilS)))] false) (.seq (.seq (.region [ii 17 (.mv (ki 0))] false) (.block 8 (.loop Zoe))) Ztl)
def Zua : ACode := .seq (.region [im 30 3,im 31 0,ii 32 (.lenS (.t 31)),ii 33 (.bin .mul (ki 8) (.t 32)),icl 34 112 [.t 33],ii 35 (.app 1 1 (.t 30) (.t 34)),im 3 35] false) (.fz 3 (.seq (.region [ii 36 (.lit 1 [.int .u32 0] 8 [(0,.k (.c (.int .u32 1779033703))),(1,.k (.c (.int .u32 3144134277))),(2,.k (.c (.int .u32 1013904242))),(3,.k (.c (.int .u32 2773480762))),(4,.k (.c (.int .u32 1359893119))),(5,.k (.c (.int .u32 2600822924))),(6,.k (.c (.int .u32 528734635))),(7,.k (.c (.int .u32 1541459225)))]),im 4 36] false) (.seq (.region [icl 37 113 [],im 5 37] false) (.seq (.region [ii 38 (.make 1 4 [.int .u32 0] (ki 64) (ki 64)),im 6 38] false) (.seq (.seq (.region [ii 7 (.mv (ki 0))] false) (.block 2 (.loop Zlq))) Zoo)))))
def Z5e : AFun := ⟨[.tmp 2],.seq (.region [ii 2 (.mv (.k (.c (.str ⟨#[]⟩))))] false) (.seq (.region [im 18 0,ii 19 (.s2b (.t 18)),im 3 19] false) (.seq (.region [im 20 3,iz 21 (.lit 1 [.int .u8 0] 1 [(0,.k (.c (.int .u8 128)))]),ii 22 (.app 1 1 (.t 20) (.t 21)),im 3 22] false) (.seq (.block 0 (.loop Zoj)) Zua)))⟩
theorem Zbb2 : Zm Tryz.prog 70 = some Z5e.erase := by kernel_rfl
def Z0i : AFun := ⟨[.tmp 4],.seq (.region [ii 4 (.mv (.k (.c (.int .u32 0))))] false) (.seq (.region [im 5 0,im 6 1,ibt 7 .shl 5 6,im 8 0,im 9 1,ii 10 (.bin .sub (.k (.c (.int .u64 32))) (.t 9)),ibt 11 .shr 8 10,ibt 12 .or 7 11,im 4 12] false) .ret)⟩
theorem Z7s : Zm Tryz.prog 114 = some Z0i.erase := by kernel_rfl
def Zya : AFun := ⟨[.tmp 8],.seq (.region [ii 8 (.mv (.k (.c (.int .u32 0))))] false) (.seq (.region [im 9 0,im 10 1,ii 11 (.bin .sub (.k (.c (.int .u64 32))) (.t 10)),icl 12 114 [.t 9,.t 11],im 13 0,im 14 2,ii 15 (.bin .sub (.k (.c (.int .u64 32))) (.t 14)),icl 16 114 [.t 13,.t 15],ibt 17 .xor 12 16,im 18 0,im 19 3,ii 20 (.bin .sub (.k (.c (.int .u64 32))) (.t 19)),icl 21 114 [.t 18,.t 20],ibt 22 .xor 17 21,im 8 22] false) .ret)⟩
theorem Z6f : Zm Tryz.prog 115 = some Zya.erase := by kernel_rfl
def Zp8 : AFun := ⟨[.tmp 0],.seq (.region [ii 0 (.mv (.k (.c .nilS)))] false) (.seq (.region [iz 1 (.lit 1 [.int .u32 0] 64 [(0,.k (.c (.int .u32 1116352408))),(1,.k (.c (.int .u32 1899447441))),(2,.k (.c (.int .u32 3049323471))),(3,.k (.c (.int .u32 3921009573))),(4,.k (.c (.int .u32 961987163))),(5,.k (.c (.int .u32 1508970993))),(6,.k (.c (.int .u32 2453635748))),(7,.k (.c (.int .u32 2870763221))),(8,.k (.c (.int .u32 3624381080))),(9,.k (.c (.int .u32 310598401))),(10,.k (.c (.int .u32 607225278))),(11,.k (.c (.int .u32 1426881987))),(12,.k (.c (.int .u32 1925078388))),(13,.k (.c (.int .u32 2162078206))),(14,.k (.c (.int .u32 2614888103))),(15,.k (.c (.int .u32 3248222580))),(16,.k (.c (.int .u32 3835390401))),(17,.k (.c (.int .u32 4022224774))),(18,.k (.c (.int .u32 264347078))),(19,.k (.c (.int .u32 604807628))),(20,.k (.c (.int .u32 770255983))),(21,.k (.c (.int .u32 1249150122))),(22,.k (.c (.int .u32 1555081692))),(23,.k (.c (.int .u32 1996064986))),(24,.k (.c (.int .u32 2554220882))),(25,.k (.c (.int .u32 2821834349))),(26,.k (.c (.int .u32 2952996808))),(27,.k (.c (.int .u32 3210313671))),(28,.k (.c (.int .u32 3336571891))),(29,.k (.c (.int .u32 3584528711))),(30,.k (.c (.int .u32 113926993))),(31,.k (.c (.int .u32 338241895))),(32,.k (.c (.int .u32 666307205))),(33,.k (.c (.int .u32 773529912))),(34,.k (.c (.int .u32 1294757372))),(35,.k (.c (.int .u32 1396182291))),(36,.k (.c (.int .u32 1695183700))),(37,.k (.c (.int .u32 1986661051))),(38,.k (.c (.int .u32 2177026350))),(39,.k (.c (.int .u32 2456956037))),(40,.k (.c (.int .u32 2730485921))),(41,.k (.c (.int .u32 2820302411))),(42,.k (.c (.int .u32 3259730800))),(43,.k (.c (.int .u32 3345764771))),(44,.k (.c (.int .u32 3516065817))),(45,.k (.c (.int .u32 3600352804))),(46,.k (.c (.int .u32 4094571909))),(47,.k (.c (.int .u32 275423344))),(48,.k (.c (.int .u32 430227734))),(49,.k (.c (.int .u32 506948616))),(50,.k (.c (.int .u32 659060556))),(51,.k (.c (.int .u32 883997877))),(52,.k (.c (.int .u32 958139571))),(53,.k (.c (.int .u32 1322822218))),(54,.k (.c (.int .u32 1537002063))),(55,.k (.c (.int .u32 1747873779))),(56,.k (.c (.int .u32 1955562222))),(57,.k (.c (.int .u32 2024104815))),(58,.k (.c (.int .u32 2227730452))),(59,.k (.c (.int .u32 2361852424))),(60,.k (.c (.int .u32 2428436474))),(61,.k (.c (.int .u32 2756734187))),(62,.k (.c (.int .u32 3204031479))),(63,.k (.c (.int .u32 3329325298)))]),im 0 1] false) .ret)⟩
theorem Zyn : Zm Tryz.prog 113 = some Zp8.erase := by kernel_rfl
def Zky : ACode := .seq (.seq (.region [im 8 5,ii 9 (.bin .lss (.t 8) (ki 8))] false) (.cond (.t 9) .skip (.exit 0))) (.seq (.block 1 (.region [im 12 4,im 13 3,im 14 5,ii 15 (.bin .mul (ki 8) (.t 14)),ii 16 (.bin .sub (ki 56) (.t 15)),ii 17 (.conv .u64 (.t 16)),ibt 18 .shr 13 17,ii 19 (.conv .u8 (.t 18)),iz 20 (.lit 1 [.int .u8 0] 1 [(0,.t 19)]),ii 21 (.app 1 1 (.t 12) (.t 20)),im 4 21] false)) (.region [im 10 5,ii 11 (.bin .add (.t 10) (ki 1)),im 5 11] false))
def Zpz : ACode := .seq (.region [im 22 4,ii 23 (.b2s (.t 22)),im 2 23] false) .ret
def Zxn : AFun := ⟨[.tmp 2],.seq (.region [ii 2 (.mv (.k (.c (.str ⟨#[]⟩))))] false) (.seq (.region [im 6 0,ii 7 (.conv .u64 (.t 6)),im 3 7] false) (.seq (.region [ii 4 (.mv (.k (.c .nilS)))] false) (.seq (.seq (.region [ii 5 (.mv (ki 0))] false) (.block 0 (.loop Zky))) Zpz)))⟩
theorem Z55 : Zm Tryz.prog 112 = some Zxn.erase := by kernel_rfl
def Zi4 : ACode := .seq (.region [ibt 14 .lss 13 12] false) (.seq (.cond (.t 14) .skip (.exit 0)) (.seq (.block 1 (.seq (.region [im 15 13,im 6 15] false) (.region [im 16 5,im 17 6,ixx 18 1 16 17,il 19 18,im 20 1,ibt 21 .xor 19 20,ixx 22 1 16 17,ie (.store 1 (.t 22) (.t 21))] false))) (.region [ii 23 (.bin .add (.t 13) (ki 1)),im 13 23] false)))
def Zl3 : ACode := .seq (.region [im 24 5,ii 25 (.b2s (.t 24)),im 4 25] false) .ret
def Ztm : AFun := ⟨[.tmp 4],.seq (.region [ii 4 (.mv (.k (.c (.str ⟨#[]⟩))))] false) (.seq (.region [ii 7 (.make 1 1 [.int .u8 0] (ki 64) (ki 64)),im 5 7] false) (.seq (.region [im 8 5,im 9 0,ii 10 (.cpy 1 (.t 8) (.t 9))] false) (.seq (.seq (.region [im 11 5,ii 12 (.len (.t 11)),ii 13 (.mv (ki 0))] false) (.block 0 (.loop Zi4))) Zl3)))⟩
theorem Z1x : Zm Tryz.prog 111 = some Ztm.erase := by kernel_rfl
def Zyh : AFun := ⟨[.tmp 4],.seq (.region [ii 4 (.mv (.k (.c (.str ⟨#[]⟩))))] false) (.seq (.seq (.region [im 6 0,ii 7 (.lenS (.t 6)),ii 8 (.bin .gtr (.t 7) (ki 64))] false) (.cond (.t 8) (.region [im 9 0,iz 10 (.lit 1 [.str ⟨#[]⟩] 1 [(0,.t 9)]),icl 11 110 [.t 10],im 0 11] false) .skip)) (.seq (.region [im 12 0,icl 13 111 [.t 12,.k (.c (.int .u8 54))],ii 14 (.lit 1 [.str ⟨#[]⟩] 1 [(0,.t 13)]),im 15 1,ii 16 (.app 1 16 (.t 14) (.t 15)),im 5 16] false) (.seq (.region [im 17 0,icl 18 111 [.t 17,.k (.c (.int .u8 92))],im 19 5,icl 20 110 [.t 19],iz 21 (.lit 1 [.str ⟨#[]⟩] 2 [(0,.t 18),(1,.t 20)]),icl 22 110 [.t 21],im 4 22] false) .ret)))⟩
theorem Z7a : Zm Tryz.prog 68 = some Zyh.erase := by kernel_rfl
def Zs9 : AFun := ⟨[.tmp 2],.seq (.region [ii 2 (.mv (.k (.c .nilI)))] false) (.seq (.block 0 (.seq (.region [im 4 0,ii 5 (.bin .lss (.t 4) (ki 0)),im 3 5] false) (.cond (.t 3) (.seq (.region [ii 6 (.mkI 257 (.k (.c (.str ⟨#[98,101,108,111,119,32,110,111,117,103,104,116]⟩)))),ii 7 (.build [.nilI] [(0,1,.t 6)]),ii 8 (.mkI 281 (.t 7)),im 2 8] false) .ret) (.seq (.region [im 10 0,ii 11 (.bin .gtr (.t 10) (ki 8160)),im 9 11] false) (.cond (.t 9) (.seq (.region [ii 12 (.mkI 257 (.k (.c (.str ⟨#[116,111,111,32,109,97,110,121]⟩)))),ii 13 (.build [.nilI] [(0,1,.t 12)]),ii 14 (.mkI 281 (.t 13)),im 2 14] false) .ret) .skip))))) (.seq (.region [ii 2 (.mv (.k (.c .nilI)))] false) .ret))⟩
theorem Z1u : Zm Tryz.prog 183 = some Zs9.erase := by kernel_rfl
def Zi8 : ACode := .seq (.region [ibt 15 .lss 14 13] false) (.seq (.cond (.t 15) .skip (.exit 0)) (.seq (.block 1 (.seq (.region [im 16 14,im 6 16] false) (.region [im 17 5,im 18 0,im 19 6,ii 20 (.ixS (.t 18) (.t 19)),im 21 1,im 22 6,ii 23 (.ixS (.t 21) (.t 22)),ibt 24 .xor 20 23,ibt 25 .or 17 24,im 5 25] true))) (.region [ii 26 (.bin .add (.t 14) (ki 1)),im 14 26] false)))
def Zlx : ACode := .seq (.region [im 27 5,ii 28 (.bin .eql (.t 27) (.k (.c (.int .u8 0)))),im 4 28] false) .ret
def Ztk : AFun := ⟨[.tmp 4],.seq (.region [ii 4 (.mv (.k (.c (.bool false))))] false) (.seq (.seq (.region [im 7 0,ii 8 (.lenS (.t 7)),im 9 1,ii 10 (.lenS (.t 9)),ibt 11 .neq 8 10] false) (.cond (.t 11) (.seq (.region [ii 4 (.mv (.k (.c (.bool false))))] false) .ret) .skip)) (.seq (.region [ii 5 (.mv (.k (.c (.int .u8 0))))] false) (.seq (.seq (.region [im 12 0,ii 13 (.lenS (.t 12)),ii 14 (.mv (ki 0))] false) (.block 0 (.loop Zi8))) Zlx)))⟩
theorem Z15 : Zm Tryz.prog 128 = some Ztk.erase := by kernel_rfl
def Zj5 : ACode := .seq (.seq (.region [im 11 6,ii 12 (.bin .lss (.t 11) (ki 64))] false) (.cond (.t 12) .skip (.exit 0))) (.seq (.block 1 (.region [im 15 5,im 16 6,ixx 17 1 15 16,il 18 17,im 19 1,ibt 20 .xor 18 19,ixx 21 1 15 16,ie (.store 1 (.t 21) (.t 20))] false)) (.region [im 13 6,ii 14 (.bin .add (.t 13) (ki 1)),im 6 14] false))
def Znl : ACode := .seq (.region [im 22 5,ii 23 (.b2s (.t 22)),im 4 23] false) .ret
def Zwg : AFun := ⟨[.tmp 4],.seq (.region [ii 4 (.mv (.k (.c (.str ⟨#[]⟩))))] false) (.seq (.region [ii 7 (.make 1 1 [.int .u8 0] (ki 64) (ki 64)),im 5 7] false) (.seq (.region [im 8 5,im 9 0,ii 10 (.cpy 1 (.t 8) (.t 9))] false) (.seq (.seq (.region [ii 6 (.mv (ki 0))] false) (.block 0 (.loop Zj5))) Znl)))⟩
theorem Z49 : Zm Tryz.prog 130 = some Zwg.erase := by kernel_rfl
def Z4y : AFun := ⟨[.tmp 4],.seq (.region [ii 4 (.mv (.k (.c (.str ⟨#[]⟩))))] false) (.seq (.seq (.region [im 5 0,ii 6 (.lenS (.t 5)),ii 7 (.bin .gtr (.t 6) (ki 64))] false) (.cond (.t 7) (.region [im 8 0,icl 9 70 [.t 8],im 0 9] false) .skip)) (.seq (.region [im 10 0,icl 11 130 [.t 10,.k (.c (.int .u8 92))],im 12 0,icl 13 130 [.t 12,.k (.c (.int .u8 54))],im 14 1,ibt 15 .add 13 14,icl 16 70 [.t 15],ibt 17 .add 11 16,icl 18 70 [.t 17],im 4 18] false) .ret))⟩
theorem Z99 : Zm Tryz.prog 82 = some Z4y.erase := by kernel_rfl
def Zf6 : ACode := .seq (.seq (.region [im 22 10,ii 23 (.lenS (.t 22)),im 24 3,ibt 25 .lss 23 24] false) (.cond (.t 25) .skip (.exit 0))) (.seq (.block 1 (.seq (.region [im 28 9,im 29 11,im 30 2,ibt 31 .add 29 30,im 32 12,ii 33 (.conv .u8 (.t 32)),iz 34 (.lit 1 [.int .u8 0] 1 [(0,.t 33)]),ii 35 (.b2s (.t 34)),ibt 36 .add 31 35,icl 37 82 [.t 28,.t 36],im 11 37] false) (.region [im 38 10,im 39 11,ibt 40 .add 38 39,im 10 40] false))) (.region [im 26 12,ii 27 (.bin .add (.t 26) (ki 1)),im 12 27] false))
def Znh : ACode := .seq (.region [im 41 10,im 42 3,ii 43 (.slS (.t 41) none (some (.t 42))),im 8 43] false) .ret
def Zpl : AFun := ⟨[.tmp 8],.seq (.region [ii 8 (.mv (.k (.c (.str ⟨#[]⟩))))] false) (.seq (.seq (.region [im 13 3,ii 14 (.bin .lss (.t 13) (ki 0)),im 15 14,ig 16 (.mv (.t 3)) 15 false,ig 17 (.bin .gtr (.t 16) (ki 8160)) 15 false,ii 18 (.pick (.t 15) (.k (.c (.bool true))) (.t 17))] false) (.cond (.t 18) (.seq (.region [ii 8 (.mv (.k (.c (.str ⟨#[]⟩))))] false) .ret) .skip)) (.seq (.region [im 19 0,im 20 1,icl 21 82 [.t 19,.t 20],im 9 21] false) (.seq (.region [ii 10 (.mv (.k (.c (.str ⟨#[]⟩)))),ii 11 (.mv (.k (.c (.str ⟨#[]⟩))))] false) (.seq (.seq (.region [ii 12 (.mv (ki 1))] false) (.block 0 (.loop Zf6))) Znh))))⟩
theorem Ztp : Zm Tryz.prog 65 = some Zpl.erase := by kernel_rfl
def Z3v : AFun := ⟨[.cell 2 true 4],.seq (.region [ii 2 (.new [.int .i64 0,.int .i64 0,.str ⟨#[]⟩,.nilS])] false) (.seq (.region [im 3 0,ii 4 (.build [.int .i64 0,.int .i64 0,.str ⟨#[]⟩,.nilS] [(0,1,.k (.c (.int .i64 1))),(1,1,.t 3)]),ie (.store 4 (.t 2) (.t 4))] false) .ret)⟩
theorem Zbdr : Zm Tryz.prog 117 = some Z3v.erase := by kernel_rfl
def Z0j : AFun := ⟨[.cell 2 true 4],.seq (.region [ii 2 (.new [.int .i64 0,.int .i64 0,.str ⟨#[]⟩,.nilS])] false) (.seq (.region [im 3 0,ii 4 (.build [.int .i64 0,.int .i64 0,.str ⟨#[]⟩,.nilS] [(0,1,.k (.c (.int .i64 2))),(2,1,.t 3)]),ie (.store 4 (.t 2) (.t 4))] false) .ret)⟩
theorem Z9g : Zm Tryz.prog 118 = some Z0j.erase := by kernel_rfl
def Z00 : AFun := ⟨[.cell 2 true 4],.seq (.region [ii 2 (.new [.int .i64 0,.int .i64 0,.str ⟨#[]⟩,.nilS])] false) (.seq (.region [im 3 0,ii 4 (.build [.int .i64 0,.int .i64 0,.str ⟨#[]⟩,.nilS] [(0,1,.k (.c (.int .i64 3))),(3,1,.t 3)]),ie (.store 4 (.t 2) (.t 4))] false) .ret)⟩
theorem Z8k : Zm Tryz.prog 116 = some Z00.erase := by kernel_rfl
def Z0t : AFun := ⟨[.tmp 2],.seq (.region [ii 2 (.mv (.k (.c (.str ⟨#[]⟩))))] false) (.seq (.region [im 3 0,icl 4 112 [.t 3],ii 5 (.slS (.t 4) (some (ki 4)) none),im 2 5] false) .ret)⟩
theorem Z7v : Zm Tryz.prog 190 = some Z0t.erase := by kernel_rfl
def Zkt : ACode := .seq (.seq (.region [im 56 5,ifl 57 3 2,il 58 57,ii 59 (.len (.t 58)),ibt 60 .lss 56 59] false) (.cond (.t 60) .skip (.exit 1))) (.seq (.block 2 (.seq (.region [ifl 63 3 2,il 64 63,im 65 5,ixx 66 4 64 65,ii 67 (.load true 4 (.t 66)),im 68 1,ii 69 (.bin .sub (.t 68) (ki 1)),icl 70 188 [.t 67,.t 69],ii 71 (.un .not (.t 70))] false) (.cond (.t 71) (.seq (.region [ii 4 (.mv (.k (.c (.bool false))))] false) .ret) .skip))) (.region [im 61 5,ii 62 (.bin .add (.t 61) (ki 1)),im 5 62] false))
def Zpo : ACode := .seq (.region [ii 4 (.mv (.k (.c (.bool true))))] false) .ret
def Zpk : ACode := .seq (.region [ii 4 (.mv (.k (.c (.bool false))))] false) .ret
def Zxv : AFun := ⟨[.tmp 4],.seq (.region [iz 2 (.box (.t 0)),ii 4 (.mv (.k (.c (.bool false))))] false) (.seq (.seq (.region [ifl 6 0 2,il 7 6] false) (.block 0 (.seq (.region [ii 9 (.bin .eql (.t 7) (ki 1)),im 8 9] false) (.cond (.t 8) (.seq (.region [ifl 10 2 2,il 11 10,ii 12 (.bin .eql (.t 11) (.k (.c (.str ⟨#[]⟩)))),im 13 12,ig 14 (.fld 3 (.t 2)) 13 true,ig 15 (.load false 1 (.t 14)) 13 true,ig 16 (.len (.t 15)) 13 true,ig 17 (.bin .eql (.t 16) (ki 0)) 13 true,ii 18 (.pick (.t 13) (.t 17) (.k (.c (.bool false)))),im 4 18] false) .ret) (.seq (.region [ii 20 (.bin .eql (.t 7) (ki 2)),im 19 20] false) (.cond (.t 19) (.seq (.region [ifl 21 1 2,il 22 21,ii 23 (.bin .eql (.t 22) (ki 0)),im 24 23,ig 25 (.fld 3 (.t 2)) 24 true,ig 26 (.load false 1 (.t 25)) 24 true,ig 27 (.len (.t 26)) 24 true,ig 28 (.bin .eql (.t 27) (ki 0)) 24 true,ii 29 (.pick (.t 24) (.t 28) (.k (.c (.bool false)))),im 30 29,ig 31 (.fld 2 (.t 2)) 30 true,ig 32 (.load false 1 (.t 31)) 30 true,ig 33 (.lenS (.t 32)) 30 true,ig 34 (.bin .leq (.t 33) (ki 1048576)) 30 true,ii 35 (.pick (.t 30) (.t 34) (.k (.c (.bool false)))),im 4 35] false) .ret) (.seq (.region [ii 37 (.bin .eql (.t 7) (ki 3)),im 36 37] false) (.cond (.t 36) (.seq (.seq (.region [ifl 38 1 2,il 39 38,ii 40 (.bin .neq (.t 39) (ki 0)),im 41 40,ig 42 (.fld 2 (.t 2)) 41 false,ig 43 (.load false 1 (.t 42)) 41 false,ig 44 (.bin .neq (.t 43) (.k (.c (.str ⟨#[]⟩)))) 41 false,ii 45 (.pick (.t 41) (.k (.c (.bool true))) (.t 44)),im 46 45,ig 47 (.fld 3 (.t 2)) 46 false,ig 48 (.load false 1 (.t 47)) 46 false,ig 49 (.len (.t 48)) 46 false,ig 50 (.bin .gtr (.t 49) (ki 65536)) 46 false,ii 51 (.pick (.t 46) (.k (.c (.bool true))) (.t 50)),im 52 51,ig 53 (.mv (.t 1)) 52 false,ig 54 (.bin .lss (.t 53) (ki 1)) 52 false,ii 55 (.pick (.t 52) (.k (.c (.bool true))) (.t 54))] false) (.cond (.t 55) (.seq (.region [ii 4 (.mv (.k (.c (.bool false))))] false) .ret) .skip)) (.seq (.seq (.region [ii 5 (.mv (ki 0))] false) (.block 1 (.loop Zkt))) Zpo)) .skip)))))))) Zpk)⟩
theorem Z6i : Zm Tryz.prog 188 = some Zxv.erase := by kernel_rfl
def Zm0 : ACode := .seq (.seq (.region [im 10 6,ifl 11 3 2,il 12 11,ii 13 (.len (.t 12)),ibt 14 .lss 10 13,im 15 14,ig 16 (.mv (.t 1)) 15 true,ig 17 (.bin .gtr (.t 16) (ki 0)) 15 true,ii 18 (.pick (.t 15) (.t 17) (.k (.c (.bool false))))] false) (.cond (.t 18) .skip (.exit 0))) (.seq (.block 1 (.region [im 21 5,ifl 22 3 2,il 23 22,im 24 6,ixx 25 4 23 24,ii 26 (.load true 4 (.t 25)),im 27 1,ii 28 (.bin .sub (.t 27) (ki 1)),icl 29 189 [.t 26,.t 28],ii 30 (.bin .add (ki 1) (.t 29)),ii 31 (.max [.t 21,.t 30]),im 5 31] false)) (.region [im 19 6,ii 20 (.bin .add (.t 19) (ki 1)),im 6 20] false))
def Zmh : ACode := .seq (.region [im 32 5,im 4 32] false) .ret
def Z1c : AFun := ⟨[.tmp 4],.seq (.region [iz 2 (.box (.t 0)),ii 4 (.mv (ki 0))] false) (.seq (.seq (.region [ifl 7 0 2,il 8 7,ii 9 (.bin .neq (.t 8) (ki 3))] false) (.cond (.t 9) (.seq (.region [ii 4 (.mv (ki 0))] false) .ret) .skip)) (.seq (.region [ii 5 (.mv (ki 1))] false) (.seq (.seq (.region [ii 6 (.mv (ki 0))] false) (.block 0 (.loop Zm0))) Zmh)))⟩
theorem Z8u : Zm Tryz.prog 189 = some Z1c.erase := by kernel_rfl
def Zti : AFun := ⟨[.tmp 2],.seq (.region [iz 1 (.box (.t 0)),ii 2 (.mv (.k (.c (.bool false))))] false) (.seq (.region [ii 3 (.load true 4 (.t 1)),icl 4 188 [.t 3,.k (.c (.int .i64 6))],im 5 4,ig 6 (.load true 4 (.t 1)) 5 true,ig 7 (.call (.f 189) [.t 6,.k (.c (.int .i64 7))]) 5 true,ig 8 (.bin .leq (.t 7) (ki 6)) 5 true,ii 9 (.pick (.t 5) (.t 8) (.k (.c (.bool false)))),im 2 9] false) .ret)⟩
theorem Z1p : Zm Tryz.prog 159 = some Zti.erase := by kernel_rfl
def Zok : ACode := .seq (.seq (.region [im 39 5,ifl 40 3 3,il 41 40,ii 42 (.len (.t 41)),ibt 43 .lss 39 42] false) (.cond (.t 43) .skip (.exit 1))) (.seq (.block 2 (.region [im 46 0,ifl 47 3 3,il 48 47,im 49 5,ixx 50 4 48 49,ii 51 (.load true 4 (.t 50)),icl 52 160 [.t 46,.t 51],im 0 52] false)) (.region [im 44 5,ii 45 (.bin .add (.t 44) (ki 1)),im 5 45] false))
def Zst : ACode := .seq (.region [im 53 0,im 4 53] false) .ret
def Z5q : AFun := ⟨[.tmp 4],.seq (.region [iz 3 (.box (.t 1)),ii 4 (.mv (.k (.c .nilS)))] false) (.seq (.region [im 6 0,ifl 7 0 3,il 8 7,ii 9 (.conv .u8 (.t 8)),iz 10 (.lit 1 [.int .u8 0] 1 [(0,.t 9)]),ii 11 (.app 1 1 (.t 6) (.t 10)),im 0 11] false) (.seq (.seq (.region [ifl 12 0 3,il 13 12] false) (.block 0 (.seq (.region [ii 15 (.bin .eql (.t 13) (ki 1)),im 14 15] false) (.cond (.t 14) (.seq (.region [im 16 0,ifl 17 1 3,il 18 17,icl 19 112 [.t 18],ii 20 (.app 1 1 (.t 16) (.t 19)),im 4 20] false) .ret) (.seq (.region [ii 22 (.bin .eql (.t 13) (ki 2)),im 21 22] false) (.cond (.t 21) (.seq (.region [im 23 0,ifl 24 2 3,il 25 24,ii 26 (.lenS (.t 25)),icl 27 190 [.t 26],ii 28 (.app 1 1 (.t 23) (.t 27)),im 0 28] false) (.seq (.region [im 29 0,ifl 30 2 3,il 31 30,ii 32 (.app 1 1 (.t 29) (.t 31)),im 4 32] false) .ret)) .skip)))))) (.seq (.region [im 33 0,ifl 34 3 3,il 35 34,ii 36 (.len (.t 35)),icl 37 190 [.t 36],ii 38 (.app 1 1 (.t 33) (.t 37)),im 0 38] false) (.seq (.seq (.region [ii 5 (.mv (ki 0))] false) (.block 1 (.loop Zok))) Zst))))⟩
theorem Zbb8 : Zm Tryz.prog 160 = some Z5q.erase := by kernel_rfl
def Zn6 : AFun := ⟨[.tmp 2],.seq (.region [iz 1 (.box (.t 0)),ii 2 (.mv (.k (.c (.str ⟨#[]⟩))))] false) (.seq (.seq (.region [ii 3 (.load true 4 (.t 1)),icl 4 159 [.t 3],ii 5 (.un .not (.t 4))] false) (.cond (.t 5) (.seq (.region [ii 2 (.mv (.k (.c (.str ⟨#[]⟩))))] false) .ret) .skip)) (.seq (.region [ii 6 (.load true 4 (.t 1)),icl 7 160 [.k (.c .nilS),.t 6],ii 8 (.b2s (.t 7)),im 2 8] false) .ret))⟩
theorem Zr1 : Zm Tryz.prog 119 = some Zn6.erase := by kernel_rfl
inductive Wr where
 | mk (kind n : Int) (s : ByteArray) (l : List Wr)
mutual
def Wr.cells : Wr → List Cell
 | .mk k n s l => [.int .i64 k,.int .i64 n,.str s,.lst 4 (Wr.rows l)]
def Wr.rows : List Wr → List (List Cell)
 | [] => []
 | w :: l => w.cells :: Wr.rows l
end
theorem Wr.rows_map : ∀ (l : List Wr),Wr.rows l = l.map Wr.cells
 | [] => by simp only [Wr.rows,List.map_nil]
 | w :: l => by simp only [Wr.rows,List.map_cons,Wr.rows_map l]
mutual
theorem Wr.closed : ∀ (w : Wr),Zb w.cells = true
 | .mk k n s l => by simp only [Wr.cells,Zb,Zc,Wr.closedR l,Bool.and_self]
theorem Wr.closedR : ∀ (l : List Wr),closedR (Wr.rows l) = true
 | [] => rfl
 | w :: l => by simp only [Wr.rows,Eng.closedR,Wr.closed w,Wr.closedR l,Bool.and_self]
end
def Zcm (l : List Wr) : Cell := .lst 4 (Wr.rows l)
def numW (n : Int) : Wr := .mk 1 n Zz []
def Zcc (s : ByteArray) : Wr := .mk 2 0 s []
def Zc4 (l : List Wr) : Wr := .mk 3 0 Zz l
theorem Zmp {H : Heap} (k n : Int) (s : ByteArray) : Zkb H (.agg [.int .i64 k,.int .i64 n,.str s,.nilS]) (.agg (Wr.cells (.mk k n s []))) :=
 ⟨.agg [.int .i64 k,.int .i64 n,.str s,.nilS],by simp [Zf,Ze,Zk,Zg,Zh,Zd,Zc,Zb],.agg (.cons (.same _) (.cons (.same _) (.cons (.same _) (.cons (.nilS _) .nil))))⟩
theorem Zbbm {H : Heap} (k n : Int) (s : ByteArray) (l : List Wr) : Zkb H (.agg [.int .i64 k,.int .i64 n,.str s,.lst 4 (Wr.rows l)]) (.agg (Wr.cells (.mk k n s l))) :=
 ⟨.agg [.int .i64 k,.int .i64 n,.str s,.lst 4 (Wr.rows l)],by simp [Zf,Ze,Zk,Zg,Zh,Zd,Zc,Zb,Wr.closedR],.same _⟩
theorem Zhe (n : Int) : Pr 117 [iC n] (.agg (numW n).cells) := by
 refine Zgf mixed Zbdr rfl fun hl T => ?_
 unfold Z3v
 simp only [go_sem,simprocAttr]
 exact Zmp _ _ _
theorem Zmg (s : ByteArray) : Pr 118 [sC s] (.agg (Zcc s).cells) := by
 refine Zgf mixed Z9g rfl fun hl T => ?_
 unfold Z0j
 simp only [go_sem,simprocAttr]
 exact Zmp _ _ _
theorem Zm1 (l : List Wr) : Pr 116 [.c (Zcm l)] (.agg (Zc4 l).cells) := by
 refine Zgf mixed Z8k (by simp [Zq,Zp,Zc,Zcm,Wr.closedR]) fun hl T => ?_
 unfold Z00
 dsimp only [Zcm]
 simp only [go_sem,simprocAttr]
 exact Zbbm _ _ _ _
theorem Wr.len4 : ∀ (w : Wr),w.cells.length = 4
 | .mk k n s l => by simp only [Wr.cells,List.length_cons,List.length_nil]
theorem Wr.take4 (w : Wr) : w.cells.take 4 = w.cells := List.take_of_length_le (by rw [Wr.len4]; exact Nat.le_refl _)
theorem Wr.drop4 (w : Wr) : w.cells.drop 4 = [] := List.drop_eq_nil_of_le (by rw [Wr.len4]; exact Nat.le_refl _)
theorem Wr.rows_len (l : List Wr) : (Wr.rows l).length = l.length := by rw [Wr.rows_map,List.length_map]
theorem Acc.kill {sz b : Nat} {rows : List (List Cell)} {v : AVal} {H : Heap} (h : Acc sz rows v H) (hn : NB v b) : Acc sz rows v (H.kill b) := by
 unfold Heap.kill
 split
 ·exact h.set_nb hn
 ·exact h
mutual
def Wr.size : Wr → Nat
 | .mk _ _ s l => 20 + s.size + Wr.sizes l
def Wr.sizes : List Wr → Nat
 | [] => 0
 | w :: l => w.size + Wr.sizes l
end
mutual
def Z0 : Wr → Int → Bool
 | .mk k n s l,lim =>
  if k = 1 then decide (s = Zz) && decide ((l.length : Int) = 0)
  else if k = 2 then decide (n = 0) && decide ((l.length : Int) = 0) && decide ((s.size : Int) ≤ 1048576)
  else if k = 3 then (if n = 0 ∧ s = Zz ∧ ¬ 65536 < (l.length : Int) ∧ ¬ lim < 1 then Zez l (lim - 1) else false)
  else false
def Zez : List Wr → Int → Bool
 | [],_ => true
 | w :: l,lim => Z0 w lim && Zez l lim
end
theorem Zvg : ∀ (w : Wr) (lim : Int),-1 ≤ lim → lim ≤ 100 → Pr 188 [.agg w.cells,iC lim] (bC (Z0 w lim))
 | .mk k n s l,lim,hl0,hl1 => by
  have ih : ∀ x ∈ l,∀ lim',-1 ≤ lim' → lim' ≤ 100 → Pr 188 [.agg x.cells,iC lim'] (bC (Z0 x lim')) := fun x hx lim' h1 h2 => Zvg x lim' h1 h2
  refine Zl mixed Z6i (by simp [Zq,Zp,Zc,Wr.closed]) fun hl T => ?_
  have hlen : l.length ≤ maxLen := by
   have := hl _ (List.mem_cons_self ..) (.lst 4 (Wr.rows l)) (by simp [Wr.cells])
   simpa [lenC,Wr.rows_len] using this
  unfold Zxv
  simp only [Wr.cells]
  have hrl : (Wr.rows l).length = l.length := Wr.rows_len l
  generalize hv : Z0 (.mk k n s l) lim = v
  have loop : ∀ (rest pre : List Wr) (e : Env) (H : Heap),l = pre ++ rest → ¬ lim < 1 → e 1 = iC lim → e 2 = .c (.fp [.int .i64 k,.int .i64 n,.str s,.lst 4 (Wr.rows l)] 0) → e 5 = iC pre.length → Zez rest (lim - 1) = v →
    Run (Zt Tryz.prog T) ⟨[.tmp 4],fun u E => Zf E u = some (bC v)⟩ [.loop Zkt,.blk 1,.code Zpo,.blk 0,.code Zpk] e H := by
   intro rest
   induction rest with
   | nil =>
    intro pre e H hp hlim h1 h2 h5 hm
    have hc : ¬ ((pre.length : Int) < ((Wr.rows l).length : Int)) := by rw [hrl,hp]; simp
    refine Zi ?_
    conv => enter [3,1]; unfold Zkt
    simp only [go_sem,simprocAttr,h1,h2,h5,hc]
    unfold Zpo
    simp only [go_sem,simprocAttr]
    simp [Zf,Ze,Zk,Zg,Zh,Zd,Zc,Zb,← hm,Zez]
   | cons r rest ihr =>
    intro pre e H hp hlim h1 h2 h5 hm
    have hc : ((pre.length : Int) < ((Wr.rows l).length : Int)) := by rw [hrl,hp]; simp; omega
    have hr : (Wr.rows l)[pre.length]? = some r.cells := by rw [Wr.rows_map,hp]; simp
    have hn := Zcy hp hlen
    have wl : IntKind.wrap .i64 (lim - 1) = lim - 1 := Zn (by omega)
    refine Zi ?_
    conv => enter [3,1]; unfold Zkt
    simp only [go_sem,simprocAttr,h1,h2,h5,hc,hr,Wr.len4,Wr.take4,wl]
    refine Za (ih r (by rw [hp]; simp) (lim - 1) (by omega) (by omega)) ?_
    cases hx : Z0 r (lim - 1) with
    | false =>
     simp only [go_sem,simprocAttr]
     simp [Zf,Ze,Zk,Zg,Zh,Zd,Zc,Zb,← hm,Zez,hx]
    | true =>
     simp only [go_sem,simprocAttr,h5,hn]
     refine ihr (pre ++ [r]) _ _ (by rw [hp]; simp) hlim ?_ ?_ ?_ (by rw [← hm]; simp [Zez,hx])
     all_goals simp only [go_sem,simprocAttr,h1,h2,hn]
  simp only [go_sem,simprocAttr,Wr.closedR]
  by_cases k1 : k = 1
  ·subst k1
   by_cases hs : s = ⟨#[]⟩
   ·simp only [go_sem,simprocAttr,hs,hrl]
    simp [Zf,Ze,Zk,Zg,Zh,Zd,Zc,Zb,← hv,Z0,hs]
   ·simp only [go_sem,simprocAttr,hs,hrl]
    simp [Zf,Ze,Zk,Zg,Zh,Zd,Zc,Zb,← hv,Z0,hs]
  by_cases k2 : k = 2
  ·subst k2
   by_cases h1 : n = 0 <;> by_cases h2 : (l.length : Int) = 0
   all_goals
    simp only [go_sem,simprocAttr,h1,h2,hrl]
    have h2' : ((l.length : Int) = 0) = (l = []) := by simp
    rw [h2'] at h2
    simp [Zf,Ze,Zk,Zg,Zh,Zd,Zc,Zb,← hv,Z0,h1,h2]
  by_cases k3 : k = 3
  ·subst k3
   by_cases h1 : n = 0
   ·by_cases h2 : s = ⟨#[]⟩
    ·by_cases h3 : 65536 < (l.length : Int)
     ·simp only [go_sem,simprocAttr,h1,h2,h3,hrl]
      simp [Zf,Ze,Zk,Zg,Zh,Zd,Zc,Zb,← hv,Z0,h1,h2,h3]
     ·by_cases h4 : lim < 1
      ·simp only [go_sem,simprocAttr,h1,h2,h3,h4,hrl]
       simp [Zf,Ze,Zk,Zg,Zh,Zd,Zc,Zb,← hv,Z0,h1,h2,h3,h4]
      ·simp only [go_sem,simprocAttr,h1,h2,h3,h4,hrl]
       refine loop l [] _ [] rfl h4 ?_ ?_ ?_ ?_
       ·simp only [go_sem,simprocAttr]
       ·simp only [go_sem,simprocAttr,h1,h2]
       ·simp only [go_sem,simprocAttr,List.length_nil,Int.natCast_zero]
       ·rw [← hv]; simp [Z0,h1,h2,h3,h4]
    ·simp only [go_sem,simprocAttr,h1,h2,hrl]
     simp [Zf,Ze,Zk,Zg,Zh,Zd,Zc,Zb,← hv,Z0,h1,h2]
   ·simp only [go_sem,simprocAttr,h1,hrl]
    simp [Zf,Ze,Zk,Zg,Zh,Zd,Zc,Zb,← hv,Z0,h1]
  ·simp only [go_sem,simprocAttr,k1,k2,k3]
   unfold Zpk
   simp only [go_sem,simprocAttr]
   simp [Zf,Ze,Zk,Zg,Zh,Zd,Zc,Zb,← hv,Z0,k1,k2,k3]
termination_by w => SizeOf.sizeOf w
decreasing_by
 simp_wf
 have := List.sizeOf_lt_of_mem hx
 omega
mutual
def Zfk : Wr → Int → Int
 | .mk k _ _ l,lim => if k = 3 then Zf3 l lim 1 else 0
def Zf3 : List Wr → Int → Int → Int
 | [],_,n => n
 | w :: l,lim,n => if 0 < lim then Zf3 l lim (if n < 1 + Zfk w (lim - 1) then 1 + Zfk w (lim - 1) else n) else n
end
mutual
theorem Z31 : ∀ (w : Wr) (lim : Int),0 ≤ lim → 0 ≤ Zfk w lim ∧ Zfk w lim ≤ 1 + lim
 | .mk k n s l,lim,h => by
  simp only [Zfk]
  split
  ·have := Z1i l lim 1 h (by omega) (by omega)
   omega
  ·omega
theorem Z1i : ∀ (l : List Wr) (lim n : Int),0 ≤ lim → 1 ≤ n → n ≤ 1 + lim → 1 ≤ Zf3 l lim n ∧ Zf3 l lim n ≤ 1 + lim
 | [],lim,n,_,h1,h2 => by simp only [Zf3]; omega
 | w :: l,lim,n,h0,h1,h2 => by
  simp only [Zf3]
  split
  ·rename_i hl
   have := Z31 w (lim - 1) (by omega)
   refine Z1i l lim _ h0 ?_ ?_ <;> split <;> omega
  ·omega
end
theorem Zy6 : ∀ (w : Wr) (lim : Int),0 ≤ lim → lim ≤ 100 → Pr 189 [.agg w.cells,iC lim] (iC (Zfk w lim))
 | .mk k n s l,lim,hl0,hl1 => by
  have ih : ∀ x ∈ l,∀ lim',0 ≤ lim' → lim' ≤ 100 → Pr 189 [.agg x.cells,iC lim'] (iC (Zfk x lim')) := fun x hx lim' h1 h2 => Zy6 x lim' h1 h2
  refine Zl mixed Z8u (by simp [Zq,Zp,Zc,Wr.closed]) fun hl T => ?_
  have hlen : l.length ≤ maxLen := by
   have := hl _ (List.mem_cons_self ..) (.lst 4 (Wr.rows l)) (by simp [Wr.cells])
   simpa [lenC,Wr.rows_len] using this
  unfold Z1c
  simp only [Wr.cells]
  have hrl : (Wr.rows l).length = l.length := Wr.rows_len l
  generalize hv : Zfk (.mk k n s l) lim = v
  have loop : ∀ (rest pre : List Wr) (m : Int) (e : Env) (H : Heap),l = pre ++ rest → e 1 = iC lim → e 2 = .c (.fp [.int .i64 k,.int .i64 n,.str s,.lst 4 (Wr.rows l)] 0) → e 5 = iC m → e 6 = iC pre.length → Zf3 rest lim m = v →
    Run (Zt Tryz.prog T) ⟨[.tmp 4],fun u E => Zf E u = some (iC v)⟩ [.loop Zm0,.blk 0,.code Zmh] e H := by
   intro rest
   induction rest with
   | nil =>
    intro pre m e H hp h1 h2 h5 h6 hm
    have hc : ¬ ((pre.length : Int) < ((Wr.rows l).length : Int)) := by rw [hrl,hp]; simp
    refine Zi ?_
    conv => enter [3,1]; unfold Zm0
    simp only [go_sem,simprocAttr,h1,h2,h5,h6,hc]
    unfold Zmh
    simp only [go_sem,simprocAttr,h5]
    simp [Zf,Ze,Zk,Zg,Zh,Zd,Zc,Zb,← hm,Zf3]
   | cons r rest ihr =>
    intro pre m e H hp h1 h2 h5 h6 hm
    have hc : ((pre.length : Int) < ((Wr.rows l).length : Int)) := by rw [hrl,hp]; simp; omega
    have hr : (Wr.rows l)[pre.length]? = some r.cells := by rw [Wr.rows_map,hp]; simp
    have hn := Zcy hp hlen
    refine Zi ?_
    conv => enter [3,1]; unfold Zm0
    by_cases hlim : 0 < lim
    ·have wl : IntKind.wrap .i64 (lim - 1) = lim - 1 := Zn (by omega)
     have hb := Z31 r (lim - 1) (by omega)
     have w1 : IntKind.wrap .i64 (1 + Zfk r (lim - 1)) = 1 + Zfk r (lim - 1) := Zn (by omega)
     simp only [go_sem,simprocAttr,h1,h2,h5,h6,hc,hr,hlim,Wr.len4,Wr.take4,wl]
     refine Za (ih r (by rw [hp]; simp) (lim - 1) (by omega) (by omega)) ?_
     simp only [go_sem,simprocAttr,h5,h6,hn,w1]
     refine ihr (pre ++ [r]) (if m < 1 + Zfk r (lim - 1) then 1 + Zfk r (lim - 1) else m) _ _ (by rw [hp]; simp) ?_ ?_ ?_ ?_ (by rw [← hm]; simp [Zf3,hlim])
     all_goals simp only [go_sem,simprocAttr,h1,h2,hn]
    ·simp only [go_sem,simprocAttr,h1,h2,h5,h6,hc,hlim]
     unfold Zmh
     simp only [go_sem,simprocAttr,h5]
     simp [Zf,Ze,Zk,Zg,Zh,Zd,Zc,Zb,← hm,Zf3,hlim]
  simp only [go_sem,simprocAttr,Wr.closedR]
  by_cases k3 : k = 3
  ·simp only [go_sem,simprocAttr,k3]
   refine loop l [] 1 _ [] rfl ?_ ?_ ?_ ?_ ?_
   ·simp only [go_sem,simprocAttr]
   ·simp only [go_sem,simprocAttr,k3]
   ·simp only [go_sem,simprocAttr]
   ·simp only [go_sem,simprocAttr,List.length_nil,Int.natCast_zero]
   ·rw [← hv]; simp [Zfk,k3]
  ·simp only [go_sem,simprocAttr,k3]
   simp [Zf,Ze,Zk,Zg,Zh,Zd,Zc,Zb,← hv,Zfk,k3]
termination_by w => SizeOf.sizeOf w
decreasing_by
 simp_wf
 have := List.sizeOf_lt_of_mem hx
 omega
def Zqq (w : Wr) : Bool := Z0 w 6 && decide (Zfk w 7 ≤ 6)
theorem Z2c (w : Wr) : Pr 159 [.agg w.cells] (bC (Zqq w)) := by
 refine Zl mixed Z1p (by simp [Zq,Zp,Wr.closed]) fun hl T => ?_
 unfold Zti
 simp only [go_sem,simprocAttr,Wr.closed,Wr.take4,Wr.len4]
 refine Za (Zvg w 6 (by omega) (by omega)) ?_
 cases h : Z0 w 6 with
 | false =>
  simp only [go_sem,simprocAttr]
  simp [Zf,Ze,Zk,Zg,Zh,Zd,Zc,Zb,Zqq,h]
 | true =>
  simp only [go_sem,simprocAttr,Wr.take4,Wr.len4]
  refine Za (Zy6 w 7 (by omega) (by omega)) ?_
  simp only [go_sem,simprocAttr]
  simp [Zf,Ze,Zk,Zg,Zh,Zd,Zc,Zb,Zqq,h]
def addW (a b : Int) : Int := IntKind.wrap .u32 (a + b)
def xorW (a b : Int) : Int := IntKind.wrap .u32 ((BitVec.ofInt IntKind.u32.bits a ^^^ BitVec.ofInt IntKind.u32.bits b).toNat : Int)
def andW (a b : Int) : Int := IntKind.wrap .u32 ((BitVec.ofInt IntKind.u32.bits a &&& BitVec.ofInt IntKind.u32.bits b).toNat : Int)
def orW (a b : Int) : Int := IntKind.wrap .u32 ((BitVec.ofInt IntKind.u32.bits a ||| BitVec.ofInt IntKind.u32.bits b).toNat : Int)
def notW (a : Int) : Int := IntKind.wrap .u32 ((BitVec.ofInt IntKind.u32.bits (if IntKind.u32.signed then -1 else IntKind.u32.max) ^^^ BitVec.ofInt IntKind.u32.bits a).toNat : Int)
def shlW (a b : Int) : Int := IntKind.wrap .u32 (a * 2 ^ (Nat.min b.toNat IntKind.u32.bits))
def shrW (a b : Int) : Int := a.fdiv (2 ^ (Nat.min b.toNat IntKind.u32.bits))
def rotW (x n : Int) : Int := orW (shlW x n) (shrW x (32 - n))
def isW (a : Int) : Prop := 0 ≤ a ∧ a < 4294967296
theorem Zs1 (n : Int) : IntKind.wrap .u32 n = n % 4294967296 := by simp [IntKind.wrap,IntKind.bits,IntKind.signed]
theorem Zbd2 (n : Int) : isW (IntKind.wrap .u32 n) := by rw [Zs1]; unfold isW; omega
theorem Zbjh (a b : Int) : isW (orW a b) := Zbd2 _
theorem Z7g (a b : Int) : isW (rotW a b) := Zbjh _ _
theorem Zfo (a b : Int) : addW a b = addW b a := by unfold addW; rw [Int.add_comm]
theorem Zur (a : Nat) (h : a < 4294967296) : (BitVec.ofInt IntKind.u32.bits (a : Int)).toNat = a := by
 rw [BitVec.ofInt_natCast,BitVec.toNat_ofNat]
 exact Nat.mod_eq_of_lt h
theorem Zbeq {a b : Nat} (ha : a < 4294967296) (hb : b < 4294967296) : xorW a b = ((a ^^^ b : Nat) : Int) := by
 unfold xorW
 rw [Zs1,BitVec.toNat_xor,Zur a ha,Zur b hb]
 have : a ^^^ b < 2 ^ 32 := Nat.xor_lt_two_pow (by omega) (by omega)
 omega
theorem Zul {a b : Nat} (ha : a < 4294967296) (hb : b < 4294967296) : orW a b = ((a ||| b : Nat) : Int) := by
 unfold orW
 rw [Zs1,BitVec.toNat_or,Zur a ha,Zur b hb]
 have : a ||| b < 2 ^ 32 := Nat.or_lt_two_pow (by omega) (by omega)
 omega
theorem Zq9 {a : Nat} (k : Nat) (hk : k ≤ 32) (h : a * 2 ^ k < 4294967296) : shlW a (k : Int) = ((a * 2 ^ k : Nat) : Int) := by
 unfold shlW
 have : Nat.min (k : Int).toNat IntKind.u32.bits = k := by
  show min k 32 = k
  omega
 rw [Zs1,this]
 have e : (a : Int) * 2 ^ k = ((a * 2 ^ k : Nat) : Int) := by simp
 rw [e]
 omega
theorem Z0z {a : Int} (h : isW a) : xorW 0 a = a := by
 obtain ⟨n,rfl⟩ : ∃ n : Nat,a = n := ⟨a.toNat,by unfold isW at h; omega⟩
 have := Zbeq (a := 0) (b := n) (by omega) (by unfold isW at h; omega)
 simpa using this
theorem Zyk (x y k : Nat) (h : y < 2 ^ k) : x * 2 ^ k ||| y = x * 2 ^ k + y := by
 rw [Nat.mul_comm]; exact (Nat.two_pow_add_eq_or_of_lt h x).symm
def be32 (a b c d : Nat) : Int := ((((a * 256 + b) * 256 + c) * 256 + d : Nat) : Int)
theorem shl8 {x : Nat} (h : x < 16777216) : shlW x 8 = ((x * 256 : Nat) : Int) := by
 have := Zq9 (a := x) 8 (by omega) (by omega)
 simpa using this
theorem or8 {x y : Nat} (h : x < 16777216) (hy : y < 256) : orW ((x * 256 : Nat) : Int) (y : Int) = ((x * 256 + y : Nat) : Int) := by
 rw [Zul (by omega) (by omega),Zyk x y 8 (by omega)]
theorem Z8q {a b c d : Nat} (ha : a < 256) (hb : b < 256) (hc : c < 256) (hd : d < 256) :
  orW (shlW (orW (shlW (orW (shlW (orW (shlW 0 8) a) 8) b) 8) c) 8) d = be32 a b c d := by
 have h0 : orW (shlW 0 8) (a : Int) = (a : Int) := by
  have h1 := shl8 (x := 0) (by omega)
  have h2 := or8 (x := 0) (y := a) (by omega) ha
  simp only [Int.natCast_zero,Nat.zero_mul,Nat.zero_add] at h1 h2
  rw [h1]; exact h2
 rw [h0,shl8 (by omega),or8 (by omega) hb,shl8 (by omega),or8 (by omega) hc,shl8 (by omega),or8 (by omega) hd]
 rfl
theorem Z6b {a b c d : Nat} (ha : a < 256) (hb : b < 256) (hc : c < 256) (hd : d < 256) :
  orW (orW (orW (shlW a 24) (shlW b 16)) (shlW c 8)) d = be32 a b c d := by
 have h1 := Zq9 (a := a) 24 (by omega) (by omega)
 have h2 := Zq9 (a := b) 16 (by omega) (by omega)
 have h3 := Zq9 (a := c) 8 (by omega) (by omega)
 have e1 : ((24 : Nat) : Int) = 24 := rfl
 have e2 : ((16 : Nat) : Int) = 16 := rfl
 have e3 : ((8 : Nat) : Int) = 8 := rfl
 rw [e1] at h1; rw [e2] at h2; rw [e3] at h3
 rw [h1,h2,h3,Zul (by omega) (by omega)]
 have g1 : a * 2 ^ 24 ||| b * 2 ^ 16 = (a * 256 + b) * 2 ^ 16 := by
  rw [Zyk a (b * 2 ^ 16) 24 (by omega)]; omega
 rw [g1,Zul (by omega) (by omega)]
 have g2 : (a * 256 + b) * 2 ^ 16 ||| c * 2 ^ 8 = ((a * 256 + b) * 256 + c) * 2 ^ 8 := by
  rw [Zyk (a * 256 + b) (c * 2 ^ 8) 16 (by omega)]; omega
 rw [g2,Zul (by omega) (by omega),Zyk _ d 8 (by omega)]
 unfold be32
 congr 1
structure V8 where
 a : Int
 b : Int
 c : Int
 d : Int
 e : Int
 f : Int
 g : Int
 h : Int
 deriving Inhabited
def V8.list (v : V8) : List Int := [v.a,v.b,v.c,v.d,v.e,v.f,v.g,v.h]
def V8.cells (v : V8) : List Cell := [.int .u32 v.a,.int .u32 v.b,.int .u32 v.c,.int .u32 v.d,.int .u32 v.e,.int .u32 v.f,.int .u32 v.g,.int .u32 v.h]
def bigS (x : Int) : Int := xorW (xorW (rotW x 26) (rotW x 21)) (rotW x 7)
def bigT (x : Int) : Int := xorW (xorW (rotW x 30) (rotW x 19)) (rotW x 10)
def lowS (x : Int) : Int := xorW (xorW (rotW x 25) (rotW x 14)) (shrW x 3)
def lowT (x : Int) : Int := xorW (xorW (rotW x 15) (rotW x 13)) (shrW x 10)
def chW (e f g : Int) : Int := xorW (andW e f) (andW (notW e) g)
def majW (a b c : Int) : Int := xorW (xorW (andW a b) (andW a c)) (andW b c)
def V8.t (v : V8) (k w : Int) : Int := addW (addW (addW (addW v.h (bigS v.e)) (chW v.e v.f v.g)) k) w
def V8.u (v : V8) : Int := addW (bigT v.a) (majW v.a v.b v.c)
def V8.step (v : V8) (k w : Int) : V8 := ⟨addW (v.t k w) v.u,v.a,v.b,v.c,addW v.d (v.t k w),v.e,v.f,v.g⟩
def V8.add (x h : V8) : V8 := ⟨addW x.a h.a,addW x.b h.b,addW x.c h.c,addW x.d h.d,addW x.e h.e,addW x.f h.f,addW x.g h.g,addW x.h h.h⟩
def Zfh : V8 → List (Int × Int) → V8
 | v,[] => v
 | v,(k,w) :: r => Zfh (v.step k w) r
def Ziu (ws : List Int) : Int := addW (addW (addW (ws.getD (ws.length - 16) 0) (ws.getD (ws.length - 7) 0)) (lowS (ws.getD (ws.length - 15) 0))) (lowT (ws.getD (ws.length - 2) 0))
def Zm4 : Nat → List Int → List Int
 | 0,ws => ws
 | n + 1,ws => Zm4 n (ws ++ [Ziu ws])
theorem Zt9 : ∀ (n : Nat) (ws : List Int),(Zm4 n ws).length = ws.length + n
 | 0,ws => rfl
 | n + 1,ws => by rw [Zm4,Zt9]; simp; omega
theorem Znf : ∀ (n : Nat) (ws : List Int),ws <+: Zm4 n ws
 | 0,ws => List.prefix_refl _
 | n + 1,ws => (List.prefix_append ws [Ziu ws]).trans (Znf n _)
def Zlf : V8 := ⟨0x6a09e667,0xbb67ae85,0x3c6ef372,0xa54ff53a,0x510e527f,0x9b05688c,0x1f83d9ab,0x5be0cd19⟩
def Zfu : List Int := [
 0x428a2f98,0x71374491,0xb5c0fbcf,0xe9b5dba5,0x3956c25b,0x59f111f1,0x923f82a4,0xab1c5ed5,
 0xd807aa98,0x12835b01,0x243185be,0x550c7dc3,0x72be5d74,0x80deb1fe,0x9bdc06a7,0xc19bf174,
 0xe49b69c1,0xefbe4786,0x0fc19dc6,0x240ca1cc,0x2de92c6f,0x4a7484aa,0x5cb0a9dc,0x76f988da,
 0x983e5152,0xa831c66d,0xb00327c8,0xbf597fc7,0xc6e00bf3,0xd5a79147,0x06ca6351,0x14292967,
 0x27b70a85,0x2e1b2138,0x4d2c6dfc,0x53380d13,0x650a7354,0x766a0abb,0x81c2c92e,0x92722c85,
 0xa2bfe8a1,0xa81a664b,0xc24b8b70,0xc76c51a3,0xd192e819,0xd6990624,0xf40e3585,0x106aa070,
 0x19a4c116,0x1e376c08,0x2748774c,0x34b0bcb5,0x391c0cb3,0x4ed8aa4a,0x5b9cca4f,0x682e6ff3,
 0x748f82ee,0x78a5636f,0x84c87814,0x8cc70208,0x90befffa,0xa4506ceb,0xbef9a3f7,0xc67178f2]
end Go.Proofs.YticmfblfghdkbaaGreatDoor.Eng
namespace Go.Proofs.YticmfblfghdkbaaGreatDoor.Eng
open Go
section
variable {n f b r i : Nat} {H : Heap} {ik : IntKind} {row : List Cell}
theorem Zcb (h : i < n) : vIxA n 1 (.c (.ptr b r f)) (.c (.int ik (i : Int))) H = some (.c (.ptr b r (f + i)),H) := by
 simp only [vIxA]
 rw [if_pos (by omega)]; simp
theorem Z3m (h : i < n) : vIxA n 1 (.c (.fp row f)) (.c (.int ik (i : Int))) H = some (.c (.fp row (f + i)),H) := by
 simp only [vIxA]
 rw [if_pos (by omega)]; simp
theorem Zbes {cs : List Cell} {c : Cell} (h : i < n) (hc : cs[i]? = some c) : vIxV false n 1 (.agg cs) (.c (.int ik (i : Int))) H = some (.c c,H) := by
 obtain ⟨h1,h2⟩ := List.getElem?_eq_some_iff.1 hc
 simp only [vIxV]
 rw [if_pos (by simp; omega)]
 simp only [Int.toNat_natCast,Nat.mul_one]
 rw [List.drop_eq_getElem_cons h1,h2]; rfl
theorem Zbjn (h : 0 < n) : vIxA n 1 (.c (.ptr b r f)) (.c (.int ik 0)) H = some (.c (.ptr b r f),H) := Zcb (i := 0) h
theorem Zbjb (h : 1 < n) : vIxA n 1 (.c (.ptr b r f)) (.c (.int ik 1)) H = some (.c (.ptr b r (f + 1)),H) := Zcb (i := 1) h
theorem Zbi5 (h : 2 < n) : vIxA n 1 (.c (.ptr b r f)) (.c (.int ik 2)) H = some (.c (.ptr b r (f + 2)),H) := Zcb (i := 2) h
theorem Zbj3 (h : 3 < n) : vIxA n 1 (.c (.ptr b r f)) (.c (.int ik 3)) H = some (.c (.ptr b r (f + 3)),H) := Zcb (i := 3) h
theorem Zbjs (h : 4 < n) : vIxA n 1 (.c (.ptr b r f)) (.c (.int ik 4)) H = some (.c (.ptr b r (f + 4)),H) := Zcb (i := 4) h
theorem Zbj7 (h : 5 < n) : vIxA n 1 (.c (.ptr b r f)) (.c (.int ik 5)) H = some (.c (.ptr b r (f + 5)),H) := Zcb (i := 5) h
theorem Zbjy (h : 6 < n) : vIxA n 1 (.c (.ptr b r f)) (.c (.int ik 6)) H = some (.c (.ptr b r (f + 6)),H) := Zcb (i := 6) h
theorem Zbko (h : 7 < n) : vIxA n 1 (.c (.ptr b r f)) (.c (.int ik 7)) H = some (.c (.ptr b r (f + 7)),H) := Zcb (i := 7) h
end
theorem Zmn {α : Type} {l : List α} {i : Nat} {x : α} (h : i < l.length) : l.take i ++ [x] ++ l.drop (i + 1) = l.set i x := by
 rw [List.set_eq_take_append_cons_drop,if_pos h,List.append_assoc]; rfl
def b8 (n : Int) : UInt8 := UInt8.ofNat (IntKind.wrap .u8 n).toNat
theorem Zeg (n : Int) : IntKind.wrap .u8 n = ((b8 n).toNat : Int) := by
 unfold b8
 have h : IntKind.wrap .u8 n = n % 256 := by simp [IntKind.wrap,IntKind.bits,IntKind.signed]
 rw [h]
 simp only [UInt8.toNat_ofNat']
 omega
theorem Zbkb (x y : UInt8) : IntKind.wrap .u8 ((BitVec.ofInt IntKind.u8.bits (x.toNat : Int) ^^^ BitVec.ofInt IntKind.u8.bits (y.toNat : Int)).toNat : Int) = ((x ^^^ y).toNat : Int) := by
 have hx := x.toNat_lt
 have hy := y.toNat_lt
 rw [BitVec.toNat_xor,BitVec.ofInt_natCast,BitVec.ofInt_natCast,BitVec.toNat_ofNat,BitVec.toNat_ofNat]
 have e1 : x.toNat % 2 ^ IntKind.u8.bits = x.toNat := Nat.mod_eq_of_lt hx
 have e2 : y.toNat % 2 ^ IntKind.u8.bits = y.toNat := Nat.mod_eq_of_lt hy
 rw [e1,e2,UInt8.toNat_xor]
 have : x.toNat ^^^ y.toNat < 2 ^ 8 := Nat.xor_lt_two_pow (by omega) (by omega)
 simp [IntKind.wrap,IntKind.bits,IntKind.signed]
 omega
def Zs (b : UInt8) : List Cell := [.int .u8 (b.toNat : Int)]
theorem Zhi : ∀ l : List UInt8,Zdi (l.map Zs) = some l
 | [] => rfl
 | b :: l => by
  have := Zhi l
  simp [Zdi,Zs,this]
theorem Zja (s : ByteArray) : (Zcu s).map (fun c => [c]) = s.data.toList.map Zs := by
 unfold Zcu Zs
 rw [List.map_map]; rfl
theorem Z1l (l : List UInt8) : closedR (l.map Zs) = true := Zcf (f := Zs) (fun _ => rfl) l
def baL (l : List UInt8) : ByteArray := ⟨l.toArray⟩
theorem Zc7 (l : List UInt8) : (baL l).size = l.length := rfl
theorem Zgg (l : List UInt8) : (baL l).data.toList = l := rfl
theorem Zjg (s : ByteArray) : baL s.data.toList = s := rfl
theorem Zrj (a b : List UInt8) : baL (a ++ b) = baL a ++ baL b := by
 apply ByteArray.ext
 rw [ByteArray.data_append]
 simp [baL]
theorem Acc.b2sL {l : List UInt8} {v : AVal} {H : Heap} (h : Acc 1 (l.map Zs) v H) : vB2s v H = some (sC (baL l),H) := by
 rcases h with ⟨h0,rfl | rfl⟩ | ⟨b,ext,rfl,h3⟩
 ·have : l = [] := by simpa using h0
  subst this; rfl
 ·have : l = [] := by simpa using h0
  subst this; rfl
 ·have hr : Heap.rowsOf H (.slc b 0 (l.map Zs).length 1 false) = some (l.map Zs) := by
   simp only [Heap.rowsOf,h3]
   by_cases h0 : (l.map Zs).length = 0
   ·have : l.map Zs = [] := List.eq_nil_of_length_eq_zero h0
    simp [this]
   ·simp [h0]
  simp only [vB2s,Zbh,beq_self_eq_true,if_true,hr,Zhi]
  rfl
end Go.Proofs.YticmfblfghdkbaaGreatDoor.Eng
