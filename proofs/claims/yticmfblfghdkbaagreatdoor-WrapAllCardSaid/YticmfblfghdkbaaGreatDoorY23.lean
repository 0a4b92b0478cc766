/- Parts of this claim's proof, joined. No statement of the seat is proved here. -/
import Derived.Test.YticmfblfghdkbaaGreatDoorY22
import Derived.Shelf.Strings.BuilderF
import Derived.Shelf.Strconv.Itoa3
set_option linter.unusedVariables false
set_option linter.unusedSimpArgs false
namespace Go.Proofs.YticmfblfghdkbaaGreatDoor.Eng
open Go
def Zi1 : AFun := ⟨[.tmp 6],.seq (.region [ii 6 (.mv (.k (.c (.str ⟨#[]⟩))))] false) (.seq (.region [iz 9 (.lit 1 [.str ⟨#[]⟩] 4 [(0,.k (.c (.str ⟨#[111,119,110]⟩))),(1,.k (.c (.str ⟨#[101,112,111,99,104]⟩))),(2,.k (.c (.str ⟨#[115,101,110,100]⟩))),(3,.k (.c (.str ⟨#[119,114,97,112]⟩)))]),im 10 1,ixx 11 1 9 10,il 12 11,im 7 12] false) (.seq (.region [ii 8 (.mv (ki 32))] false) (.seq (.seq (.region [im 13 1] false) (.block 0 (.seq (.block 3 (.seq (.block 2 (.seq (.block 1 (.seq (.seq (.seq (.region [ii 15 (.bin .eql (.t 13) (ki 2)),im 14 15] false) (.cond (.t 14) (.exit 1) .skip)) (.seq (.seq (.seq (.region [ii 17 (.bin .eql (.t 13) (ki 0)),im 16 17] false) (.cond (.t 16) .skip (.region [ii 18 (.bin .eql (.t 13) (ki 1)),im 16 18] false))) (.cond (.t 16) (.exit 2) .skip)) (.seq (.region [ii 20 (.bin .eql (.t 13) (ki 3)),im 19 20] false) (.cond (.t 19) (.exit 3) .skip)))) (.exit 0))) (.region [ii 8 (.mv (ki 64))] false))) (.seq (.region [im 21 7,im 22 2,icl 23 151 [.t 22],ii 24 (.bin .add (.k (.c (.str ⟨#[32]⟩))) (.t 23)),ibt 25 .add 21 24,im 7 25] false) (.exit 0)))) (.seq (.region [ii 8 (.mv (ki 64))] false) (.exit 0))))) (.seq (.region [im 26 0,im 27 7,im 28 8,icl 29 152 [.k (.c (.str ⟨#[100,101,97,100,100,114,111,112]⟩)),.t 26,.t 27,.t 28],im 6 29] false) .ret))))⟩
theorem Zk3 : Zm Tryz.prog 103 = some Zi1.erase := by kernel_rfl
def Zzz : AFun := ⟨[.tmp 4],.seq (.region [ii 4 (.mv (.k (.c (.str ⟨#[]⟩))))] false) (.seq (.region [im 5 0,im 6 1,icl 7 103 [.t 5,.k (.c (.int .i64 0)),.t 6],im 4 7] false) .ret)⟩
theorem Z8z : Zm Tryz.prog 57 = some Zzz.erase := by kernel_rfl
def Zvt : AFun := ⟨[.tmp 4],.seq (.region [ii 4 (.mv (.k (.c (.str ⟨#[]⟩))))] false) (.seq (.region [im 5 0,im 6 1,icl 7 103 [.t 5,.k (.c (.int .i64 1)),.t 6],im 4 7] false) .ret)⟩
theorem Z5n : Zm Tryz.prog 60 = some Zvt.erase := by kernel_rfl
def Zyu : AFun := ⟨[.tmp 2],.seq (.region [ii 2 (.mv (.k (.c (.str ⟨#[]⟩))))] false) (.seq (.region [im 3 0,icl 4 103 [.t 3,.k (.c (.int .i64 3)),.k (.c (.int .i64 0))],im 2 4] false) .ret)⟩
theorem Z7c : Zm Tryz.prog 56 = some Zyu.erase := by kernel_rfl
def Zj4 : ACode := .seq (.region [ii 7 (.bin .lss (.t 6) (ki 8))] false) (.seq (.cond (.t 7) .skip (.exit 0)) (.seq (.block 1 (.seq (.region [im 8 6,im 4 8] false) (.region [im 9 3,im 10 4,ii 11 (.bin .sub (ki 11) (.t 10)),im 12 0,im 13 4,ii 14 (.bin .mul (ki 8) (.t 13)),ibt 15 .shr 12 14,ii 16 (.conv .u8 (.t 15)),ixx 17 1 9 11,ie (.store 1 (.t 17) (.t 16))] false))) (.region [ii 18 (.bin .add (.t 6) (ki 1)),im 6 18] false)))
def Znb : ACode := .seq (.region [im 19 3,ii 20 (.b2s (.t 19)),im 2 20] false) .ret
def Zwq : AFun := ⟨[.tmp 2],.seq (.region [ii 2 (.mv (.k (.c (.str ⟨#[]⟩))))] false) (.seq (.region [ii 5 (.make 1 1 [.int .u8 0] (ki 12) (ki 12)),im 3 5] false) (.seq (.seq (.region [ii 6 (.mv (ki 0))] false) (.block 0 (.loop Zj4))) Znb))⟩
theorem Z45 : Zm Tryz.prog 59 = some Zwq.erase := by kernel_rfl
def Zmf : ACode := .seq (.seq (.region [im 5 4,ii 6 (.bin .geq (.t 5) (ki 0))] false) (.cond (.t 6) .skip (.exit 0))) (.seq (.block 1 (.region [im 9 3,im 10 0,im 11 4,ii 12 (.bin .mul (ki 8) (.t 11)),ibt 13 .shr 10 12,ii 14 (.conv .u8 (.t 13)),iz 15 (.lit 1 [.int .u8 0] 1 [(0,.t 14)]),ii 16 (.app 1 1 (.t 9) (.t 15)),im 3 16] false)) (.region [im 7 4,ii 8 (.bin .sub (.t 7) (ki 1)),im 4 8] false))
def Zry : ACode := .seq (.region [im 17 3,ii 18 (.b2s (.t 17)),im 2 18] false) .ret
def Z0j : AFun := ⟨[.tmp 2],.seq (.region [ii 2 (.mv (.k (.c (.str ⟨#[]⟩))))] false) (.seq (.region [ii 3 (.mv (.k (.c .nilS)))] false) (.seq (.seq (.region [ii 4 (.mv (ki 7))] false) (.block 0 (.loop Zmf))) Zry))⟩
theorem Z86 : Zm Tryz.prog 154 = some Z0j.erase := by kernel_rfl
def Zrv : AFun := ⟨[.tmp 6],.seq (.region [ii 6 (.mv (.k (.c .nilI)))] false) (.seq (.seq (.region [im 7 0,ii 8 (.lenS (.t 7)),ii 9 (.bin .neq (.t 8) (ki 64)),im 10 9,ig 11 (.mv (.t 1)) 10 false,ig 12 (.lenS (.t 11)) 10 false,ig 13 (.bin .neq (.t 12) (ki 12)) 10 false,ii 14 (.pick (.t 10) (.k (.c (.bool true))) (.t 13)),im 15 14,ig 16 (.mv (.t 2)) 15 false,ig 17 (.bin .gtr (.t 16) (ki 1048576)) 15 false,ii 18 (.pick (.t 15) (.k (.c (.bool true))) (.t 17))] false) (.cond (.t 18) (.seq (.region [ii 19 (.mkI 148 (.k (.c (.str ⟨#[115,105,122,101]⟩)))),ii 20 (.build [.str ⟨#[]⟩,.nilI] [(0,1,.k (.c (.str ⟨#[115,105,122,101,115]⟩))),(1,1,.t 19)]),ii 21 (.mkI 206 (.t 20)),im 6 21] false) .ret) .skip)) (.seq (.region [ii 6 (.mv (.k (.c .nilI)))] false) .ret))⟩
theorem Zv8 : Zm Tryz.prog 104 = some Zrv.erase := by kernel_rfl
def Z39 : AFun := ⟨[.tmp 8],.seq (.region [ii 8 (.mv (.k (.c (.str ⟨#[]⟩))))] false) (.seq (.region [im 9 0,ii 10 (.slS (.t 9) (some (ki 32)) none),im 11 2,ii 12 (.lenS (.t 11)),icl 13 154 [.t 12],im 14 2,im 15 1,im 16 3,iz 17 (.lit 1 [.str ⟨#[]⟩] 4 [(0,.t 13),(1,.t 14),(2,.t 15),(3,.t 16)]),icl 18 68 [.t 10,.t 17],ii 19 (.slS (.t 18) none (some (ki 16))),im 8 19] true) .ret)⟩
theorem Zbb8 : Zm Tryz.prog 106 = some Z39.erase := by kernel_rfl
def Z1k : AFun := ⟨[.tmp 6],.seq (.region [ii 6 (.mv (.k (.c (.str ⟨#[]⟩))))] false) (.seq (.region [im 7 0,ii 8 (.slS (.t 7) none (some (ki 32))),im 9 1,im 10 2,iz 11 (.s2b (.t 10)),icl 12 153 [.t 8,.t 9,.k (.c (.int .i64 1)),.t 11],ii 13 (.b2s (.t 12)),im 6 13] false) .ret)⟩
theorem Z97 : Zm Tryz.prog 105 = some Z1k.erase := by kernel_rfl
def Zz5 : AFun := ⟨[.tmp 8],.seq (.region [ii 8 (.mv (.k (.c (.str ⟨#[]⟩))))] false) (.seq (.seq (.region [im 11 0,im 12 1,im 13 3,ii 14 (.lenS (.t 13)),icl 15 104 [.t 11,.t 12,.t 14],im 9 15] false) (.seq (.region [im 16 9,ii 17 (.mkI 148 (.k (.c (.str ⟨#[115,105,122,101]⟩)))),icl 18 94 [.t 16,.t 17]] false) (.cond (.t 18) (.seq (.region [ii 8 (.mv (.k (.c (.str ⟨#[]⟩))))] false) .ret) .skip))) (.seq (.region [im 19 0,im 20 1,im 21 3,icl 22 105 [.t 19,.t 20,.t 21],im 10 22] false) (.seq (.region [im 23 10,im 24 0,im 25 1,im 26 2,im 27 10,icl 28 106 [.t 24,.t 25,.t 26,.t 27],ibt 29 .add 23 28,im 8 29] false) .ret)))⟩
theorem Z80 : Zm Tryz.prog 58 = some Zz5.erase := by kernel_rfl
def Zn2 : AFun := ⟨[.tmp 8,.tmp 9],.seq (.region [ii 8 (.mv (.k (.c (.str ⟨#[]⟩)))),ii 9 (.mv (.k (.c .nilI)))] false) (.seq (.region [im 13 3,ii 14 (.lenS (.t 13)),ii 15 (.bin .sub (.t 14) (ki 16)),im 10 15] false) (.seq (.seq (.region [im 16 0,im 17 1,im 18 10,icl 19 104 [.t 16,.t 17,.t 18],im 11 19] false) (.seq (.region [im 20 11,ii 21 (.eqNil false true (.t 20) (.k (.c .nilI))),im 22 21,ig 23 (.mv (.t 10)) 22 false,ig 24 (.bin .lss (.t 23) (ki 0)) 22 false,ii 25 (.pick (.t 22) (.k (.c (.bool true))) (.t 24))] false) (.cond (.t 25) (.seq (.region [ii 26 (.mkI 148 (.k (.c (.str ⟨#[115,105,122,101]⟩)))),ii 27 (.build [.str ⟨#[]⟩,.nilI] [(0,1,.k (.c (.str ⟨#[111,112,101,110]⟩))),(1,1,.t 26)]),ii 28 (.mkI 206 (.t 27)),ii 8 (.mv (.k (.c (.str ⟨#[]⟩)))),im 9 28] false) .ret) .skip))) (.seq (.region [im 29 3,im 30 10,ii 31 (.slS (.t 29) none (some (.t 30))),im 12 31] false) (.seq (.seq (.region [im 32 3,im 33 10,ii 34 (.slS (.t 32) (some (.t 33)) none),im 35 0,im 36 1,im 37 2,im 38 12,icl 39 106 [.t 35,.t 36,.t 37,.t 38],icl 40 128 [.t 34,.t 39],ii 41 (.un .not (.t 40))] true) (.cond (.t 41) (.seq (.region [ii 42 (.mkI 148 (.k (.c (.str ⟨#[116,97,103]⟩)))),ii 43 (.build [.str ⟨#[]⟩,.nilI] [(0,1,.k (.c (.str ⟨#[111,112,101,110]⟩))),(1,1,.t 42)]),ii 44 (.mkI 206 (.t 43)),ii 8 (.mv (.k (.c (.str ⟨#[]⟩)))),im 9 44] false) .ret) .skip)) (.seq (.region [im 45 0,im 46 1,im 47 12,icl 48 105 [.t 45,.t 46,.t 47],im 8 48,ii 9 (.mv (.k (.c .nilI)))] false) .ret)))))⟩
theorem Zrf : Zm Tryz.prog 107 = some Zn2.erase := by kernel_rfl
def Zop : AFun := ⟨[.tmp 8,.tmp 9],.seq (.region [ii 8 (.mv (.k (.c (.str ⟨#[]⟩)))),ii 9 (.mv (.k (.c (.bool false))))] false) (.seq (.region [im 13 0,im 14 1,im 15 2,im 16 3,icl 17 107 [.t 13,.t 14,.t 15,.t 16],im 12 17,ii 18 (.ext (.t 12) 0),ii 19 (.ext (.t 12) 1),im 10 18,im 11 19] false) (.seq (.region [im 20 10,im 21 11,ii 22 (.mkI 148 (.k (.c (.str ⟨#[115,105,122,101]⟩)))),icl 23 94 [.t 21,.t 22],ii 24 (.un .not (.t 23)),im 25 24,ig 26 (.mv (.t 11)) 25 true,ig 27 (.mkI 148 (.k (.c (.str ⟨#[116,97,103]⟩)))) 25 true,ig 28 (.call (.f 94) [.t 26,.t 27]) 25 true,ig 29 (.un .not (.t 28)) 25 true,ii 30 (.pick (.t 25) (.t 29) (.k (.c (.bool false)))),im 8 20,im 9 30] false) .ret))⟩
theorem Zra : Zm Tryz.prog 64 = some Zop.erase := by kernel_rfl
def Z7z : AFun := ⟨[.tmp 8],.seq (.region [ii 8 (.mv (.k (.c (.str ⟨#[]⟩))))] false) (.seq (.region [im 9 0,ii 10 (.slS (.t 9) (some (ki 32)) none),im 11 2,ii 12 (.lenS (.t 11)),icl 13 112 [.t 12],im 14 2,ibt 15 .add 13 14,im 16 1,ibt 17 .add 15 16,im 18 3,ibt 19 .add 17 18,icl 20 82 [.t 10,.t 19],ii 21 (.slS (.t 20) none (some (ki 16))),im 8 21] true) .ret)⟩
theorem Zbgf : Zm Tryz.prog 121 = some Z7z.erase := by kernel_rfl
def Z3k : AFun := ⟨[.tmp 8],.seq (.region [ii 8 (.mv (.k (.c (.str ⟨#[]⟩))))] false) (.seq (.seq (.region [im 10 0,ii 11 (.lenS (.t 10)),ii 12 (.bin .neq (.t 11) (ki 64)),im 13 12,ig 14 (.mv (.t 1)) 13 false,ig 15 (.lenS (.t 14)) 13 false,ig 16 (.bin .neq (.t 15) (ki 12)) 13 false,ii 17 (.pick (.t 13) (.k (.c (.bool true))) (.t 16)),im 18 17,ig 19 (.mv (.t 3)) 18 false,ig 20 (.lenS (.t 19)) 18 false,ig 21 (.bin .gtr (.t 20) (ki 1048576)) 18 false,ii 22 (.pick (.t 18) (.k (.c (.bool true))) (.t 21))] false) (.cond (.t 22) (.seq (.region [ii 8 (.mv (.k (.c (.str ⟨#[]⟩))))] false) .ret) .skip)) (.seq (.region [im 23 0,ii 24 (.slS (.t 23) none (some (ki 32))),im 25 1,im 26 3,icl 27 120 [.t 24,.t 25,.k (.c (.int .i64 1)),.t 26],im 9 27] false) (.seq (.region [im 28 9,im 29 0,im 30 1,im 31 2,im 32 9,icl 33 121 [.t 29,.t 30,.t 31,.t 32],ibt 34 .add 28 33,im 8 34] false) .ret)))⟩
theorem Zbbj : Zm Tryz.prog 72 = some Z3k.erase := by kernel_rfl
def Z3o : AFun := ⟨[.cell 8 true 2],.seq (.region [ii 8 (.new [.str ⟨#[]⟩,.bool false])] false) (.seq (.region [im 10 3,ii 11 (.lenS (.t 10)),ii 12 (.bin .sub (.t 11) (ki 16)),im 9 12] false) (.seq (.seq (.region [im 13 0,ii 14 (.lenS (.t 13)),ii 15 (.bin .neq (.t 14) (ki 64)),im 16 15,ig 17 (.mv (.t 1)) 16 false,ig 18 (.lenS (.t 17)) 16 false,ig 19 (.bin .neq (.t 18) (ki 12)) 16 false,ii 20 (.pick (.t 16) (.k (.c (.bool true))) (.t 19)),im 21 20,ig 22 (.mv (.t 9)) 21 false,ig 23 (.bin .lss (.t 22) (ki 0)) 21 false,ii 24 (.pick (.t 21) (.k (.c (.bool true))) (.t 23)),im 25 24,ig 26 (.mv (.t 9)) 25 false,ig 27 (.bin .gtr (.t 26) (ki 1048576)) 25 false,ii 28 (.pick (.t 25) (.k (.c (.bool true))) (.t 27)),im 29 28,ig 30 (.mv (.t 0)) 29 false,ig 31 (.mv (.t 1)) 29 false,ig 32 (.mv (.t 2)) 29 false,ig 33 (.mv (.t 3)) 29 false,ig 34 (.mv (.t 9)) 29 false,ig 35 (.slS (.t 33) none (some (.t 34))) 29 false,ig 36 (.call (.f 121) [.t 30,.t 31,.t 32,.t 35]) 29 false,ig 37 (.mv (.t 3)) 29 false,ig 38 (.mv (.t 9)) 29 false,ig 39 (.slS (.t 37) (some (.t 38)) none) 29 false,ig 40 (.bin .neq (.t 36) (.t 39)) 29 false,ii 41 (.pick (.t 29) (.k (.c (.bool true))) (.t 40))] true) (.cond (.t 41) (.seq (.region [ii 42 (.build [.str ⟨#[]⟩,.bool false] []),ie (.store 2 (.t 8) (.t 42))] false) .ret) .skip)) (.seq (.region [im 43 0,ii 44 (.slS (.t 43) none (some (ki 32))),im 45 1,im 46 3,im 47 9,ii 48 (.slS (.t 46) none (some (.t 47))),icl 49 120 [.t 44,.t 45,.k (.c (.int .i64 1)),.t 48],ii 50 (.build [.str ⟨#[]⟩,.bool false] [(0,1,.t 49),(1,1,.k (.c (.bool true)))]),ie (.store 2 (.t 8) (.t 50))] true) .ret)))⟩
theorem Zbbs : Zm Tryz.prog 76 = some Z3o.erase := by kernel_rfl
def Z3z : AFun := ⟨[.tmp 4],.seq (.region [ii 4 (.mv (.k (.c (.str ⟨#[]⟩))))] false) (.seq (.region [im 5 0,im 6 1,icl 7 66 [.t 6],ii 8 (.bin .add (.k (.c (.str ⟨#[111,119,110,32]⟩))) (.t 7)),icl 9 65 [.k (.c (.str ⟨#[100,101,97,100,100,114,111,112]⟩)),.t 5,.t 8,.k (.c (.int .i64 32))],im 4 9] false) .ret)⟩
theorem Zbbc : Zm Tryz.prog 24 = some Z3z.erase := by kernel_rfl
def Zxt : AFun := ⟨[.tmp 4],.seq (.region [ii 4 (.mv (.k (.c (.str ⟨#[]⟩))))] false) (.seq (.region [im 5 0,im 6 1,icl 7 66 [.t 6],ii 8 (.bin .add (.k (.c (.str ⟨#[101,112,111,99,104,32]⟩))) (.t 7)),icl 9 65 [.k (.c (.str ⟨#[100,101,97,100,100,114,111,112]⟩)),.t 5,.t 8,.k (.c (.int .i64 32))],im 4 9] false) .ret)⟩
theorem Z6t : Zm Tryz.prog 25 = some Zxt.erase := by kernel_rfl
def Z07 : AFun := ⟨[.tmp 2],.seq (.region [ii 2 (.mv (.k (.c (.str ⟨#[]⟩))))] false) (.seq (.region [im 3 0,icl 4 65 [.k (.c (.str ⟨#[100,101,97,100,100,114,111,112]⟩)),.t 3,.k (.c (.str ⟨#[119,114,97,112]⟩)),.k (.c (.int .i64 64))],im 2 4] false) .ret)⟩
theorem Z9w : Zm Tryz.prog 73 = some Z07.erase := by kernel_rfl
def Zyo : AFun := ⟨[.tmp 2],.seq (.region [ii 2 (.mv (.k (.c (.str ⟨#[]⟩))))] false) (.seq (.region [im 3 0,icl 4 112 [.t 3],ii 5 (.bin .add (.k (.c (.str ⟨#[0,0,0,0]⟩))) (.t 4)),im 2 5] false) .ret)⟩
theorem Z6f : Zm Tryz.prog 74 = some Zyo.erase := by kernel_rfl
def Zqc : UInt8 → List (UInt8 × UInt8) → UInt8
 | x,[] => x
 | x,p :: l => Zqc (x ||| (p.1 ^^^ p.2)) l
theorem Zbg2 {x y : UInt8} : x ||| y = 0 ↔ x = 0 ∧ y = 0 := by
 constructor
 ·intro h
  have h1 : (x ||| y).toNat = 0 := by rw [h]; rfl
  rw [UInt8.toNat_or] at h1
  have := Nat.or_eq_zero_iff.1 h1
  exact ⟨UInt8.toNat_inj.1 this.1,UInt8.toNat_inj.1 this.2⟩
 ·rintro ⟨rfl,rfl⟩; rfl
theorem Z08 : ∀ (l : List (UInt8 × UInt8)) (x : UInt8),Zqc x l = 0 ↔ x = 0 ∧ ∀ p ∈ l,p.1 = p.2
 | [],x => by simp [Zqc]
 | p :: l,x => by
  rw [Zqc,Z08 l,Zbg2,UInt8.xor_eq_zero_iff]
  simp [and_assoc]
theorem Zbet : ∀ {a b : List UInt8},a.length = b.length → ((∀ p ∈ a.zip b,p.1 = p.2) ↔ a = b)
 | [],[],_ => by simp
 | x :: a,y :: b,h => by
  have := Zbet (a := a) (b := b) (by simpa using h)
  simp only [List.zip_cons_cons,List.mem_cons,forall_eq_or_imp,this,List.cons.injEq]
 | [],_ :: _,h => by simp at h
 | _ :: _,[],h => by simp at h
theorem Zbhe {x y : UInt8} {H : Heap} : vBin .or (.c (.int .u8 (x.toNat : Int))) (.c (.int .u8 (y.toNat : Int))) H = some (yC (x ||| y),H) := by
 have hx := x.toNat_lt
 have hy := y.toNat_lt
 have : IntKind.wrap .u8 ((BitVec.ofInt IntKind.u8.bits (x.toNat : Int) ||| BitVec.ofInt IntKind.u8.bits (y.toNat : Int)).toNat : Int) = ((x ||| y).toNat : Int) := by
  rw [BitVec.toNat_or,BitVec.ofInt_natCast,BitVec.ofInt_natCast,BitVec.toNat_ofNat,BitVec.toNat_ofNat]
  have e1 : x.toNat % 2 ^ IntKind.u8.bits = x.toNat := Nat.mod_eq_of_lt hx
  have e2 : y.toNat % 2 ^ IntKind.u8.bits = y.toNat := Nat.mod_eq_of_lt hy
  rw [e1,e2,UInt8.toNat_or]
  have : x.toNat ||| y.toNat < 2 ^ 8 := Nat.or_lt_two_pow (by omega) (by omega)
  simp [IntKind.wrap,IntKind.bits,IntKind.signed]
  omega
 simp only [vBin,Zcq,Zcg,if_true,this]
theorem Zbah {s : ByteArray} {i : Nat} {x : UInt8} {ik : IntKind} {H : Heap} (h : s.data.toList[i]? = some x) : vIxS (sC s) (.c (.int ik (i : Int))) H = some (.c (.int .u8 (x.toNat : Int)),H) := by
 obtain ⟨h1,h2⟩ := List.getElem?_eq_some_iff.1 h
 have h3 : i < s.size := h1
 have h4 : s[i]'h3 = x := h2
 simp [vIxS,h3,h4]
set_option maxHeartbeats 1000000 in
theorem Zua (a b : ByteArray) (ha : a.size ≤ 1000000) : Pr 128 [sC a,sC b] (bC (decide (a = b))) := by
 refine Zl mixed Z5a rfl fun hl T => ?_
 unfold Zws
 by_cases hs : a.size = b.size
 ·obtain ⟨v,hv⟩ : ∃ v,v = decide (a = b) := ⟨_,rfl⟩
  rw [← hv]
  have hsl : a.data.toList.length = b.data.toList.length := hs
  have hab : (a.data.toList = b.data.toList) ↔ a = b := by
   constructor
   ·intro h
    have := congrArg baL h
    rwa [Zkf,Zkf] at this
   ·rintro rfl; rfl
  have hvv : v = decide (Zqc 0 (a.data.toList.zip b.data.toList) = 0) := by
   rw [hv,Bool.eq_iff_iff,decide_eq_true_eq,decide_eq_true_eq,Z08,← hab,← Zbet hsl]
   simp
  have hne : ((a.size : Int) = (b.size : Int)) := by omega
  have loop : ∀ (k i : Nat) (x : UInt8) (e : Env),i + k = a.size → e 0 = sC a → e 1 = sC b → e 5 = yC x → e 13 = iC b.size → e 14 = iC i → v = decide (Zqc x ((a.data.toList.zip b.data.toList).drop i) = 0) →
    Run (Zu Tryz.prog T) ⟨[.tmp 4],fun u E => Zf E u = some (bC v)⟩ [.loop Zj7,.blk 0,.code Znn] e [] := by
   intro k
   induction k with
   | zero =>
    intro i x e hk h0 h1 h5 h13 h14 hx
    have hc : ¬ ((i : Int) < (b.size : Int)) := by omega
    refine Zj ?_
    conv => enter [3,1]; unfold Zj7
    simp only [go_sem,simprocAttr,h0,h1,h5,h13,h14,hc]
    unfold Znn
    have hz : ((x.toNat : Int) = 0) ↔ x = 0 := by
     constructor
     ·intro h; exact UInt8.toNat_inj.1 (by simpa using h)
     ·rintro rfl; rfl
    have hd : (a.data.toList.zip b.data.toList).drop i = [] := List.drop_eq_nil_of_le (by rw [List.length_zip]; have : a.data.toList.length = a.size := rfl; omega)
    rw [hd] at hx
    simp only [go_sem,simprocAttr,h5]
    simp only [Zqc] at hx
    rw [hx]
    by_cases hx0 : x = 0
    ·subst hx0; simp [Zf,Ze,Zi,Zg,Zh,Zd,Zc,Zb]
    ·have t2 : ¬ x.toNat = 0 := fun h => hx0 (hz.1 (by omega))
     simp [Zf,Ze,Zi,Zg,Zh,Zd,Zc,Zb,t2,hx0]
   | succ k ih =>
    intro i x e hk h0 h1 h5 h13 h14 hx
    have hia : i < a.data.toList.length := by have : a.data.toList.length = a.size := rfl; omega
    have hib : i < b.data.toList.length := by omega
    have hc : ((i : Int) < (b.size : Int)) := by omega
    have ga := fun H => Zbah (s := a) (ik := .i64) (H := H) (List.getElem?_eq_getElem hia)
    have gb := fun H => Zbah (s := b) (ik := .i64) (H := H) (List.getElem?_eq_getElem hib)
    have hzl : i < (a.data.toList.zip b.data.toList).length := by rw [List.length_zip]; omega
    have hd := List.drop_eq_getElem_cons hzl
    rw [List.getElem_zip] at hd
    have hn : IntKind.wrap .i64 ((i : Int) + 1) = ((i + 1 : Nat) : Int) := by rw [Zr (by omega)]; omega
    refine Zj ?_
    conv => enter [3,1]; unfold Zj7
    simp only [go_sem,simprocAttr,h0,h1,h5,h13,h14,hc,ga,gb,Zm1,Zbhe,hn]
    refine ih (i + 1) (x ||| (a.data.toList[i] ^^^ b.data.toList[i])) _ (by omega) ?_ ?_ ?_ ?_ ?_ ?_
    ·simp only [go_sem,simprocAttr,h0]
    ·simp only [go_sem,simprocAttr,h1]
    ·simp only [go_sem,simprocAttr]
    ·simp only [go_sem,simprocAttr,h13]
    ·simp only [go_sem,simprocAttr,hn]
    ·rw [hx,hd,Zqc]
  simp only [go_sem,simprocAttr,hne]
  refine loop a.size 0 0 _ (by omega) ?_ ?_ ?_ ?_ ?_ (by rw [List.drop_zero]; exact hvv)
  all_goals first | (simp only [go_sem,simprocAttr,Int.natCast_zero]; done) | (simp only [go_sem,simprocAttr]; rfl) | (simp only [go_sem,simprocAttr,hne])
 ·have hne : ¬ ((a.size : Int) = (b.size : Int)) := by omega
  have hab : ¬ (a = b) := fun h => hs (by rw [h])
  simp only [go_sem,simprocAttr,hne]
  simp [Zf,Ze,Zi,Zg,Zh,Zd,Zc,Zb,hab]
end Go.Proofs.YticmfblfghdkbaaGreatDoor.Eng
namespace Go.Proofs.YticmfblfghdkbaaGreatDoor.Eng
open Go Go.RowKit Go.Extern.Stop Go.Stop Go.Extern
theorem Zmg (v : Value) (w : World) :
  Calls Tryz.prog 94 #[.nilIface,.iface 257 v] w fun e w' => e = .returned (.bool false) ∧ w' = w := by
 have hn := run_eql_iface_nil_left (P := Tryz.prog) w 257 v Tryz.underlying98
 go_enter Tryz.func94,Tryz.ntmps94
 go_wp2
 go_ret
 exact ⟨rfl,rfl⟩
end Go.Proofs.YticmfblfghdkbaaGreatDoor.Eng
namespace Go.Proofs.YticmfblfghdkbaaGreatDoor.Eng
open Go Go.Shelf Go.RowKit
theorem Zbn3 : Lays.n166 Tryz.prog Zeq := { Zow with }
theorem Zbnu : Lays.n169 Tryz.prog Zeq := { Zow with }
theorem Zbis : Zeq.f 166 = 168 := by kernel_rfl
theorem Zbdf : Zeq.f 169 = 170 := by kernel_rfl
theorem Pure.below {f : Nat} {args : List AVal} {v : AVal} (h : Pr f args v) {w : World} (hl : LibW w) {vs : Array Value} (ha : All2 (VRA (flat fun g => g < w.heap.size) (Zk w)) args vs.toList) :
  Calls Tryz.prog f vs w fun e w' => ∃ u m',e = .returned u ∧ Below w.heap.size w w' ∧ VRA m' (Zk w') v u := by
 have r0 : Rel w.heap.size (flat fun g => g < w.heap.size) [] w := Rel.flat (fun _ h => h) fun g c h => ⟨hl.lt h,hl g c h⟩
 refine ((h []).calls w.heap.size _ w vs r0 ha).mono ?_
 rintro e w' ⟨u,m',rfl,hst,hr⟩
 exact ⟨u,m',rfl,hst.below r0,hr⟩
theorem LibW.below {w w' : World} (h : LibW w) (hb : Below w.heap.size w w') : LibW w' := fun g c k => by
 rw [← h g c k]
 exact World.cell?_of_block (hb.block g (h.lt k))
theorem Z5c (n : Int) (h0 : 0 ≤ n) (h1 : n ≤ 8160) : Pr 183 [iC n] (.c .nilI) := by
 refine Zl mixed Z4o rfl fun hl T => ?_
 unfold Zvv
 have c0 : ¬ (n < 0) := by omega
 have c1 : ¬ (8160 < n) := by omega
 simp only [go_sem,simprocAttr,c0,c1]
 simp [Zf,Ze,Zi,Zg,Zh,Zd,Zc,Zb]
theorem Zyp (n : Int) (h0 : 0 ≤ n) (h1 : n ≤ 8160) {w : World} (hl : LibW w) : Calls Tryz.prog 183 #[.int .i64 n] w fun e w' => e = .returned .nilIface ∧ Below w.heap.size w w' := by
 refine ((Z5c n h0 h1).below hl (.cons (.c (.int _ _)) .nil)).mono ?_
 rintro e w' ⟨u,m',rfl,hb,hr⟩
 cases hr with
 | c hr => cases hr; exact ⟨rfl,hb⟩
theorem Zmx (key : ByteArray) (l : List ByteArray) (hk : key.size ≤ 1000000) (hl : l.length ≤ 100000) (hs : (catS l).size ≤ 100000000) {w : World} (hw : LibW w) (g cap : Nat) (h0 : l ≠ []) (hc : l.length ≤ cap) (hcm : cap ≤ maxLen) (hg : g < w.heap.size)
  (hx : ∀ (j : Nat) x,l[j]? = some x → w.cell? ⟨g,j,none⟩ = some (.string x)) :
  Calls Tryz.prog 68 #[.string key,.slice (some ⟨g,0,none⟩) l.length cap] w fun e w' => e = .returned (.string (macD key (catS l))) ∧ Below w.heap.size w w' := by
 have hlen : (l.map sRow).length = l.length := List.length_map _
 have hv : VR (flat fun g => g < w.heap.size) (Zk w) (Zk1 l) (.slice (some ⟨g,0,none⟩) l.length cap) := by
  unfold Zk1
  have := VR.lst (m := flat fun g => g < w.heap.size) (σ := Zk w) (sz := 1) (A := ⟨g,0,none⟩) (c := cap) (g := g) (o := 0) (rows := l.map sRow) (vs := fun i _ => .string (l.getD i ⟨#[]⟩)) (by rw [hlen]; exact hc) hcm (fun _ => ⟨rfl,hg⟩) (fun i r hr => by
   rw [List.getElem?_map] at hr
   cases h : l[i]? with
   | none => rw [h] at hr; cases hr
   | some x => rw [h] at hr; injection hr with hr; subst hr; rfl) (fun i r f x hr hx' => by
   rw [List.getElem?_map] at hr
   cases h : l[i]? with
   | none => rw [h] at hr; cases hr
   | some y =>
    rw [h] at hr
    injection hr with hr
    subst hr
    match f with
    | 0 =>
     have e1 := hx i y h
     have e2 : l.getD i ⟨#[]⟩ = y := by simp [List.getD_eq_getElem?_getD,h]
     rw [Zgz,e2]
     simpa using e1
    | f + 1 => simp [sRow] at hx') (fun i r f x hr hx' => by
   rw [List.getElem?_map] at hr
   cases h : l[i]? with
   | none => rw [h] at hr; cases hr
   | some y =>
    rw [h] at hr
    injection hr with hr
    subst hr
    have e2 : l.getD i ⟨#[]⟩ = y := by simp [List.getD_eq_getElem?_getD,h]
    match f with
    | 0 =>
     simp [sRow] at hx'
     subst hx'
     rw [e2]
     exact .str _
    | f + 1 => simp [sRow] at hx')
  rw [hlen] at this
  exact this
 refine ((Zrm key l hk hl hs).below hw (.cons (.c (.str _)) (.cons (.c hv) .nil))).mono ?_
 rintro e w' ⟨u,m',rfl,hb,hr⟩
 cases hr with
 | c hr => cases hr; exact ⟨rfl,hb⟩
theorem Zbb3 {w w' : World} (hb : Below w.heap.size w w') : w.grownBy w' none := ⟨hb.os,hb.tape,hb.output,hb.size,fun k hk _ => hb.block k hk⟩
theorem Zvi {T e : TypeId} {B b : Nat} {bs : List Value} {w w' : World} (h : Lib.IsBuilderF T e B b bs w) (hb : Below w.heap.size w w') : Lib.IsBuilderF T e B b bs w' := by
 have key : ∀ p,Lib.BuilderAtF T e B b p bs w → Lib.BuilderAtF T e B b p bs w' := fun p h => by
  have hlt := h.lt
  obtain ⟨hB,v,hbk,hown,hne⟩ := h
  exact ⟨hB,v,(hb.block b hlt).trans hbk,hown.kept (Zbb3 hb) (by cases hv : v.ownBlock <;> simp),hne⟩
 exact h.elim (fun h => .inl (key _ h)) (fun h => .inr (key _ h))
theorem Ztm : Zeq.t 72 = 221 := by kernel_rfl
theorem Z5w : Zeq.t 5 = 5 := by kernel_rfl
set_option maxRecDepth 100000 in
set_option maxHeartbeats 4000000 in
theorem Zm7 (B b : Nat) (bs : List Value) (w : World) (h : Lib.IsBuilderF 221 5 B b bs w) :
  Calls Tryz.prog 169 #[.pointer (some ⟨b,0,none⟩)] w fun e w' => e = .returned (.int .i64 bs.length) ∧ w' = w := by
 obtain ⟨p,hB,v,hbk,hown,hne⟩ : ∃ p,Lib.BuilderAtF 221 5 B b p bs w := by
  rcases h with h | h
  ·exact ⟨_,h⟩
  ·exact ⟨_,h⟩
 obtain ⟨ao,cap,rfl⟩ : ∃ ao cap,v = .slice ao bs.length cap := by
  rcases hown.2 with ⟨hv,h0⟩ | ⟨g,cap,cur,fz,hv,_⟩
  ·exact ⟨none,0,by rw [hv,h0]⟩
  ·exact ⟨_,_,hv⟩
 have c1 : w.cell? ⟨b,1,none⟩ = some (.slice ao bs.length cap) := by rw [Lib.cell_of_heap hbk]; rfl
 go_enter Tryz.func169,Tryz.ntmps169
 go_wp2
 go_ret
 exact ⟨rfl,rfl⟩
theorem Zrx (B b : Nat) (bs : List Value) (s : ByteArray) (w : World) (h : Lib.IsBuilderF 221 5 B b bs w) (hlen : bs.length + s.size ≤ 140737488355328) (hBw : B ≤ w.heap.size) :
  Calls Tryz.prog 168 #[.pointer (some ⟨b,0,none⟩),.string s] w fun e w' => e = .returned (.tuple #[.int .i64 s.size,.nilIface]) ∧ Lib.IsBuilderF 221 5 B b (bs ++ Lib.strCells s) w' ∧ Below B w w' := by
 have := Any.Builder_WriteString_f Zbn3 Zm4 B b bs s w (by rw [Ztm,Z5w]; exact h) hlen hBw
 rw [Zbis,Ztm,Z5w] at this
 refine this.mono ?_
 rintro e w' ⟨rfl,h1,h2⟩
 exact ⟨rfl,.inr h1,h2⟩
theorem Zwi (B b : Nat) (l : List UInt8) (w : World) (h : Lib.IsBuilderF 221 5 B b (Lib.byteCells l) w) (hBw : B ≤ w.heap.size) (h0 : l ≠ []) :
  Calls Tryz.prog 170 #[.pointer (some ⟨b,0,none⟩)] w fun e w' => e = .returned (.string (baL l)) ∧ Below B w w' := by
 have := Any.Builder_String_f Zbnu Zm4 B b l w (by rw [Ztm,Z5w]; exact h) h0
 rw [Zbdf,Ztm,Z5w] at this
 refine this.mono ?_
 rintro e w' ⟨rfl,h1,h2⟩
 exact ⟨rfl,h2⟩
theorem Z0h (w : World) : Lib.IsBuilderF 221 5 w.heap.size w.heap.size [] (w.alloc (.cells #[.pointer none,.slice none 0 0] 221)) :=
 .inl ⟨Nat.le_refl _,_,heap_alloc_new w _,World.ownsRowF_nil _ _ _ _,by simp [Value.ownBlock]⟩
theorem Z3f (x : ByteArray) (w : World) (T : TypeId) : ∀ (j : Nat) y,[x][j]? = some y → (w.alloc (.cells #[.string x] T)).cell? ⟨w.heap.size,j,none⟩ = some (.string y) := fun j y h => by
 match j with
 | 0 => simp at h; subst h; simp
 | j + 1 => simp at h
theorem Zrn (x y z : ByteArray) (w : World) (T : TypeId) (g : Nat) (hg : g = w.heap.size) : ∀ (j : Nat) u,[x,y,z][j]? = some u → (w.alloc (.cells #[.string x,.string y,.string z] T)).cell? ⟨g,j,none⟩ = some (.string u) := fun j u h => by
 subst hg
 match j with
 | 0 => simp at h; subst h; simp
 | 1 => simp at h; subst h; simp
 | 2 => simp at h; subst h; simp
 | j + 3 => simp at h
theorem cat3 (a b : ByteArray) : catS [⟨#[]⟩,a,b] = a ++ b := by
 rw [Zee,Zee,Zep,Zsg]
theorem Z6k (w : World) (a b : Obj) : Below w.heap.size w ((w.alloc a).alloc b) := ((Below.refl _ _).alloc (Nat.le_refl _) a).alloc (by simp) b
theorem Zzr (x : UInt8) (w : World) (T : TypeId) (n : Int) (hn : n = (x.toNat : Int)) (g : Nat) (hg : g = w.heap.size) : (convert 22 9 (.slice (some ⟨g,0,none⟩) 1 1)).run Tryz.prog (w.alloc (.cells #[.int .u8 n] T)) = .ok (.string (baL [x])) (w.alloc (.cells #[.int .u8 n] T)) := by
 subst hn hg
 refine run_convert_bytes_back (P := Tryz.prog) _ 22 9 5 ⟨w.heap.size,0,none⟩ 1 [x] Tryz.underlying22 Tryz.underlying5 Tryz.underlying9 fun j hj => ?_
 match j with
 | 0 => simp [Addr.add]
 | j + 1 => simp at hj
set_option maxRecDepth 100000 in
set_option maxHeartbeats 1000000 in
theorem Z2m (salt key info : ByteArray) (h1 : salt.size ≤ 1000000) (h2 : key.size ≤ 1000000) (h3 : info.size ≤ 1000000) (w : World) (hl : LibW w) :
  Calls Tryz.prog 152 #[.string salt,.string key,.string info,.int .i64 32] w fun e w' => e = .returned (.string (der1 salt key info)) ∧ Below w.heap.size w w' := by
 go_enter Tryz.func152,Tryz.ntmps152
 go_wp2_with (go_at_fn 183)
 refine (Zyp 32 (by omega) (by omega) hl).mono ?_
 rintro e w1 ⟨rfl,hb1⟩
 have hl1 := hl.below hb1
 have cs1 : (catS [key]).size ≤ 100000000 := by rw [Zep]; omega
 go_wp2_with (go_at_fn 94)
 refine (Zmg _ _).mono ?_
 rintro e w' ⟨rfl,rfl⟩
 go_wp2_with (go_at_fn 94)
 refine (Zmg _ _).mono ?_
 rintro e w' ⟨rfl,rfl⟩
 go_wp2_with (go_at_fn 68)
 refine (Zmx salt [key] h1 (by simp) cs1 (hl1.below ((Below.refl _ _).alloc (Nat.le_refl _) _)) _ 1 (by simp) (by simp) (by decide) (by simp) (Z3f _ _ _)).mono ?_
 rintro e w2 ⟨rfl,hb2⟩
 rw [Zep]
 have hb2' := (hb1.trans (((Below.refl _ _).alloc (Nat.le_refl _) _).mono hb1.size)).trans (hb2.mono (Nat.le_trans hb1.size (by simp)))
 have hl2 := hl.below hb2'
 clear hb1 hl1 hb2
 go_wp2
 refine wp_loop_rounds 2 ?_
 rw [rounds_succ]
 have hB0 := Z0h w2
 go_wp2_with (go_at_fn 169)
 refine (Zm7 w2.heap.size w2.heap.size [] _ hB0).mono ?_
 rintro e w' ⟨rfl,rfl⟩
 have v1 := Zzr 1 (w2.alloc (.cells #[.pointer none,.slice none 0 0] 221)) 5 1 rfl (w2.heap.size + 1) (by simp)
 go_wp2_with (go_at_fn 68)
 have q1 : Below w2.heap.size w2 (w2.alloc (.cells #[.pointer none,.slice none 0 0] 221)) := (Below.refl _ _).alloc (Nat.le_refl _) _
 have q2 := Z6k (w2.alloc (.cells #[.pointer none,.slice none 0 0] 221)) (.cells #[.int .u8 1] 5) (.cells #[.string ⟨#[]⟩,.string info,.string (baL [1])] 9)
 have hl3 := (hl2.below q1).below q2
 refine (Zmx (macD salt key) [⟨#[]⟩,info,baL [1]] (by rw [Zev]; omega) (by simp) (by rw [cat3,ByteArray.size_append,Zdp]; simp; omega) hl3 (w2.heap.size + 1 + 1) 3 (by simp) (by simp) (by decide) (by simp) (Zrn _ _ _ _ _ _ (by simp))).mono ?_
 rintro e w3 ⟨rfl,hb3⟩
 rw [cat3]
 have d1 : macD (macD salt key) (info ++ baL [1]) = der1 salt key info := rfl
 have sd := Zqh salt key info
 rw [d1]
 obtain ⟨D,hD⟩ : ∃ D,der1 salt key info = D := ⟨_,rfl⟩
 rw [hD] at d1 sd ⊢
 have hb3' := q2.trans (hb3.mono q2.size)
 have hB1 := Zvi hB0 hb3'
 have hb3'' := q1.trans (hb3'.mono q1.size)
 go_wp2_with (go_at_fn 168)
 refine (Zrx w2.heap.size w2.heap.size [] D w3 hB1 (by simp; omega) hb3''.size).mono ?_
 rintro e w4 ⟨rfl,hB2,hb4⟩
 rw [List.nil_append] at hB2
 go_wp2
 rw [rounds_succ]
 go_wp2_with (go_at_fn 169)
 refine (Zm7 w2.heap.size w2.heap.size _ _ hB2).mono ?_
 rintro e w4 ⟨rfl,rfl⟩
 rw [Lib.strCells_length,sd]
 go_wp2_with (go_at_fn 170)
 refine (Zwi w2.heap.size w2.heap.size D.data.toList _ hB2 (Nat.le_trans hb3''.size hb4.size) (by intro h; have h' : D.data.toList.length = D.size := rfl; rw [h] at h'; simp at h'; omega)).mono ?_
 rintro e w5 ⟨rfl,hb5⟩
 rw [Zkf]
 go_wp2
 go_ret
 refine ⟨?_,hb2'.trans (((hb3''.trans hb4).trans hb5).mono hb2'.size)⟩
 rw [Zmo sd,hD]
 rfl
set_option maxRecDepth 100000 in
set_option maxHeartbeats 1000000 in
theorem Z2n (salt key info : ByteArray) (h1 : salt.size ≤ 1000000) (h2 : key.size ≤ 1000000) (h3 : info.size ≤ 1000000) (w : World) (hl : LibW w) :
  Calls Tryz.prog 152 #[.string salt,.string key,.string info,.int .i64 64] w fun e w' => e = .returned (.string (Zqj salt key info)) ∧ Below w.heap.size w w' := by
 go_enter Tryz.func152,Tryz.ntmps152
 go_wp2_with (go_at_fn 183)
 refine (Zyp 64 (by omega) (by omega) hl).mono ?_
 rintro e w1 ⟨rfl,hb1⟩
 have hl1 := hl.below hb1
 have cs1 : (catS [key]).size ≤ 100000000 := by rw [Zep]; omega
 go_wp2_with (go_at_fn 94)
 refine (Zmg _ _).mono ?_
 rintro e w' ⟨rfl,rfl⟩
 go_wp2_with (go_at_fn 94)
 refine (Zmg _ _).mono ?_
 rintro e w' ⟨rfl,rfl⟩
 go_wp2_with (go_at_fn 68)
 refine (Zmx salt [key] h1 (by simp) cs1 (hl1.below ((Below.refl _ _).alloc (Nat.le_refl _) _)) _ 1 (by simp) (by simp) (by decide) (by simp) (Z3f _ _ _)).mono ?_
 rintro e w2 ⟨rfl,hb2⟩
 rw [Zep]
 have hb2' := (hb1.trans (((Below.refl _ _).alloc (Nat.le_refl _) _).mono hb1.size)).trans (hb2.mono (Nat.le_trans hb1.size (by simp)))
 have hl2 := hl.below hb2'
 clear hb1 hl1 hb2
 go_wp2
 refine wp_loop_rounds 3 ?_
 rw [rounds_succ]
 have hB0 := Z0h w2
 go_wp2_with (go_at_fn 169)
 refine (Zm7 w2.heap.size w2.heap.size [] _ hB0).mono ?_
 rintro e w' ⟨rfl,rfl⟩
 have v1 := Zzr 1 (w2.alloc (.cells #[.pointer none,.slice none 0 0] 221)) 5 1 rfl (w2.heap.size + 1) (by simp)
 go_wp2_with (go_at_fn 68)
 have q1 : Below w2.heap.size w2 (w2.alloc (.cells #[.pointer none,.slice none 0 0] 221)) := (Below.refl _ _).alloc (Nat.le_refl _) _
 have q2 := Z6k (w2.alloc (.cells #[.pointer none,.slice none 0 0] 221)) (.cells #[.int .u8 1] 5) (.cells #[.string ⟨#[]⟩,.string info,.string (baL [1])] 9)
 have hl3 := (hl2.below q1).below q2
 refine (Zmx (macD salt key) [⟨#[]⟩,info,baL [1]] (by rw [Zev]; omega) (by simp) (by rw [cat3,ByteArray.size_append,Zdp]; simp; omega) hl3 (w2.heap.size + 1 + 1) 3 (by simp) (by simp) (by decide) (by simp) (Zrn _ _ _ _ _ _ (by simp))).mono ?_
 rintro e w3 ⟨rfl,hb3⟩
 rw [cat3]
 have d1 : macD (macD salt key) (info ++ baL [1]) = der1 salt key info := rfl
 have sd := Zqh salt key info
 rw [d1]
 obtain ⟨D,hD⟩ : ∃ D,der1 salt key info = D := ⟨_,rfl⟩
 rw [hD] at d1 sd ⊢
 have hb3' := q2.trans (hb3.mono q2.size)
 have hB1 := Zvi hB0 hb3'
 have hb3'' := q1.trans (hb3'.mono q1.size)
 go_wp2_with (go_at_fn 168)
 refine (Zrx w2.heap.size w2.heap.size [] D w3 hB1 (by simp; omega) hb3''.size).mono ?_
 rintro e w4 ⟨rfl,hB2,hb4⟩
 rw [List.nil_append] at hB2
 go_wp2
 rw [rounds_succ]
 go_wp2_with (go_at_fn 169)
 refine (Zm7 w2.heap.size w2.heap.size _ _ hB2).mono ?_
 rintro e w4 ⟨rfl,rfl⟩
 rw [Lib.strCells_length,sd]
 have v2 := Zzr 2 w4 5 2 rfl w4.heap.size rfl
 go_wp2_with (go_at_fn 68)
 have q4 := Z6k w4 (.cells #[.int .u8 2] 5) (.cells #[.string D,.string info,.string (baL [2])] 9)
 have hl4 := (hl2.below (hb3''.trans hb4)).below q4
 have d2 : catS [D,info,baL [2]] = D ++ info ++ baL [2] := by rw [Zee,Zee,Zep,ByteArray.append_assoc]
 refine (Zmx (macD salt key) [D,info,baL [2]] (by rw [Zev]; omega) (by simp) (by rw [d2,ByteArray.size_append,ByteArray.size_append,Zdp]; simp; omega) hl4 (w4.heap.size + 1) 3 (by simp) (by simp) (by decide) (by simp) (Zrn _ _ _ _ _ _ (by simp))).mono ?_
 rintro e w5 ⟨rfl,hb5⟩
 have e2 : macD (macD salt key) (catS [D,info,baL [2]]) = der2 salt key info := by rw [d2,← hD]; rfl
 rw [e2]
 have sd2 := Z3s salt key info
 obtain ⟨D2,hD2⟩ : ∃ D2,der2 salt key info = D2 := ⟨_,rfl⟩
 rw [hD2] at e2 sd2 ⊢
 have hb5' := q4.trans (hb5.mono q4.size)
 have hB3 := Zvi hB2 hb5'
 have hs4 : w2.heap.size ≤ w4.heap.size := Nat.le_trans hb3''.size hb4.size
 have hs5 : w2.heap.size ≤ w5.heap.size := Nat.le_trans hs4 hb5'.size
 go_wp2_with (go_at_fn 168)
 refine (Zrx w2.heap.size w2.heap.size _ D2 w5 hB3 (by rw [Lib.strCells_length]; omega) hs5).mono ?_
 rintro e w6 ⟨rfl,hB4,hb6⟩
 go_wp2
 rw [rounds_succ]
 go_wp2_with (go_at_fn 169)
 refine (Zm7 w2.heap.size w2.heap.size _ _ hB4).mono ?_
 rintro e w6 ⟨rfl,rfl⟩
 rw [List.length_append,Lib.strCells_length,Lib.strCells_length,sd,sd2]
 go_wp2_with (go_at_fn 170)
 have hcat : Lib.strCells D ++ Lib.strCells D2 = Lib.byteCells (D ++ D2).data.toList := by
  unfold Lib.strCells Lib.byteCells
  rw [← List.map_append,ByteArray.data_append,Array.toList_append]
 rw [hcat] at hB4
 have hs64 : (D ++ D2).size = 64 := by rw [ByteArray.size_append]; omega
 refine (Zwi w2.heap.size w2.heap.size (D ++ D2).data.toList _ hB4 (Nat.le_trans hs5 hb6.size) (by intro h; have h' : (D ++ D2).data.toList.length = (D ++ D2).size := rfl; rw [h] at h'; simp at h'; omega)).mono ?_
 rintro e w7 ⟨rfl,hb7⟩
 rw [Zkf]
 go_wp2
 go_ret
 refine ⟨?_,hb2'.trans (((((hb3''.trans hb4).trans (hb5'.mono hs4)).trans hb6).trans hb7).mono hb2'.size)⟩
 rw [Zmo hs64,Zqj,hD,hD2]
 rfl
theorem Zr2 (salt key info : ByteArray) (h1 : salt.size ≤ 1000000) (h2 : key.size ≤ 1000000) (h3 : info.size ≤ 1000000) : Pr 152 [sC salt,sC key,sC info,iC 32] (sC (der1 salt key info)) := by
 intro H
 refine ⟨⟨_,Tryz.func152,rfl,rfl⟩,fun B m w vs r ha => ?_⟩
 obtain ⟨vs⟩ := vs
 cases ha with | cons a1 a2 => cases a2 with | cons a2 a3 => cases a3 with | cons a3 a4 => cases a4 with | cons a4 a5 =>
 cases a5
 cases a1 with | c a1 => cases a2 with | c a2 => cases a3 with | c a3 => cases a4 with | c a4 =>
 cases a1; cases a2; cases a3; cases a4
 refine (Z2m salt key info h1 h2 h3 w r.lib.w).mono ?_
 rintro e w' ⟨rfl,hb⟩
 exact ⟨_,⟨m.f,m.z⟩,rfl,St.ofBelow r hb (Or.inl rfl) (fun _ h => h) (fun _ h => .inl h),.c (.str _)⟩
theorem Z26 (salt key info : ByteArray) (h1 : salt.size ≤ 1000000) (h2 : key.size ≤ 1000000) (h3 : info.size ≤ 1000000) : Pr 152 [sC salt,sC key,sC info,iC 64] (sC (Zqj salt key info)) := by
 intro H
 refine ⟨⟨_,Tryz.func152,rfl,rfl⟩,fun B m w vs r ha => ?_⟩
 obtain ⟨vs⟩ := vs
 cases ha with | cons a1 a2 => cases a2 with | cons a2 a3 => cases a3 with | cons a3 a4 => cases a4 with | cons a4 a5 =>
 cases a5
 cases a1 with | c a1 => cases a2 with | c a2 => cases a3 with | c a3 => cases a4 with | c a4 =>
 cases a1; cases a2; cases a3; cases a4
 refine (Z2n salt key info h1 h2 h3 w r.lib.w).mono ?_
 rintro e w' ⟨rfl,hb⟩
 exact ⟨_,⟨m.f,m.z⟩,rfl,St.ofBelow r hb (Or.inl rfl) (fun _ h => h) (fun _ h => .inl h),.c (.str _)⟩
end Go.Proofs.YticmfblfghdkbaaGreatDoor.Eng
namespace Go.Proofs.YticmfblfghdkbaaGreatDoor.Eng
open Go Go.Shelf
def Zzb : Go.Shelf.Ren := ⟨fun | 171 => 151 | 243 => 182 | 246 => 205 | 283 => 216 | 284 => 217 | 285 => 218 | 286 => 219 | 129 => 225 | 317 => 224 | 318 => 226 | 319 => 227 | 320 => 228 | 337 => 234 | 338 => 235 | n => n,fun | 3 => 3 | 9 => 9 | 2 => 2 | 4 => 4 | 171 => 292 | 0 => 0 | 53 => 152 | 37 => 22 | 5 => 5 | 173 => 295 | 212 => 300 | 51 => 90 | 20 => 20 | 213 => 301 | 46 => 160 | 232 => 311 | 233 => 259 | n => n,fun | 17 => 2 | 18 => 5 | 19 => 6 | n => n⟩
theorem Zbag : Go.Proofs.Lays.n171 Tryz.prog Zzb := {
 mixed := by kernel_rfl
 f129 := Tryz.func225.trans (congrArg some (by kernel_rfl))
 f171 := Tryz.func151.trans (congrArg some (by kernel_rfl))
 f243 := Tryz.func182.trans (congrArg some (by kernel_rfl))
 f246 := Tryz.func205.trans (congrArg some (by kernel_rfl))
 f283 := Tryz.func216.trans (congrArg some (by kernel_rfl))
 f284 := Tryz.func217.trans (congrArg some (by kernel_rfl))
 f285 := Tryz.func218.trans (congrArg some (by kernel_rfl))
 f286 := Tryz.func219.trans (congrArg some (by kernel_rfl))
 f317 := Tryz.func224.trans (congrArg some (by kernel_rfl))
 f318 := Tryz.func226.trans (congrArg some (by kernel_rfl))
 f319 := Tryz.func227.trans (congrArg some (by kernel_rfl))
 f320 := Tryz.func228.trans (congrArg some (by kernel_rfl))
 f337 := Tryz.func234.trans (congrArg some (by kernel_rfl))
 f338 := Tryz.func235.trans (congrArg some (by kernel_rfl))
 t0 := Tryz.underlying0
 a0 := Tryz.isAgg0
 z0 := Tryz.sizeOf0
 v0 := Tryz.zeroValue0
 t2 := Tryz.underlying2
 a2 := Tryz.isAgg2
 z2 := Tryz.sizeOf2
 v2 := Tryz.zeroValue2
 t3 := Tryz.underlying3
 a3 := Tryz.isAgg3
 z3 := Tryz.sizeOf3
 v3 := Tryz.zeroValue3
 t4 := Tryz.underlying4
 a4 := Tryz.isAgg4
 z4 := Tryz.sizeOf4
 v4 := Tryz.zeroValue4
 t5 := Tryz.underlying5
 a5 := Tryz.isAgg5
 z5 := Tryz.sizeOf5
 v5 := Tryz.zeroValue5
 t9 := Tryz.underlying9
 a9 := Tryz.isAgg9
 z9 := Tryz.sizeOf9
 v9 := Tryz.zeroValue9
 t20 := Tryz.underlying20
 a20 := Tryz.isAgg20
 z20 := Tryz.sizeOf20
 v20 := Tryz.zeroValue20
 t37 := Tryz.underlying22
 a37 := Tryz.isAgg22
 z37 := Tryz.sizeOf22
 v37 := Tryz.zeroValue22
 t46 := Tryz.underlying160
 a46 := Tryz.isAgg160
 z46 := Tryz.sizeOf160
 v46 := Tryz.zeroValue160
 t51 := Tryz.underlying90
 a51 := Tryz.isAgg90
 z51 := Tryz.sizeOf90
 v51 := Tryz.zeroValue90
 t53 := Tryz.underlying152
 a53 := Tryz.isAgg152
 z53 := Tryz.sizeOf152
 v53 := Tryz.zeroValue152
 t171 := Tryz.underlying292
 a171 := Tryz.isAgg292
 z171 := Tryz.sizeOf292
 v171 := Tryz.zeroValue292
 t173 := Tryz.underlying295
 a173 := Tryz.isAgg295
 z173 := Tryz.sizeOf295
 v173 := Tryz.zeroValue295
 t212 := Tryz.underlying300
 a212 := Tryz.isAgg300
 z212 := Tryz.sizeOf300
 v212 := Tryz.zeroValue300
 t213 := Tryz.underlying301
 a213 := Tryz.isAgg301
 z213 := Tryz.sizeOf301
 t232 := Tryz.underlying311
 a232 := Tryz.isAgg311
 z232 := Tryz.sizeOf311
 v232 := Tryz.zeroValue311
 t233 := Tryz.underlying259
 a233 := Tryz.isAgg259
 z233 := Tryz.sizeOf259
 v233 := Tryz.zeroValue259
 g17 := by kernel_rfl
 g18 := by kernel_rfl
 g19 := by kernel_rfl }
end Go.Proofs.YticmfblfghdkbaaGreatDoor.Eng
namespace Go.Proofs.YticmfblfghdkbaaGreatDoor.Eng
open Go Go.Shelf Go.RowKit
theorem Z1t : Zzb.f 171 = 151 := by kernel_rfl
theorem Zbhi : ∀ n : Fin 100,(⟨(Lib.decDigits n.1).toArray⟩ : ByteArray) = digD n.1 := by decide +kernel
theorem Zqd (n : Nat) (hn : n < 100) : Pr 151 [iC n] (sC (digD n)) := by
 intro H
 refine ⟨by rw [← Z1t]; exact ⟨_,Zbag.f171,rfl,rfl⟩,fun B m w vs r ha => ?_⟩
 obtain ⟨vs⟩ := vs
 cases ha with | cons a1 a2 =>
 cases a2
 cases a1 with | c a1 =>
 cases a1
 have := Any.strconv_Itoa_small Zbag n hn w
 rw [Z1t,Zbhi ⟨n,hn⟩] at this
 refine this.mono ?_
 rintro e w' ⟨rfl,rfl⟩
 exact ⟨_,m,rfl,St.refl r,.c (.str _)⟩
theorem Zbab (m : ByteArray) (n : Nat) (hm : m.size ≤ 1000000) (hn : n < 100) : Pr 57 [sC m,iC n] (sC (ownK m n)) := by
 have hi := Zqd n hn
 have hz : (digD n).size ≤ 3 := Zqk n
 have e1 : digS (n : Int) = digD n := by unfold digS; rw [Int.toNat_natCast]
 have hd : Pr 152 [sC Zhd,sC m,sC (ownW ++ digD n),iC 32] (sC (ownK m n)) := by
  unfold ownK
  rw [e1]
  exact Zr2 Zhd m (ownW ++ digD n) (by decide) hm (by rw [ByteArray.size_append]; show 4 + _ ≤ _; omega)
 have c1 : ∀ H : Heap,vBin .add (.c (.str ⟨#[32]⟩)) (sC (digD n)) H = some (sC (⟨#[32]⟩ ++ digD n),H) := fun H => Zdg (by show 1 + _ ≤ _; omega)
 have c2 : ∀ H : Heap,vBin .add (.c (.str ⟨#[111,119,110]⟩)) (sC (⟨#[32]⟩ ++ digD n)) H = some (sC (ownW ++ digD n),H) := fun H => by
  rw [Zdg (by rw [ByteArray.size_append]; show 3 + (1 + _) ≤ _; omega),← ByteArray.append_assoc]
  rfl
 have hder : Pr 103 [sC m,iC 0,iC n] (sC (ownK m n)) := by
  refine Zl mixed Zk3 rfl fun hl T => ?_
  unfold Zi1
  generalize ownK m n = K at hd ⊢
  have hx : ∀ (a b c d : List Cell) (H : Heap),vIx 1 (.c (.lst 1 [a,b,c,d])) (iC 0) H = some (.c (.fp a 0),H) := fun _ _ _ _ _ => rfl
  simp only [go_sem,simprocAttr,hx]
  refine Za hi ?_
  simp only [go_sem,simprocAttr,c1,c2]
  refine Za hd ?_
  simp only [go_sem,simprocAttr]
  simp [Zf,Ze,Zi,Zg,Zh,Zd,Zc,Zb]
 refine Zl mixed Z8z rfl fun hl T => ?_
 unfold Zzz
 simp only [go_sem,simprocAttr]
 refine Za hder ?_
 simp only [go_sem,simprocAttr]
 simp [Zf,Ze,Zi,Zg,Zh,Zd,Zc,Zb]
theorem Zzw (m : ByteArray) (n : Nat) (hm : m.size ≤ 1000000) (hn : n < 256) : Pr 24 [sC m,iC n] (sC (ownK m n)) := by
 have hi := Zva n hn
 have hz : (digD n).size ≤ 3 := Zqk n
 have e1 : digS (n : Int) = digD n := by unfold digS; rw [Int.toNat_natCast]
 have hd : Pr 65 [sC Zhd,sC m,sC (ownW ++ digD n),iC 32] (sC (ownK m n)) := by
  unfold ownK
  rw [e1]
  exact Zwg Zhd m (ownW ++ digD n) (by decide) hm (by rw [ByteArray.size_append]; show 4 + _ ≤ _; omega)
 have c1 : ∀ H : Heap,vBin .add (.c (.str ⟨#[111,119,110,32]⟩)) (sC (digD n)) H = some (sC (ownW ++ digD n),H) := fun H => Zdg (by show 4 + _ ≤ _; omega)
 refine Zl mixed Zbbc rfl fun hl T => ?_
 unfold Z3z
 generalize ownK m n = K at hd ⊢
 simp only [go_sem,simprocAttr]
 refine Za hi ?_
 simp only [go_sem,simprocAttr,c1]
 refine Za hd ?_
 simp only [go_sem,simprocAttr]
 simp [Zf,Ze,Zi,Zg,Zh,Zd,Zc,Zb]
theorem Zug (m : ByteArray) (n : Nat) (hm : m.size ≤ 1000000) (hn : n < 100) : Pr 60 [sC m,iC n] (sC (Zck m n)) := by
 have hi := Zqd n hn
 have hz : (digD n).size ≤ 3 := Zqk n
 have e1 : digS (n : Int) = digD n := by unfold digS; rw [Int.toNat_natCast]
 have hd : Pr 152 [sC Zhd,sC m,sC (Zpe ++ digD n),iC 32] (sC (Zck m n)) := by
  unfold Zck
  rw [e1]
  exact Zr2 Zhd m (Zpe ++ digD n) (by decide) hm (by rw [ByteArray.size_append]; show 6 + _ ≤ _; omega)
 have c1 : ∀ H : Heap,vBin .add (.c (.str ⟨#[32]⟩)) (sC (digD n)) H = some (sC (⟨#[32]⟩ ++ digD n),H) := fun H => Zdg (by show 1 + _ ≤ _; omega)
 have c2 : ∀ H : Heap,vBin .add (.c (.str ⟨#[101,112,111,99,104]⟩)) (sC (⟨#[32]⟩ ++ digD n)) H = some (sC (Zpe ++ digD n),H) := fun H => by
  rw [Zdg (by rw [ByteArray.size_append]; show 5 + (1 + _) ≤ _; omega),← ByteArray.append_assoc]
  rfl
 have hder : Pr 103 [sC m,iC 1,iC n] (sC (Zck m n)) := by
  refine Zl mixed Zk3 rfl fun hl T => ?_
  unfold Zi1
  generalize Zck m n = K at hd ⊢
  have hx : ∀ (a b c d : List Cell) (H : Heap),vIx 1 (.c (.lst 1 [a,b,c,d])) (iC 1) H = some (.c (.fp b 0),H) := fun _ _ _ _ _ => rfl
  simp only [go_sem,simprocAttr,hx]
  refine Za hi ?_
  simp only [go_sem,simprocAttr,c1,c2]
  refine Za hd ?_
  simp only [go_sem,simprocAttr]
  simp [Zf,Ze,Zi,Zg,Zh,Zd,Zc,Zb]
 refine Zl mixed Z5n rfl fun hl T => ?_
 unfold Zvt
 simp only [go_sem,simprocAttr]
 refine Za hder ?_
 simp only [go_sem,simprocAttr]
 simp [Zf,Ze,Zi,Zg,Zh,Zd,Zc,Zb]
theorem Zo1 (m : ByteArray) (n : Nat) (hm : m.size ≤ 1000000) (hn : n < 256) : Pr 25 [sC m,iC n] (sC (Zck m n)) := by
 have hi := Zva n hn
 have hz : (digD n).size ≤ 3 := Zqk n
 have e1 : digS (n : Int) = digD n := by unfold digS; rw [Int.toNat_natCast]
 have hd : Pr 65 [sC Zhd,sC m,sC (Zpe ++ digD n),iC 32] (sC (Zck m n)) := by
  unfold Zck
  rw [e1]
  exact Zwg Zhd m (Zpe ++ digD n) (by decide) hm (by rw [ByteArray.size_append]; show 6 + _ ≤ _; omega)
 have c1 : ∀ H : Heap,vBin .add (.c (.str ⟨#[101,112,111,99,104,32]⟩)) (sC (digD n)) H = some (sC (Zpe ++ digD n),H) := fun H => Zdg (by show 6 + _ ≤ _; omega)
 refine Zl mixed Z6t rfl fun hl T => ?_
 unfold Zxt
 generalize Zck m n = K at hd ⊢
 simp only [go_sem,simprocAttr]
 refine Za hi ?_
 simp only [go_sem,simprocAttr,c1]
 refine Za hd ?_
 simp only [go_sem,simprocAttr]
 simp [Zf,Ze,Zi,Zg,Zh,Zd,Zc,Zb]
theorem Zvw (o : ByteArray) (ho : o.size ≤ 1000000) : Pr 56 [sC o] (sC (Zdf o)) := by
 have hd : Pr 152 [sC Zhd,sC o,sC Z04,iC 64] (sC (Zdf o)) := Z26 Zhd o Z04 (by decide) ho (by decide)
 have hder : Pr 103 [sC o,iC 3,iC 0] (sC (Zdf o)) := by
  refine Zl mixed Zk3 rfl fun hl T => ?_
  unfold Zi1
  generalize Zdf o = K at hd ⊢
  have hx : ∀ (a b c d : List Cell) (H : Heap),vIx 1 (.c (.lst 1 [a,b,c,d])) (iC 3) H = some (.c (.fp d 0),H) := fun _ _ _ _ _ => rfl
  simp only [go_sem,simprocAttr,hx]
  refine Za hd ?_
  simp only [go_sem,simprocAttr]
  simp [Zf,Ze,Zi,Zg,Zh,Zd,Zc,Zb]
 refine Zl mixed Z7c rfl fun hl T => ?_
 unfold Zyu
 simp only [go_sem,simprocAttr]
 refine Za hder ?_
 simp only [go_sem,simprocAttr]
 simp [Zf,Ze,Zi,Zg,Zh,Zd,Zc,Zb]
theorem Zx3 (o : ByteArray) (ho : o.size ≤ 1000000) : Pr 73 [sC o] (sC (Zdf o)) := by
 have hd : Pr 65 [sC Zhd,sC o,sC Z04,iC 64] (sC (Zdf o)) := Z7b Zhd o Z04 (by decide) ho (by decide)
 refine Zl mixed Z9w rfl fun hl T => ?_
 unfold Z07
 generalize Zdf o = K at hd ⊢
 simp only [go_sem,simprocAttr]
 refine Za hd ?_
 simp only [go_sem,simprocAttr]
 simp [Zf,Ze,Zi,Zg,Zh,Zd,Zc,Zb]
theorem Zuv (n : Int) : Pr 74 [iC n] (sC (Zc6 n)) := by
 have h8 := Zjk n
 have c1 : ∀ H : Heap,vBin .add (.c (.str ⟨#[0,0,0,0]⟩)) (sC (baL (Zdc (IntKind.wrap .u64 n)))) H = some (sC (Zc6 n),H) := fun H => by
  rw [Zdg (by rw [Zdp,Zdc,Zdo]; decide)]
  unfold Zc6 Zf1
  rw [Ztl]
  rfl
 refine Zl mixed Z6f rfl fun hl T => ?_
 unfold Zyo
 simp only [go_sem,simprocAttr]
 refine Za h8 ?_
 simp only [go_sem,simprocAttr,c1]
 simp [Zf,Ze,Zi,Zg,Zh,Zd,Zc,Zb]
theorem Zbgk (n : Int) (k : Nat) (hk : k < 8) : b8 (n.fdiv (2 ^ (8 * k))) = b8 ((IntKind.wrap .u64 n).fdiv (2 ^ (8 * k))) := by
 have hw : IntKind.wrap .u64 n = n % 18446744073709551616 := by simp [IntKind.wrap,IntKind.bits,IntKind.signed]
 have hb : ∀ x : Int,b8 x = UInt8.ofNat (x % 256).toNat := fun x => by
  unfold b8
  have h : IntKind.wrap .u8 x = x % 256 := by simp [IntKind.wrap,IntKind.bits,IntKind.signed]
  rw [h]
 rw [hb,hb,hw]
 have key : n.fdiv (2 ^ (8 * k)) % 256 = (n % 18446744073709551616).fdiv (2 ^ (8 * k)) % 256 := by
  match k,hk with
  | 0,_ => simp only [Int.fdiv_eq_ediv_of_nonneg _ (show (0 : Int) ≤ 2 ^ (8 * 0) by decide)]; omega
  | 1,_ => simp only [Int.fdiv_eq_ediv_of_nonneg _ (show (0 : Int) ≤ 2 ^ (8 * 1) by decide)]; omega
  | 2,_ => simp only [Int.fdiv_eq_ediv_of_nonneg _ (show (0 : Int) ≤ 2 ^ (8 * 2) by decide)]; omega
  | 3,_ => simp only [Int.fdiv_eq_ediv_of_nonneg _ (show (0 : Int) ≤ 2 ^ (8 * 3) by decide)]; omega
  | 4,_ => simp only [Int.fdiv_eq_ediv_of_nonneg _ (show (0 : Int) ≤ 2 ^ (8 * 4) by decide)]; omega
  | 5,_ => simp only [Int.fdiv_eq_ediv_of_nonneg _ (show (0 : Int) ≤ 2 ^ (8 * 5) by decide)]; omega
  | 6,_ => simp only [Int.fdiv_eq_ediv_of_nonneg _ (show (0 : Int) ≤ 2 ^ (8 * 6) by decide)]; omega
  | 7,_ => simp only [Int.fdiv_eq_ediv_of_nonneg _ (show (0 : Int) ≤ 2 ^ (8 * 7) by decide)]; omega
 rw [key]
end Go.Proofs.YticmfblfghdkbaaGreatDoor.Eng
