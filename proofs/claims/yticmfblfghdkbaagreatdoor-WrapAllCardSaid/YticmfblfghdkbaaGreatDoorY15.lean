/- Parts of this claim's proof, joined. No statement of the seat is proved here. -/
import Derived.Test.YticmfblfghdkbaaGreatDoorY14
set_option linter.unusedVariables false
set_option linter.unusedSimpArgs false
namespace Go.Proofs.YticmfblfghdkbaaGreatDoor.Eng
open Go
theorem Zdg {a b : ByteArray} {H : Heap} (h : a.size + b.size ≤ 9223372036854775807) : vBin .add (sC a) (sC b) H = some (sC (a ++ b),H) := Zhh h
theorem Ziu (key s : ByteArray) (hk : key.size ≤ 1000000) (hs : s.size ≤ 100000000) : Pr 82 [sC key,sC s] (sC (macD key s)) := by
 refine Zl mixed Zbf9 rfl fun hl' T => ?_
 have hks := Z3a key
 have hx1 := Zun (keyD key) 54 hks
 have hx2 := Zun (keyD key) 92 hks
 have h1s := Zmb (keyD key) 54 hks
 have h2s := Zmb (keyD key) 92 hks
 have hsum1 := Zq1 (Zcl (keyD key) 54 ++ s) (by rw [ByteArray.size_append]; omega)
 have hsum2 := Zq1 (Zcl (keyD key) 92 ++ sumD (Zcl (keyD key) 54 ++ s)) (by rw [ByteArray.size_append,Zqe]; omega)
 have hs1 := Zqe (Zcl (keyD key) 54 ++ s)
 have hkey : 64 < key.size → Pr 70 [sC key] (sC (keyD key)) := fun h => by
  have := Zq1 key (by omega)
  unfold keyD
  rw [if_pos h]
  exact this
 have hkn : ¬ 64 < key.size → keyD key = key := fun h => by unfold keyD; rw [if_neg h]
 unfold macD
 generalize sumD (Zcl (keyD key) 92 ++ sumD (Zcl (keyD key) 54 ++ s)) = res at hsum2 ⊢
 generalize sumD (Zcl (keyD key) 54 ++ s) = s1 at hsum1 hsum2 hs1
 generalize Zcl (keyD key) 54 = x1 at hx1 hsum1 h1s
 generalize Zcl (keyD key) 92 = x2 at hx2 hsum2 h2s
 have c1 : ∀ H : Heap,vBin .add (sC x1) (sC s) H = some (sC (x1 ++ s),H) := fun H => Zdg (by omega)
 have c2 : ∀ H : Heap,vBin .add (sC x2) (sC s1) H = some (sC (x2 ++ s1),H) := fun H => Zdg (by omega)
 unfold Z6j
 by_cases h64 : 64 < key.size
 ·have hc : (64 : Int) < (key.size : Int) := by omega
  simp only [go_sem,reduceCtorEq,Nat.reduceEqDiff,Nat.reduceAdd,Nat.reduceSub,Nat.reduceMul,Nat.reduceLeDiff,Int.reduceEq,Int.reduceLT,Int.reduceLE,Int.reduceAdd,Int.reduceMul,Int.reduceSub,Int.reduceNeg,Int.reduceToNat,reduceIte,Nat.reduceLT,hc]
  refine Za (hkey h64) ?_
  simp only [go_sem,reduceCtorEq,Nat.reduceEqDiff,Nat.reduceAdd,Nat.reduceSub,Nat.reduceMul,Nat.reduceLeDiff,Int.reduceEq,Int.reduceLT,Int.reduceLE,Int.reduceAdd,Int.reduceMul,Int.reduceSub,Int.reduceNeg,Int.reduceToNat,reduceIte,Nat.reduceLT]
  refine Za hx2 ?_
  simp only [go_sem,reduceCtorEq,Nat.reduceEqDiff,Nat.reduceAdd,Nat.reduceSub,Nat.reduceMul,Nat.reduceLeDiff,Int.reduceEq,Int.reduceLT,Int.reduceLE,Int.reduceAdd,Int.reduceMul,Int.reduceSub,Int.reduceNeg,Int.reduceToNat,reduceIte,Nat.reduceLT]
  refine Za hx1 ?_
  simp only [go_sem,reduceCtorEq,Nat.reduceEqDiff,Nat.reduceAdd,Nat.reduceSub,Nat.reduceMul,Nat.reduceLeDiff,Int.reduceEq,Int.reduceLT,Int.reduceLE,Int.reduceAdd,Int.reduceMul,Int.reduceSub,Int.reduceNeg,Int.reduceToNat,reduceIte,Nat.reduceLT,c1]
  refine Za hsum1 ?_
  simp only [go_sem,reduceCtorEq,Nat.reduceEqDiff,Nat.reduceAdd,Nat.reduceSub,Nat.reduceMul,Nat.reduceLeDiff,Int.reduceEq,Int.reduceLT,Int.reduceLE,Int.reduceAdd,Int.reduceMul,Int.reduceSub,Int.reduceNeg,Int.reduceToNat,reduceIte,Nat.reduceLT,c2]
  refine Za hsum2 ?_
  simp only [go_sem,reduceCtorEq,Nat.reduceEqDiff,Nat.reduceAdd,Nat.reduceSub,Nat.reduceMul,Nat.reduceLeDiff,Int.reduceEq,Int.reduceLT,Int.reduceLE,Int.reduceAdd,Int.reduceMul,Int.reduceSub,Int.reduceNeg,Int.reduceToNat,reduceIte,Nat.reduceLT]
  simp [Zf,Ze,Zi,Zg,Zh,Zd,Zc,Zb]
 ·have hc : ¬ (64 : Int) < (key.size : Int) := by omega
  rw [hkn h64] at hx1 hx2
  simp only [go_sem,reduceCtorEq,Nat.reduceEqDiff,Nat.reduceAdd,Nat.reduceSub,Nat.reduceMul,Nat.reduceLeDiff,Int.reduceEq,Int.reduceLT,Int.reduceLE,Int.reduceAdd,Int.reduceMul,Int.reduceSub,Int.reduceNeg,Int.reduceToNat,reduceIte,Nat.reduceLT,hc]
  refine Za hx2 ?_
  simp only [go_sem,reduceCtorEq,Nat.reduceEqDiff,Nat.reduceAdd,Nat.reduceSub,Nat.reduceMul,Nat.reduceLeDiff,Int.reduceEq,Int.reduceLT,Int.reduceLE,Int.reduceAdd,Int.reduceMul,Int.reduceSub,Int.reduceNeg,Int.reduceToNat,reduceIte,Nat.reduceLT]
  refine Za hx1 ?_
  simp only [go_sem,reduceCtorEq,Nat.reduceEqDiff,Nat.reduceAdd,Nat.reduceSub,Nat.reduceMul,Nat.reduceLeDiff,Int.reduceEq,Int.reduceLT,Int.reduceLE,Int.reduceAdd,Int.reduceMul,Int.reduceSub,Int.reduceNeg,Int.reduceToNat,reduceIte,Nat.reduceLT,c1]
  refine Za hsum1 ?_
  simp only [go_sem,reduceCtorEq,Nat.reduceEqDiff,Nat.reduceAdd,Nat.reduceSub,Nat.reduceMul,Nat.reduceLeDiff,Int.reduceEq,Int.reduceLT,Int.reduceLE,Int.reduceAdd,Int.reduceMul,Int.reduceSub,Int.reduceNeg,Int.reduceToNat,reduceIte,Nat.reduceLT,c2]
  refine Za hsum2 ?_
  simp only [go_sem,reduceCtorEq,Nat.reduceEqDiff,Nat.reduceAdd,Nat.reduceSub,Nat.reduceMul,Nat.reduceLeDiff,Int.reduceEq,Int.reduceLT,Int.reduceLE,Int.reduceAdd,Int.reduceMul,Int.reduceSub,Int.reduceNeg,Int.reduceToNat,reduceIte,Nat.reduceLT]
  simp [Zf,Ze,Zi,Zg,Zh,Zd,Zc,Zb]
def der1 (salt key info : ByteArray) : ByteArray := macD (macD salt key) (info ++ baL [1])
def der2 (salt key info : ByteArray) : ByteArray := macD (macD salt key) (der1 salt key info ++ info ++ baL [2])
theorem Zqh (a b c : ByteArray) : (der1 a b c).size = 32 := rfl
theorem Z3s (a b c : ByteArray) : (der2 a b c).size = 32 := rfl
def Zqj (salt key info : ByteArray) : ByteArray := der1 salt key info ++ der2 salt key info
theorem Zbav (a b c : ByteArray) : (Zqj a b c).size = 64 := by rw [Zqj,ByteArray.size_append]; rfl
theorem Zmo {s : ByteArray} {n : Nat} (h : s.size = n) : s.extract 0 n = s := by subst h; exact ByteArray.extract_zero_size
theorem Zsg (s : ByteArray) : (⟨#[]⟩ : ByteArray) ++ s = s := ByteArray.empty_append
theorem Zwg (salt key info : ByteArray) (h1 : salt.size ≤ 1000000) (h2 : key.size ≤ 1000000) (h3 : info.size ≤ 1000000) : Pr 65 [sC salt,sC key,sC info,iC 32] (sC (der1 salt key info)) := by
 refine Zl mixed Zv1 rfl fun hl' T => ?_
 have m0 := Ziu salt key h1 (by omega)
 have s0 := Zev salt key
 have e1 : (baL [(1 : UInt8)]).size = 1 := rfl
 have m1 := Ziu (macD salt key) (info ++ baL [1]) (by omega) (by rw [ByteArray.size_append]; omega)
 have d1 : macD (macD salt key) (info ++ baL [1]) = der1 salt key info := rfl
 rw [d1] at m1
 have sd := Zqh salt key info
 generalize der1 salt key info = D at m1 sd ⊢
 generalize macD salt key = P at m0 m1 s0
 have c1 : ∀ H : Heap,vBin .add (sC ⟨#[]⟩) (sC info) H = some (sC info,H) := fun H => by rw [Zdg (by rw [show (⟨#[]⟩ : ByteArray).size = 0 from rfl]; omega),Zsg]
 have c2 : ∀ H : Heap,vBin .add (sC info) (sC (baL [1])) H = some (sC (info ++ baL [1]),H) := fun H => Zdg (by omega)
 have c3 : ∀ H : Heap,vBin .add (sC ⟨#[]⟩) (sC D) H = some (sC D,H) := fun H => by rw [Zdg (by rw [show (⟨#[]⟩ : ByteArray).size = 0 from rfl]; omega),Zsg]
 have b1 : IntKind.wrap .u8 1 = ((1 : UInt8).toNat : Int) := by decide
 have hz : (⟨#[]⟩ : ByteArray).size = 0 := rfl
 have hzz : (#[] : Array UInt8).size = 0 := rfl
 have hsd : (D.size : Int) = 32 := by omega
 have hsl : ∀ (e : Env) (H : Heap),e 42 = iC 32 → vSlS (sC D) e none (some (.t 42)) H = some (sC D,H) := fun e H he => by
  rw [Zf8 (k := 32) (ik := .i64) (by simpa [Opd.ev] using he) (by omega),Zmo sd]
 unfold Zrg
 simp only [go_sem,reduceCtorEq,Nat.reduceEqDiff,Nat.reduceAdd,Nat.reduceSub,Nat.reduceMul,Nat.reduceLeDiff,Int.reduceEq,Int.reduceLT,Int.reduceLE,Int.reduceAdd,Int.reduceMul,Int.reduceSub,Int.reduceNeg,Int.reduceToNat,reduceIte,Nat.reduceLT]
 refine Za m0 ?_
 simp only [go_sem,reduceCtorEq,Nat.reduceEqDiff,Nat.reduceAdd,Nat.reduceSub,Nat.reduceMul,Nat.reduceLeDiff,Int.reduceEq,Int.reduceLT,Int.reduceLE,Int.reduceAdd,Int.reduceMul,Int.reduceSub,Int.reduceNeg,Int.reduceToNat,reduceIte,Nat.reduceLT]
 refine Zj ?_
 conv => enter [3,1]; unfold Zgy
 simp only [go_sem,reduceCtorEq,Nat.reduceEqDiff,Nat.reduceAdd,Nat.reduceSub,Nat.reduceMul,Nat.reduceLeDiff,Int.reduceEq,Int.reduceLT,Int.reduceLE,Int.reduceAdd,Int.reduceMul,Int.reduceSub,Int.reduceNeg,Int.reduceToNat,reduceIte,Nat.reduceLT,hz,hzz,c1,b1,Zxb,c2]
 refine Za m1 ?_
 simp only [go_sem,reduceCtorEq,Nat.reduceEqDiff,Nat.reduceAdd,Nat.reduceSub,Nat.reduceMul,Nat.reduceLeDiff,Int.reduceEq,Int.reduceLT,Int.reduceLE,Int.reduceAdd,Int.reduceMul,Int.reduceSub,Int.reduceNeg,Int.reduceToNat,reduceIte,Nat.reduceLT,c3,Z1p]
 refine Zj ?_
 conv => enter [3,1]; unfold Zgy
 simp only [go_sem,reduceCtorEq,Nat.reduceEqDiff,Nat.reduceAdd,Nat.reduceSub,Nat.reduceMul,Nat.reduceLeDiff,Int.reduceEq,Int.reduceLT,Int.reduceLE,Int.reduceAdd,Int.reduceMul,Int.reduceSub,Int.reduceNeg,Int.reduceToNat,reduceIte,Nat.reduceLT,hsd]
 unfold Zp3
 simp only [go_sem,reduceCtorEq,Nat.reduceEqDiff,Nat.reduceAdd,Nat.reduceSub,Nat.reduceMul,Nat.reduceLeDiff,Int.reduceEq,Int.reduceLT,Int.reduceLE,Int.reduceAdd,Int.reduceMul,Int.reduceSub,Int.reduceNeg,Int.reduceToNat,reduceIte,Nat.reduceLT,hsl]
 simp [Zf,Ze,Zi,Zg,Zh,Zd,Zc,Zb]
theorem Z7b (salt key info : ByteArray) (h1 : salt.size ≤ 1000000) (h2 : key.size ≤ 1000000) (h3 : info.size ≤ 1000000) : Pr 65 [sC salt,sC key,sC info,iC 64] (sC (Zqj salt key info)) := by
 refine Zl mixed Zv1 rfl fun hl' T => ?_
 have m0 := Ziu salt key h1 (by omega)
 have s0 := Zev salt key
 have e1 : (baL [(1 : UInt8)]).size = 1 := rfl
 have e2 : (baL [(2 : UInt8)]).size = 1 := rfl
 have m1 := Ziu (macD salt key) (info ++ baL [1]) (by omega) (by rw [ByteArray.size_append]; omega)
 have d1 : macD (macD salt key) (info ++ baL [1]) = der1 salt key info := rfl
 rw [d1] at m1
 have sd := Zqh salt key info
 have m2 := Ziu (macD salt key) (der1 salt key info ++ info ++ baL [2]) (by omega) (by rw [ByteArray.size_append,ByteArray.size_append]; omega)
 have d2 : macD (macD salt key) (der1 salt key info ++ info ++ baL [2]) = der2 salt key info := rfl
 rw [d2] at m2
 have sd2 := Z3s salt key info
 have d64 : Zqj salt key info = der1 salt key info ++ der2 salt key info := rfl
 rw [d64]
 generalize der2 salt key info = D2 at m2 sd2 ⊢
 generalize der1 salt key info = D at m1 m2 sd ⊢
 generalize macD salt key = P at m0 m1 m2 s0
 have c1 : ∀ H : Heap,vBin .add (sC ⟨#[]⟩) (sC info) H = some (sC info,H) := fun H => by rw [Zdg (by rw [show (⟨#[]⟩ : ByteArray).size = 0 from rfl]; omega),Zsg]
 have c2 : ∀ H : Heap,vBin .add (sC info) (sC (baL [1])) H = some (sC (info ++ baL [1]),H) := fun H => Zdg (by omega)
 have c3 : ∀ H : Heap,vBin .add (sC ⟨#[]⟩) (sC D) H = some (sC D,H) := fun H => by rw [Zdg (by rw [show (⟨#[]⟩ : ByteArray).size = 0 from rfl]; omega),Zsg]
 have c4 : ∀ H : Heap,vBin .add (sC D) (sC info) H = some (sC (D ++ info),H) := fun H => Zdg (by omega)
 have c5 : ∀ H : Heap,vBin .add (sC (D ++ info)) (sC (baL [2])) H = some (sC (D ++ info ++ baL [2]),H) := fun H => Zdg (by rw [ByteArray.size_append]; omega)
 have c6 : ∀ H : Heap,vBin .add (sC D) (sC D2) H = some (sC (D ++ D2),H) := fun H => Zdg (by omega)
 have b1 : IntKind.wrap .u8 1 = ((1 : UInt8).toNat : Int) := by decide
 have b2 : IntKind.wrap .u8 2 = ((2 : UInt8).toNat : Int) := by decide
 have hz : (⟨#[]⟩ : ByteArray).size = 0 := rfl
 have hzz : (#[] : Array UInt8).size = 0 := rfl
 have hsd : (D.size : Int) = 32 := by omega
 have hs64 : (D ++ D2).size = 64 := by rw [ByteArray.size_append]; omega
 have hs64' : ((D ++ D2).size : Int) = 64 := by omega
 have hsl : ∀ (e : Env) (H : Heap),e 42 = iC 64 → vSlS (sC (D ++ D2)) e none (some (.t 42)) H = some (sC (D ++ D2),H) := fun e H he => by
  rw [Zf8 (k := 64) (ik := .i64) (by simpa [Opd.ev] using he) (by omega),Zmo hs64]
 generalize D ++ D2 = DD at c6 hs64 hs64' hsl ⊢
 unfold Zrg
 simp only [go_sem,reduceCtorEq,Nat.reduceEqDiff,Nat.reduceAdd,Nat.reduceSub,Nat.reduceMul,Nat.reduceLeDiff,Int.reduceEq,Int.reduceLT,Int.reduceLE,Int.reduceAdd,Int.reduceMul,Int.reduceSub,Int.reduceNeg,Int.reduceToNat,reduceIte,Nat.reduceLT]
 refine Za m0 ?_
 simp only [go_sem,reduceCtorEq,Nat.reduceEqDiff,Nat.reduceAdd,Nat.reduceSub,Nat.reduceMul,Nat.reduceLeDiff,Int.reduceEq,Int.reduceLT,Int.reduceLE,Int.reduceAdd,Int.reduceMul,Int.reduceSub,Int.reduceNeg,Int.reduceToNat,reduceIte,Nat.reduceLT]
 refine Zj ?_
 conv => enter [3,1]; unfold Zgy
 simp only [go_sem,reduceCtorEq,Nat.reduceEqDiff,Nat.reduceAdd,Nat.reduceSub,Nat.reduceMul,Nat.reduceLeDiff,Int.reduceEq,Int.reduceLT,Int.reduceLE,Int.reduceAdd,Int.reduceMul,Int.reduceSub,Int.reduceNeg,Int.reduceToNat,reduceIte,Nat.reduceLT,hz,hzz,c1,b1,Zxb,c2]
 refine Za m1 ?_
 simp only [go_sem,reduceCtorEq,Nat.reduceEqDiff,Nat.reduceAdd,Nat.reduceSub,Nat.reduceMul,Nat.reduceLeDiff,Int.reduceEq,Int.reduceLT,Int.reduceLE,Int.reduceAdd,Int.reduceMul,Int.reduceSub,Int.reduceNeg,Int.reduceToNat,reduceIte,Nat.reduceLT,c3,Z1p]
 refine Zj ?_
 conv => enter [3,1]; unfold Zgy
 simp only [go_sem,reduceCtorEq,Nat.reduceEqDiff,Nat.reduceAdd,Nat.reduceSub,Nat.reduceMul,Nat.reduceLeDiff,Int.reduceEq,Int.reduceLT,Int.reduceLE,Int.reduceAdd,Int.reduceMul,Int.reduceSub,Int.reduceNeg,Int.reduceToNat,reduceIte,Nat.reduceLT,hsd,c4,b2,Zxb,c5]
 refine Za m2 ?_
 simp only [go_sem,reduceCtorEq,Nat.reduceEqDiff,Nat.reduceAdd,Nat.reduceSub,Nat.reduceMul,Nat.reduceLeDiff,Int.reduceEq,Int.reduceLT,Int.reduceLE,Int.reduceAdd,Int.reduceMul,Int.reduceSub,Int.reduceNeg,Int.reduceToNat,reduceIte,Nat.reduceLT,c6,Z5t]
 refine Zj ?_
 conv => enter [3,1]; unfold Zgy
 simp only [go_sem,reduceCtorEq,Nat.reduceEqDiff,Nat.reduceAdd,Nat.reduceSub,Nat.reduceMul,Nat.reduceLeDiff,Int.reduceEq,Int.reduceLT,Int.reduceLE,Int.reduceAdd,Int.reduceMul,Int.reduceSub,Int.reduceNeg,Int.reduceToNat,reduceIte,Nat.reduceLT,hs64']
 unfold Zp3
 simp only [go_sem,reduceCtorEq,Nat.reduceEqDiff,Nat.reduceAdd,Nat.reduceSub,Nat.reduceMul,Nat.reduceLeDiff,Int.reduceEq,Int.reduceLT,Int.reduceLE,Int.reduceAdd,Int.reduceMul,Int.reduceSub,Int.reduceNeg,Int.reduceToNat,reduceIte,Nat.reduceLT,hsl]
 simp [Zf,Ze,Zi,Zg,Zh,Zd,Zc,Zb]
def Zh1 (l : List Int) (a b d : Nat) (n : Int) : List Int :=
 let m := l.set a (addW (l.getD a 0) (l.getD b 0))
 m.set d (rotW (xorW (m.getD d 0) (m.getD a 0)) n)
theorem Zih (l : List Int) (a b d : Nat) (n : Int) : (Zh1 l a b d n).length = l.length := by simp [Zh1]
def Zbn (l : List Int) (a b c d : Nat) : List Int := Zh1 (Zh1 (Zh1 (Zh1 l a b d 16) c d b 12) a b d 8) c d b 7
theorem Zb8 (l : List Int) (a b c d : Nat) : (Zbn l a b c d).length = l.length := by simp [Zbn,Zih]
def Zo4 (l : List Int) : List Int :=
 Zbn (Zbn (Zbn (Zbn (Zbn (Zbn (Zbn (Zbn l 0 4 8 12) 1 5 9 13) 2 6 10 14) 3 7 11 15) 0 5 10 15) 1 6 11 12) 2 7 8 13) 3 4 9 14
theorem Zbca (l : List Int) : (Zo4 l).length = l.length := by simp [Zo4,Zb8]
def Zga : Nat → List Int → List Int
 | 0,l => l
 | n + 1,l => Zga n (Zo4 l)
theorem Zyl : ∀ (n : Nat) (l : List Int),(Zga n l).length = l.length
 | 0,_ => rfl
 | n + 1,l => by rw [Zga,Zyl,Zbca]
def leW (s : ByteArray) (i : Nat) : Int := orW (orW (orW (Zb9 s i : Int) (shlW (Zb9 s (i + 1)) 8)) (shlW (Zb9 s (i + 2)) 16)) (shlW (Zb9 s (i + 3)) 24)
def Zur : ByteArray := ⟨#[101,120,112,97,110,100,32,51,50,45,98,121,116,101,32,107]⟩
def lesW (s : ByteArray) (n : Nat) : List Int := (List.range n).map fun i => leW s (4 * i)
theorem Zo8 (s : ByteArray) (n : Nat) : (lesW s n).length = n := by simp [lesW]
theorem Z3v (s : ByteArray) (n : Nat) : lesW s (n + 1) = lesW s n ++ [leW s (4 * n)] := by simp [lesW,List.range_succ]
def Zjx (key nonce : ByteArray) (ctr : Int) : List Int := lesW (Zur ++ key) 12 ++ IntKind.wrap .u32 ctr :: lesW nonce 3
theorem Zbdv (key nonce : ByteArray) (ctr : Int) : (Zjx key nonce ctr).length = 16 := by simp [Zjx,Zo8]
def Zfq (x : Int) : List UInt8 := [b8 x,b8 (shrW x 8),b8 (shrW x 16),b8 (shrW x 24)]
def Zq8 (a b : List Int) : List Int := (a.zip b).map fun p => addW p.1 p.2
def Ziq (key nonce : ByteArray) (ctr : Int) : List UInt8 := (Zq8 (Zjx key nonce ctr) (Zga 10 (Zjx key nonce ctr))).flatMap Zfq
theorem Z01 : ∀ l : List Int,(l.flatMap Zfq).length = 4 * l.length
 | [] => rfl
 | x :: l => by
  have := Z01 l
  simp only [List.flatMap_cons,List.length_append,this,List.length_cons,Zfq,List.length_nil]
  omega
theorem Zn7 (key nonce : ByteArray) (ctr : Int) : (Ziq key nonce ctr).length = 64 := by
 unfold Ziq
 rw [Z01]
 simp [Zq8,Zbdv,Zyl]
def Zjz (f : Nat → UInt8) : Nat → List UInt8 → List UInt8
 | _,[] => []
 | i,x :: l => (x ^^^ f i) :: Zjz f (i + 1) l
theorem Zqn (f : Nat → UInt8) : ∀ (i : Nat) (l : List UInt8),(Zjz f i l).length = l.length
 | _,[] => rfl
 | i,x :: l => by simp [Zjz,Zqn f (i + 1) l]
theorem Zyy (f : Nat → UInt8) : ∀ (i : Nat) (l : List UInt8),Zjz f i (Zjz f i l) = l
 | _,[] => rfl
 | i,x :: l => by
  have h : (x ^^^ f i) ^^^ f i = x := by rw [UInt8.xor_assoc,UInt8.xor_self,UInt8.xor_zero]
  simp [Zjz,Zyy f (i + 1) l,h]
def Zi5 (key nonce : ByteArray) (ctr : Nat) (i : Nat) : UInt8 := (Ziq key nonce ((ctr + i / 64 : Nat) : Int)).getD (i % 64) 0
def xorS (key nonce : ByteArray) (ctr : Nat) (s : ByteArray) : ByteArray := baL (Zjz (Zi5 key nonce ctr) 0 s.data.toList)
theorem Zbez (key nonce : ByteArray) (ctr : Nat) (s : ByteArray) : (xorS key nonce ctr s).size = s.size := by
 unfold xorS
 rw [Zdp,Zqn]; rfl
theorem Zbey (key nonce : ByteArray) (ctr : Nat) (s : ByteArray) : xorS key nonce ctr (xorS key nonce ctr s) = s := by
 unfold xorS
 rw [Zhg,Zyy,Zkf]
theorem Zbn1 {n : Int} (h : 0 ≤ n ∧ n ≤ 255) : IntKind.wrap .u8 n = n := by
 simp [IntKind.wrap,IntKind.bits,IntKind.signed]; omega
def one8 (n : Nat) : ByteArray := ⟨#[n.toUInt8]⟩
theorem Zl6 {n : Nat} {H : Heap} : vB2s (.c (.lst 1 [[.int .u8 (n : Int)]])) H = some (.c (.str (one8 n)),H) := by
 simp [vB2s,Z5,Heap.rowsOf,Zdy,one8]
def Zft : ACode := .seq (.seq (.region [im 11 3,ii 12 (.bin .geq (.t 11) (.k (.c (.int .u64 10))))] false) (.cond (.t 12) .skip (.exit 0))) (.block 1 (.seq (.region [im 13 3,ii 14 (.bin .rem (.t 13) (.k (.c (.int .u64 10)))),ii 15 (.bin .add (.k (.c (.int .u64 48))) (.t 14)),ii 16 (.conv .u8 (.t 15)),iz 17 (.lit 1 [.int .u8 0] 1 [(0,.t 16)]),ii 18 (.b2s (.t 17)),im 19 4,ibt 20 .add 18 19,im 4 20] false) (.region [im 21 3,ii 22 (.bin .quo (.t 21) (.k (.c (.int .u64 10)))),im 3 22] false)))
def Zk8 : ACode := .seq (.region [im 23 3,ii 24 (.bin .add (.k (.c (.int .u64 48))) (.t 23)),ii 25 (.conv .u8 (.t 24)),iz 26 (.lit 1 [.int .u8 0] 1 [(0,.t 25)]),ii 27 (.b2s (.t 26)),im 28 4,ibt 29 .add 27 28,im 4 29] false) (.seq (.seq (.region [im 30 0,ii 31 (.bin .lss (.t 30) (ki 0))] false) (.cond (.t 31) (.seq (.region [im 32 4,ii 33 (.bin .add (.k (.c (.str ⟨#[45]⟩))) (.t 32)),im 2 33] false) .ret) .skip)) (.seq (.region [im 34 4,im 2 34] false) .ret))
def Zy9 : AFun := ⟨[.tmp 2],.seq (.region [ii 2 (.mv (.k (.c (.str ⟨#[]⟩))))] false) (.seq (.region [im 5 0,ii 6 (.conv .u64 (.t 5)),im 3 6,ii 4 (.mv (.k (.c (.str ⟨#[]⟩))))] false) (.seq (.seq (.region [im 7 0,ii 8 (.bin .lss (.t 7) (ki 0))] false) (.cond (.t 8) (.region [im 9 3,ii 10 (.un .neg (.t 9)),im 3 10] false) .skip)) (.seq (.block 0 (.loop Zft)) Zk8)))⟩
theorem Z6m : Zm Tryz.prog 66 = some Zy9.erase := by kernel_rfl
theorem Zw2 {n : Int} (h : 0 ≤ n ∧ n ≤ 18446744073709551615) : IntKind.wrap .u64 n = n := by
 simp [IntKind.wrap,IntKind.bits,IntKind.signed]; omega
theorem Zge (n : Nat) : (one8 n).size = 1 := rfl
def digD (n : Nat) : ByteArray :=
 if n < 10 then one8 (48 + n) ++ ⟨#[]⟩ else if n < 100 then one8 (48 + n / 10) ++ (one8 (48 + n % 10) ++ ⟨#[]⟩) else one8 (48 + n / 10 / 10) ++ (one8 (48 + n / 10 % 10) ++ (one8 (48 + n % 10) ++ ⟨#[]⟩))
theorem Zqk (n : Nat) : (digD n).size ≤ 3 := by
 unfold digD
 split
 ·simp [ByteArray.size_append,Zge]; decide
 split
 ·simp [ByteArray.size_append,Zge]; decide
 ·simp [ByteArray.size_append,Zge]; decide
theorem Zva (n : Nat) (hn : n < 256) : Pr 66 [iC n] (sC (digD n)) := by
 refine Zl mixed Z6m rfl fun _ T => ?_
 unfold Zy9
 have w0 : IntKind.wrap .u64 (n : Int) = n := Zw2 (by omega)
 have c0 : ¬ ((n : Int) < 0) := by omega
 have se : (⟨#[]⟩ : ByteArray).size = 0 := rfl
 have rem : ∀ m : Nat,(m : Int).tmod 10 = ((m % 10 : Nat) : Int) := fun m => by rw [Int.tmod_eq_emod_of_nonneg (by omega)]; omega
 have quo : ∀ m : Nat,m < 256 → IntKind.wrap .u64 ((m : Int).tdiv 10) = ((m / 10 : Nat) : Int) := fun m h => by
  have : (m : Int).tdiv 10 = ((m / 10 : Nat) : Int) := by rw [Int.tdiv_eq_ediv_of_nonneg (by omega)]; omega
  rw [this,Zw2 (by omega)]
 have dg : ∀ m : Nat,m < 10 → IntKind.wrap .u8 (IntKind.wrap .u64 (48 + (m : Int))) = ((48 + m : Nat) : Int) := fun m h => by rw [Zw2 (by omega),Zbn1 (by omega)]; omega
 have cat1 : ∀ (m : Nat) (H : Heap),vBin .add (.c (.str (one8 m))) (.c (.str ⟨#[]⟩)) H = some (.c (.str (one8 m ++ ⟨#[]⟩)),H) := fun m H => Zhh (by rw [Zge,se]; omega)
 have cat2 : ∀ (m k : Nat) (H : Heap),vBin .add (.c (.str (one8 m))) (.c (.str (one8 k ++ ⟨#[]⟩))) H = some (.c (.str (one8 m ++ (one8 k ++ ⟨#[]⟩))),H) := fun m k H => Zhh (by rw [ByteArray.size_append,Zge,Zge,se]; omega)
 have cat3 : ∀ (m k j : Nat) (H : Heap),vBin .add (.c (.str (one8 m))) (.c (.str (one8 k ++ (one8 j ++ ⟨#[]⟩)))) H = some (.c (.str (one8 m ++ (one8 k ++ (one8 j ++ ⟨#[]⟩)))),H) := fun m k j H => Zhh (by rw [ByteArray.size_append,ByteArray.size_append,Zge,Zge,Zge,se]; omega)
 by_cases h1 : n < 10
 ·have hv : digD n = one8 (48 + n) ++ ⟨#[]⟩ := by unfold digD; rw [if_pos h1]
  have g1 : ¬ ((10 : Int) ≤ (n : Int)) := by omega
  have d1 := dg n h1
  simp only [go_sem,simprocAttr,w0,c0]
  refine Zj ?_
  conv => enter [3,1]; unfold Zft
  simp only [go_sem,simprocAttr,g1]
  unfold Zk8
  simp only [go_sem,simprocAttr,d1,Zl6,cat1,c0]
  rw [hv]
  simp [Zf,Ze,Zi,Zg,Zh,Zd,Zc,Zb]
 by_cases h2 : n < 100
 ·have hv : digD n = one8 (48 + n / 10) ++ (one8 (48 + n % 10) ++ ⟨#[]⟩) := by unfold digD; rw [if_neg h1,if_pos h2]
  have g1 : ((10 : Int) ≤ (n : Int)) := by omega
  have g2 : ¬ ((10 : Int) ≤ ((n / 10 : Nat) : Int)) := by omega
  have d1 := dg (n % 10) (by omega)
  have d2 := dg (n / 10) (by omega)
  have q1 := quo n hn
  simp only [go_sem,simprocAttr,w0,c0]
  refine Zj ?_
  conv => enter [3,1]; unfold Zft
  simp only [go_sem,simprocAttr,g1,Zdv,Zts,rem,d1,q1,Zl6,cat1]
  refine Zj ?_
  conv => enter [3,1]; unfold Zft
  simp only [go_sem,simprocAttr,g2]
  unfold Zk8
  simp only [go_sem,simprocAttr,d2,Zl6,cat2,c0]
  rw [hv]
  simp [Zf,Ze,Zi,Zg,Zh,Zd,Zc,Zb]
 ·have hv : digD n = one8 (48 + n / 10 / 10) ++ (one8 (48 + n / 10 % 10) ++ (one8 (48 + n % 10) ++ ⟨#[]⟩)) := by unfold digD; rw [if_neg h1,if_neg h2]
  have g1 : ((10 : Int) ≤ (n : Int)) := by omega
  have g2 : ((10 : Int) ≤ ((n / 10 : Nat) : Int)) := by omega
  have g3 : ¬ ((10 : Int) ≤ ((n / 10 / 10 : Nat) : Int)) := by omega
  have d1 := dg (n % 10) (by omega)
  have d2 := dg (n / 10 % 10) (by omega)
  have d3 := dg (n / 10 / 10) (by omega)
  have q1 := quo n hn
  have q2 := quo (n / 10) (by omega)
  simp only [go_sem,simprocAttr,w0,c0]
  refine Zj ?_
  conv => enter [3,1]; unfold Zft
  simp only [go_sem,simprocAttr,g1,Zdv,Zts,rem,d1,q1,Zl6,cat1]
  refine Zj ?_
  conv => enter [3,1]; unfold Zft
  simp only [go_sem,simprocAttr,g2,Zdv,Zts,rem,d2,q2,Zl6,cat2]
  refine Zj ?_
  conv => enter [3,1]; unfold Zft
  simp only [go_sem,simprocAttr,g3]
  unfold Zk8
  simp only [go_sem,simprocAttr,d3,Zl6,cat3,c0]
  rw [hv]
  simp [Zf,Ze,Zi,Zg,Zh,Zd,Zc,Zb]
structure Wrp where
 dev : Int
 box : ByteArray
structure Rec where
 seq : Int
 prev : ByteArray
 kind : Int
 dev : Int
 wraps : List Wrp
 tag : ByteArray
structure EKey where
 epoch : Int
 key : ByteArray
structure Hdr where
 epoch : Int
 frm : Int
 seq : Int
def Wrp.cells (w : Wrp) : List Cell := [.int .i64 w.dev,.str w.box]
def Zx (l : List Wrp) : Cell := .lst 2 (l.map Wrp.cells)
def Rec.cells (r : Rec) : List Cell := [.int .i64 r.seq,.str r.prev,.int .i64 r.kind,.int .i64 r.dev,Zx r.wraps,.str r.tag]
def Zw (l : List Rec) : Cell := .lst 6 (l.map Rec.cells)
def EKey.cells (k : EKey) : List Cell := [.int .i64 k.epoch,.str k.key]
def Zbj (l : List EKey) : Cell := .lst 2 (l.map EKey.cells)
def Hdr.cells (h : Hdr) : List Cell := [.int .i64 h.epoch,.int .i64 h.frm,.int .i64 h.seq]
def Ztu : Rec := ⟨0,Z2,0,0,[],Z2⟩
def Zhd : ByteArray := ⟨#[100,101,97,100,100,114,111,112]⟩
def digS (n : Int) : ByteArray := digD n.toNat
def ownW : ByteArray := ⟨#[111,119,110,32]⟩
def Zpe : ByteArray := ⟨#[101,112,111,99,104,32]⟩
def Z04 : ByteArray := ⟨#[119,114,97,112]⟩
def ownK (master : ByteArray) (n : Int) : ByteArray := der1 Zhd master (ownW ++ digS n)
def Zck (secret : ByteArray) (n : Int) : ByteArray := der1 Zhd secret (Zpe ++ digS n)
def Zdf (own : ByteArray) : ByteArray := Zqj Zhd own Z04
def Zf1 (n : Int) : List UInt8 := lowB (IntKind.wrap .u64 n) 8
theorem Zwc (n : Int) : (Zf1 n).length = 8 := Zdo _ _
def Zc6 (n : Int) : ByteArray := baL ([0,0,0,0] ++ Zf1 n)
theorem Z81 (n : Int) : (Zc6 n).size = 12 := rfl
def Zdw (key nonce ad c : ByteArray) : ByteArray := (macD (key.extract 32 key.size) (baL (Zf1 ad.size) ++ ad ++ nonce ++ c)).extract 0 16
theorem Zrc (key nonce ad c : ByteArray) : (Zdw key nonce ad c).size = 16 := by
 unfold Zdw
 rw [ByteArray.size_extract,Zev]
 omega
def Zm9 (key nonce : ByteArray) (n : Nat) : Prop := key.size = 64 ∧ nonce.size = 12 ∧ n ≤ 1048576
instance (key nonce : ByteArray) (n : Nat) : Decidable (Zm9 key nonce n) := by unfold Zm9; infer_instance
def Zc5 (key nonce s : ByteArray) : ByteArray := xorS (key.extract 0 32) nonce 1 s
theorem Zlg (key nonce s : ByteArray) : (Zc5 key nonce s).size = s.size := Zbez _ _ _ _
theorem Z95 (key nonce s : ByteArray) : Zc5 key nonce (Zc5 key nonce s) = s := Zbey _ _ _ _
def Zdj (key nonce ad plain : ByteArray) : ByteArray :=
 if Zm9 key nonce plain.size then Zc5 key nonce plain ++ Zdw key nonce ad (Zc5 key nonce plain) else Z2
def Zcr (key nonce ad s : ByteArray) : Option ByteArray :=
 if key.size = 64 ∧ nonce.size = 12 ∧ 16 ≤ s.size ∧ s.size ≤ 1048592 ∧ Zdw key nonce ad (s.extract 0 (s.size - 16)) = s.extract (s.size - 16) s.size then
  some (Zc5 key nonce (s.extract 0 (s.size - 16))) else none
theorem Z6c {a b : ByteArray} {n : Nat} (h : a.size = n) : (a ++ b).extract 0 n = a := ByteArray.extract_append_eq_left h.symm
theorem Z4z {a b : ByteArray} {n m : Nat} (h : a.size = n) (hm : m = (a ++ b).size) : (a ++ b).extract n m = b := ByteArray.extract_append_eq_right h.symm (by rw [hm,ByteArray.size_append])
theorem Z1y {key nonce ad plain : ByteArray} (h : Zm9 key nonce plain.size) : (Zdj key nonce ad plain).size = plain.size + 16 := by
 unfold Zdj
 rw [if_pos h,ByteArray.size_append,Zlg,Zrc]
theorem Zbgi {key nonce ad plain : ByteArray} (h : Zm9 key nonce plain.size) : Zcr key nonce ad (Zdj key nonce ad plain) = some plain := by
 have hs := Z1y (ad := ad) h
 have h' := h
 obtain ⟨h1,h2,h3⟩ := h'
 have e1 : (Zdj key nonce ad plain).extract 0 ((Zdj key nonce ad plain).size - 16) = Zc5 key nonce plain := by
  rw [hs]
  unfold Zdj
  rw [if_pos h]
  exact Z6c (by rw [Zlg]; omega)
 have e2 : (Zdj key nonce ad plain).extract ((Zdj key nonce ad plain).size - 16) (Zdj key nonce ad plain).size = Zdw key nonce ad (Zc5 key nonce plain) := by
  have e3 : Zdj key nonce ad plain = Zc5 key nonce plain ++ Zdw key nonce ad (Zc5 key nonce plain) := by unfold Zdj; rw [if_pos h]
  rw [e3] at hs ⊢
  refine Z4z (by rw [Zlg,hs]; omega) rfl
 unfold Zcr
 rw [e1,e2,if_pos ⟨h1,h2,by omega,by omega,rfl⟩,Z95]
theorem Zu5 (m : ByteArray) (n : Int) : (ownK m n).size = 32 := rfl
theorem Zjl (m : ByteArray) (n : Int) : (Zck m n).size = 32 := rfl
theorem Z1a (m : ByteArray) : (Zdf m).size = 64 := Zbav _ _ _
def Zcz : Option Int → List Wrp → Bool
 | _,[] => true
 | p,w :: l => decide (0 ≤ w.dev ∧ w.dev < 8 ∧ w.box.size ≤ 200) && (match p with | none => true | some q => decide (q < w.dev)) && Zcz (some w.dev) l
def Z9 (r : Rec) : Bool :=
 decide (1 ≤ r.seq ∧ r.seq ≤ 1048576) && decide (r.prev.size = 32 ∨ r.seq = 1 ∧ r.prev = Z2) && decide (r.kind = 1 ∨ r.kind = 2) && decide (0 ≤ r.dev ∧ r.dev < 8) && decide (r.tag.size = 16 ∨ r.tag = Z2) && Zcz none r.wraps
theorem Z3n : ∀ (l : List Wrp) (p : Int),-1 ≤ p → p < 8 → Zcz (some p) l = true → (l.length : Int) ≤ 7 - p
 | [],p,h0,h8,h => by simp; omega
 | w :: l,p,h0,h8,h => by
  simp only [Zcz,Bool.and_eq_true,decide_eq_true_eq] at h
  obtain ⟨⟨⟨h1,h2,h3⟩,h4⟩,h5⟩ := h
  have := Z3n l w.dev (by omega) h2 h5
  simp only [List.length_cons]
  omega
theorem Zbbq : ∀ (l : List Wrp),Zcz none l = true → Zcz (some (-1)) l = true
 | [],_ => rfl
 | w :: l,h => by
  simp only [Zcz,Bool.and_eq_true,decide_eq_true_eq] at h ⊢
  obtain ⟨⟨h1,_⟩,h5⟩ := h
  exact ⟨⟨h1,by omega⟩,h5⟩
theorem Zbcu {l : List Wrp} (h : Zcz none l = true) : l.length ≤ 8 := by
 have := Z3n l (-1) (by omega) (by omega) (Zbbq l h)
 omega
theorem Z32 : ∀ (l : List Wrp) (p : Option Int),Zcz p l = true → ∀ w ∈ l,0 ≤ w.dev ∧ w.dev < 8 ∧ w.box.size ≤ 200
 | [],p,h,w,hw => by simp at hw
 | x :: l,p,h,w,hw => by
  simp only [Zcz,Bool.and_eq_true,decide_eq_true_eq] at h
  obtain ⟨⟨h1,_⟩,h5⟩ := h
  rcases List.mem_cons.1 hw with rfl | hw
  ·exact h1
  ·exact Z32 l _ h5 w hw
def Zfr (r : Rec) : Wr := Zdm [numW r.seq,numW r.kind,numW r.dev,Zcn r.prev]
def Zdq (w : Wrp) : Wr := Zdm [numW w.dev,Zcn w.box]
def Zg9 (r : Rec) : Wr := Zdm [numW r.seq,Zcn r.prev,numW r.kind,numW r.dev,Zdm (r.wraps.map Zdq),Zcn r.tag]
def Zcp (r : Rec) : ByteArray := if Z9 r then baL (putL (Zfr r)) else Z2
def putR (r : Rec) : ByteArray := if Z9 r then baL (putL (Zg9 r)) else Z2
def Zkv (r : Rec) : ByteArray := sumD (putR r)
theorem Zbc1 (r : Rec) : (Zkv r).size = 32 := rfl
theorem Zin {r : Rec} (h : Z9 r = true) : r.prev.size ≤ 32 ∧ r.tag.size ≤ 16 ∧ r.wraps.length ≤ 8 ∧ (∀ w ∈ r.wraps,w.box.size ≤ 200) := by
 unfold Z9 at h
 simp only [Bool.and_eq_true,decide_eq_true_eq] at h
 obtain ⟨⟨⟨⟨⟨h1,h2⟩,h3⟩,h4⟩,h5⟩,h6⟩ := h
 refine ⟨?_,?_,Zbcu h6,fun w hw => (Z32 _ _ h6 w hw).2.2⟩
 ·rcases h2 with h2 | ⟨_,h2⟩
  ·omega
  ·rw [h2]; exact Nat.zero_le _
 ·rcases h5 with h5 | h5
  ·omega
  ·rw [h5]; exact Nat.zero_le _
theorem Zie (n : Int) (lim : Int) : Z6 (numW n) lim = true := by simp [numW,Z6,Z2]
theorem Zob {s : ByteArray} (lim : Int) (h : s.size ≤ 1048576) : Z6 (Zcn s) lim = true := by
 simp only [Zcn,Z6]
 simp
 omega
theorem Zod {l : List Wr} {lim : Int} (h1 : 1 ≤ lim) (h2 : l.length ≤ 65536) (h : Zfm l (lim - 1) = true) : Z6 (Zdm l) lim = true := by
 simp only [Zdm,Z6]
 rw [if_neg (by omega),if_neg (by omega),if_pos trivial,if_pos ⟨trivial,trivial,by omega,by omega⟩]
 exact h
theorem Zkx : ∀ (l : List Wr) (lim : Int),(∀ w ∈ l,Z6 w lim = true) → Zfm l lim = true
 | [],_,_ => rfl
 | w :: l,lim,h => by
  simp only [Zfm,h w (by simp),Zkx l lim fun x hx => h x (by simp [hx]),Bool.and_self]
theorem Z0v {r : Rec} (h : Z9 r = true) : Z6 (Zfr r) 6 = true := by
 have := Zin h
 refine Zod (by omega) (by simp) (Zkx _ _ fun w hw => ?_)
 simp only [List.mem_cons,List.not_mem_nil,or_false] at hw
 rcases hw with rfl | rfl | rfl | rfl
 ·exact Zie _ _
 ·exact Zie _ _
 ·exact Zie _ _
 ·exact Zob _ (by omega)
theorem Z4h {r : Rec} (h : Z9 r = true) : Z6 (Zg9 r) 6 = true := by
 obtain ⟨h1,h2,h3,h4⟩ := Zin h
 refine Zod (by omega) (by simp) (Zkx _ _ fun w hw => ?_)
 simp only [List.mem_cons,List.not_mem_nil,or_false] at hw
 rcases hw with rfl | rfl | rfl | rfl | rfl | rfl
 ·exact Zie _ _
 ·exact Zob _ (by omega)
 ·exact Zie _ _
 ·exact Zie _ _
 ·refine Zod (by omega) (by simp; omega) (Zkx _ _ fun w hw => ?_)
  obtain ⟨x,hx,rfl⟩ := List.mem_map.1 hw
  have := h4 x hx
  refine Zod (by omega) (by simp) (Zkx _ _ fun w hw => ?_)
  simp only [List.mem_cons,List.not_mem_nil,or_false] at hw
  rcases hw with rfl | rfl
  ·exact Zie _ _
  ·exact Zob _ (by omega)
 ·exact Zob _ (by omega)
def memF (epoch dev : Int) (b : Bool) (r : Rec) : Bool := if r.seq ≤ epoch ∧ r.dev = dev ∧ (r.kind = 1 ∨ r.kind = 2) then decide (r.kind = 1) else b
def memB (log : List Rec) (epoch dev : Int) : Bool := log.foldl (memF epoch dev) false
def memL (log : List Rec) (epoch dev : Int) : Bool := memB log epoch dev && decide (0 ≤ dev ∧ dev < 8)
def Zew : List Int := [0,1,2,3,4,5,6,7]
def Zcj (log : List Rec) (epoch : Int) : List Int := Zew.filter (memL log epoch)
theorem Zzj {d : Int} : d ∈ Zew ↔ 0 ≤ d ∧ d < 8 := by
 unfold Zew
 simp only [List.mem_cons,List.not_mem_nil,or_false]
 omega
theorem Zrw {log : List Rec} {epoch d : Int} : d ∈ Zcj log epoch ↔ memL log epoch d = true := by
 unfold Zcj
 rw [List.mem_filter,Zzj]
 constructor
 ·exact fun h => h.2
 ·intro h
  have h' := h
  unfold memL at h'
  simp only [Bool.and_eq_true,decide_eq_true_eq] at h'
  exact ⟨h'.2,h⟩
theorem Zkt (log : List Rec) (r : Rec) (epoch d : Int) : memB (log ++ [r]) epoch d = memF epoch d (memB log epoch d) r := by simp [memB,List.foldl_append]
theorem Zv2 : ∀ (log : List Rec) (b : Bool) (e1 e2 d : Int),(∀ r ∈ log,r.seq ≤ e1 ∧ r.seq ≤ e2) → log.foldl (memF e1 d) b = log.foldl (memF e2 d) b
 | [],_,_,_,_,_ => rfl
 | r :: l,b,e1,e2,d,h => by
  have h1 := h r (by simp)
  have : memF e1 d b r = memF e2 d b r := by
   unfold memF
   have : (r.seq ≤ e1 ∧ r.dev = d ∧ (r.kind = 1 ∨ r.kind = 2)) = (r.seq ≤ e2 ∧ r.dev = d ∧ (r.kind = 1 ∨ r.kind = 2)) := by
    apply propext
    constructor
    ·exact fun h => ⟨h1.2,h.2⟩
    ·exact fun h => ⟨h1.1,h.2⟩
   simp only [this]
  rw [List.foldl_cons,List.foldl_cons,this]
  exact Zv2 l _ e1 e2 d fun x hx => h x (by simp [hx])
def Zbl (log : List Rec) : ByteArray := match log.getLast? with | none => Z2 | some r => Zkv r
def Zfp (done : List Rec) (r : Rec) : Bool :=
 Z9 r && decide (r.seq = (done.length : Int) + 1) && decide (r.prev = Zbl done) && !(decide (done.length = 0) && (decide (r.kind ≠ 1) || decide (r.dev ≠ 0))) &&
  !(decide (r.kind = 1) && memL done done.length r.dev || decide (r.kind = 2) && (!memL done done.length r.dev || decide (r.dev = 0)))
def chk : List Rec → List Rec → Bool
 | _,[] => true
 | done,r :: l => Zfp done r && chk (done ++ [r]) l
def Zcx (log : List Rec) : Bool := decide (log.length ≤ 40) && chk [] log
theorem Z78 : ∀ (l done : List Rec) (r : Rec),chk done (l ++ [r]) = (chk done l && Zfp (done ++ l) r)
 | [],done,r => by simp [chk]
 | x :: l,done,r => by
  simp only [List.cons_append,chk,Z78 l,List.append_assoc,List.nil_append,Bool.and_assoc]
theorem Z2o : ∀ (l done : List Rec),chk done l = true → ∀ i r,l[i]? = some r → r.seq = ((done.length + i : Nat) : Int) + 1 ∧ Z9 r = true
 | [],done,h,i,r,hr => by simp at hr
 | x :: l,done,h,i,r,hr => by
  simp only [chk,Bool.and_eq_true] at h
  match i with
  | 0 =>
   simp at hr
   subst hr
   have h1 := h.1
   unfold Zfp at h1
   simp only [Bool.and_eq_true,decide_eq_true_eq] at h1
   exact ⟨h1.1.1.1.2,h1.1.1.1.1⟩
  | i + 1 =>
   have := Z2o l (done ++ [x]) h.2 i r (by simpa using hr)
   simp only [List.length_append,List.length_singleton] at this
   refine ⟨?_,this.2⟩
   rw [this.1]
   omega
def tagR (key : ByteArray) (r : Rec) : ByteArray := if Z9 r then (macD key (putR { r with tag := Z2 })).extract 0 16 else Z2
def Zbp (log : List Rec) (kind dev : Int) : Rec := ⟨(log.length : Int) + 1,Zbl log,kind,dev,[],Z2⟩
def Zeo (secret master : ByteArray) (r : Rec) (m : Int) : Wrp := ⟨m,Zdj (Zdf (ownK master m)) (Zc6 r.seq) (Zcp r) (Zck secret r.seq)⟩
def Zd1 (secret master : ByteArray) (log : List Rec) (kind dev : Int) : Rec :=
 { Zbp log kind dev with wraps := (Zcj (log ++ [Zbp log kind dev]) ((log.length : Int) + 1)).map (Zeo secret master (Zbp log kind dev)) }
def Zci (secret master : ByteArray) (log : List Rec) (kind dev : Int) : Rec :=
 if log.length = 0 then Zd1 secret master log kind dev
 else { Zd1 secret master log kind dev with tag := tagR (Zck secret log.length) (Zd1 secret master log kind dev) }
def Zcv (log : List Rec) (kind dev : Int) : Int :=
 if (kind ≠ 1 ∧ kind ≠ 2) ∨ dev < 0 ∨ 8 ≤ dev ∨ Zcx log = false ∨ (log.length = 0 ∧ (kind ≠ 1 ∨ dev ≠ 0)) ∨ (kind = 2 ∧ dev = 0) then 1
 else if kind = 1 ∧ memL log log.length dev = true then 3
 else if kind = 2 ∧ memL log log.length dev = false then 2
 else if 40 ≤ log.length then 12
 else 0
def Ze3 (secret master : ByteArray) (log : List Rec) (kind dev : Int) : Rec := if Zcv log kind dev = 0 then Zci secret master log kind dev else Ztu
def Zfz (own : ByteArray) (r : Rec) (dev : Int) : Option ByteArray :=
 match r.wraps.find? fun w => decide (w.dev = dev) with
 | none => none
 | some w => match Zcr (Zdf own) (Zc6 r.seq) (Zcp r) w.box with
  | none => none
  | some k => if k.size = 32 then some k else none
def Zde : List EKey → Bool
 | [] => true
 | [_] => true
 | a :: b :: l => decide (a.epoch < b.epoch) && Zde (b :: l)
def Zh3 (l : List EKey) (epoch : Int) : Option ByteArray := (l.find? fun k => decide (k.epoch = epoch)).map EKey.key
deriving instance DecidableEq for Wrp
deriving instance DecidableEq for Rec
deriving instance DecidableEq for EKey
deriving instance DecidableEq for Hdr
def Zjr : Option ByteArray → Rec → Bool
 | none,_ => false
 | some k,r => decide (r.tag ≠ tagR k r)
def Zld (log : List Rec) (keys : List EKey) (own : ByteArray) (id : Int) (r : Rec) : Int :=
 if Zcx log = false ∨ Zde keys = false then 1
 else match log.find? fun x => decide (x.seq = r.seq) with
 | some x => if x = r then 10 else 11
 | none =>
  if (log.length : Int) + 1 < r.seq then 6
  else if Zcx (log ++ [r]) = false then 11
  else if Zjr (Zh3 keys log.length) r = true then 9
  else if memL (log ++ [r]) ((log.length : Int) + 1) id = true ∧ Zfz own r id = none then 9
  else 0
def Zf7 (log : List Rec) (keys : List EKey) (own : ByteArray) (id : Int) (r : Rec) : List Rec := if Zld log keys own id r = 0 then log ++ [r] else log
def Ze5 (log : List Rec) (keys : List EKey) (own : ByteArray) (id : Int) (r : Rec) : List EKey :=
 if Zld log keys own id r = 0 ∧ memL (log ++ [r]) ((log.length : Int) + 1) id = true then keys ++ [⟨(log.length : Int) + 1,(Zfz own r id).getD Z2⟩] else keys
theorem Zl0 (hm : Tryz.prog.follows .mixedOrders = true) {f : Nat} {a : AFun} (hf : Zm Tryz.prog f = some a.erase) {args : List AVal} {H : Heap} {R : AVal → Heap → Prop}
  (h : ∀ T,Run (Zu Tryz.prog T) ⟨a.res,R⟩ [.code a.body] (Zdl args) H) : ∃ v H',CallSound Tryz.prog f args H v H' ∧ R v H' := by
 obtain ⟨u,E,h1,h2⟩ := Zs6 (G := P1 Tryz.prog f a) (f := f) (by simp [P1,Zu,one]) (h _)
 exact ⟨u,E,Z0u (Zz0 hf) hm h1,h2⟩
end Go.Proofs.YticmfblfghdkbaaGreatDoor.Eng
