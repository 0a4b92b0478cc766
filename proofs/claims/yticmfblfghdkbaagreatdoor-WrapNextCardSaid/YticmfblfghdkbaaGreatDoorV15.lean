/- Parts of this claim's proof, joined. No statement of the seat is proved here. -/
import Derived.Test.YticmfblfghdkbaaGreatDoorV14
set_option linter.unusedVariables false
set_option linter.unusedSimpArgs false
namespace Go.Proofs.YticmfblfghdkbaaGreatDoor.Eng
open Go
theorem Zc0 {a b : ByteArray} {H : Heap} (h : a.size + b.size ≤ 9223372036854775807) : vBin .add (sC a) (sC b) H = some (sC (a ++ b),H) := Zgc h
theorem Zho (key s : ByteArray) (hk : key.size ≤ 1000000) (hs : s.size ≤ 100000000) : Pr 82 [sC key,sC s] (sC (macD key s)) := by
 refine Zl mixed Z99 rfl fun hl' T => ?_
 have hks := Z0u key
 have hx1 := Zue (keyD key) 54 hks
 have hx2 := Zue (keyD key) 92 hks
 have h1s := Zk2 (keyD key) 54 hks
 have h2s := Zk2 (keyD key) 92 hks
 have hsum1 := Zo4 (Zcd (keyD key) 54 ++ s) (by rw [ByteArray.size_append]; omega)
 have hsum2 := Zo4 (Zcd (keyD key) 92 ++ sumD (Zcd (keyD key) 54 ++ s)) (by rw [ByteArray.size_append,Zo0]; omega)
 have hs1 := Zo0 (Zcd (keyD key) 54 ++ s)
 have hkey : 64 < key.size → Pr 70 [sC key] (sC (keyD key)) := fun h => by
  have := Zo4 key (by omega)
  unfold keyD
  rw [if_pos h]
  exact this
 have hkn : ¬ 64 < key.size → keyD key = key := fun h => by unfold keyD; rw [if_neg h]
 unfold macD
 generalize sumD (Zcd (keyD key) 92 ++ sumD (Zcd (keyD key) 54 ++ s)) = res at hsum2 ⊢
 generalize sumD (Zcd (keyD key) 54 ++ s) = s1 at hsum1 hsum2 hs1
 generalize Zcd (keyD key) 54 = x1 at hx1 hsum1 h1s
 generalize Zcd (keyD key) 92 = x2 at hx2 hsum2 h2s
 have c1 : ∀ H : Heap,vBin .add (sC x1) (sC s) H = some (sC (x1 ++ s),H) := fun H => Zc0 (by omega)
 have c2 : ∀ H : Heap,vBin .add (sC x2) (sC s1) H = some (sC (x2 ++ s1),H) := fun H => Zc0 (by omega)
 unfold Z4y
 by_cases h64 : 64 < key.size
 ·have hc : (64 : Int) < (key.size : Int) := by omega
  simp only [go_sem,reduceCtorEq,Nat.reduceEqDiff,Nat.reduceAdd,Nat.reduceSub,Nat.reduceMul,Nat.reduceLeDiff,Int.reduceEq,Int.reduceLT,Int.reduceLE,Int.reduceAdd,Int.reduceMul,Int.reduceSub,Int.reduceNeg,Int.reduceToNat,reduceIte,Nat.reduceLT,hc]
  refine Za (hkey h64) ?_
  simp only [go_sem,reduceCtorEq,Nat.reduceEqDiff,Nat.reduceAdd,Nat.reduceSub,Nat.reduceMul,Nat.reduceLeDiff,Int.reduceEq,Int.reduceLT,Int.reduceLE,Int.reduceAdd,Int.reduceMul,Int.reduceSub,Int.reduceNeg,Int.reduceToNat,reduceIte,Nat.reduceLT]
  refine Za hx2 ?_
  simp only [go_sem,reduceCtorEq,Nat.reduceEqDiff,Nat.reduceAdd,Nat.reduceSub,Nat.reduceMul,Nat.reduceLeDiff,Int.reduceEq,Int.reduceLT,Int.reduceLE,Int.reduceAdd,Int.reduceMul,Int.reduceSub,Int.reduceNeg,Int.reduceToNat,reduceIte,Nat.reduceLT]
  refine Za hx1 ?_
  simp only [go_sem,reduceCtorEq,Nat.reduceEqDiff,Nat.reduceAdd,Nat.reduceSub,Nat.reduceMul,Nat.reduceLeDiff,Int.reduceEq,Int.reduceLT,Int.reduceLE,Int.reduceAdd,Int.reduceMul,Int.reduceSub,Int.reduceNeg,Int.reduceToNat,reduceIte,Nat.reduceLT,c1]
  refine Za hsum1 ?_
  simp only [go_sem,reduceCtorEq,Nat.reduceEqDiff,Nat.reduceAdd,Nat.reduceSub,Nat.reduceMul,Nat.reduceLeDiff,Int.reduceEq,Int.reduceLT,Int.reduceLE,Int.reduceAdd,Int.reduceMul,Int.reduceSub,Int.reduceNeg,Int.reduceToNat,reduceIte,Nat.reduceLT,c2]
  refine Za hsum2 ?_
  simp only [go_sem,reduceCtorEq,Nat.reduceEqDiff,Nat.reduceAdd,Nat.reduceSub,Nat.reduceMul,Nat.reduceLeDiff,Int.reduceEq,Int.reduceLT,Int.reduceLE,Int.reduceAdd,Int.reduceMul,Int.reduceSub,Int.reduceNeg,Int.reduceToNat,reduceIte,Nat.reduceLT]
  simp [Zf,Ze,Zk,Zg,Zh,Zd,Zc,Zb]
 ·have hc : ¬ (64 : Int) < (key.size : Int) := by omega
  rw [hkn h64] at hx1 hx2
  simp only [go_sem,reduceCtorEq,Nat.reduceEqDiff,Nat.reduceAdd,Nat.reduceSub,Nat.reduceMul,Nat.reduceLeDiff,Int.reduceEq,Int.reduceLT,Int.reduceLE,Int.reduceAdd,Int.reduceMul,Int.reduceSub,Int.reduceNeg,Int.reduceToNat,reduceIte,Nat.reduceLT,hc]
  refine Za hx2 ?_
  simp only [go_sem,reduceCtorEq,Nat.reduceEqDiff,Nat.reduceAdd,Nat.reduceSub,Nat.reduceMul,Nat.reduceLeDiff,Int.reduceEq,Int.reduceLT,Int.reduceLE,Int.reduceAdd,Int.reduceMul,Int.reduceSub,Int.reduceNeg,Int.reduceToNat,reduceIte,Nat.reduceLT]
  refine Za hx1 ?_
  simp only [go_sem,reduceCtorEq,Nat.reduceEqDiff,Nat.reduceAdd,Nat.reduceSub,Nat.reduceMul,Nat.reduceLeDiff,Int.reduceEq,Int.reduceLT,Int.reduceLE,Int.reduceAdd,Int.reduceMul,Int.reduceSub,Int.reduceNeg,Int.reduceToNat,reduceIte,Nat.reduceLT,c1]
  refine Za hsum1 ?_
  simp only [go_sem,reduceCtorEq,Nat.reduceEqDiff,Nat.reduceAdd,Nat.reduceSub,Nat.reduceMul,Nat.reduceLeDiff,Int.reduceEq,Int.reduceLT,Int.reduceLE,Int.reduceAdd,Int.reduceMul,Int.reduceSub,Int.reduceNeg,Int.reduceToNat,reduceIte,Nat.reduceLT,c2]
  refine Za hsum2 ?_
  simp only [go_sem,reduceCtorEq,Nat.reduceEqDiff,Nat.reduceAdd,Nat.reduceSub,Nat.reduceMul,Nat.reduceLeDiff,Int.reduceEq,Int.reduceLT,Int.reduceLE,Int.reduceAdd,Int.reduceMul,Int.reduceSub,Int.reduceNeg,Int.reduceToNat,reduceIte,Nat.reduceLT]
  simp [Zf,Ze,Zk,Zg,Zh,Zd,Zc,Zb]
def der1 (salt key info : ByteArray) : ByteArray := macD (macD salt key) (info ++ baL [1])
def der2 (salt key info : ByteArray) : ByteArray := macD (macD salt key) (der1 salt key info ++ info ++ baL [2])
theorem Zoq (a b c : ByteArray) : (der1 a b c).size = 32 := rfl
theorem Z0h (a b c : ByteArray) : (der2 a b c).size = 32 := rfl
def Zo1 (salt key info : ByteArray) : ByteArray := der1 salt key info ++ der2 salt key info
theorem Z8v (a b c : ByteArray) : (Zo1 a b c).size = 64 := by rw [Zo1,ByteArray.size_append]; rfl
theorem Zk0 {s : ByteArray} {n : Nat} (h : s.size = n) : s.extract 0 n = s := by subst h; exact ByteArray.extract_zero_size
theorem Zqn (s : ByteArray) : (⟨#[]⟩ : ByteArray) ++ s = s := ByteArray.empty_append
theorem Zsv (salt key info : ByteArray) (h1 : salt.size ≤ 1000000) (h2 : key.size ≤ 1000000) (h3 : info.size ≤ 1000000) : Pr 65 [sC salt,sC key,sC info,iC 32] (sC (der1 salt key info)) := by
 refine Zl mixed Ztp rfl fun hl' T => ?_
 have m0 := Zho salt key h1 (by omega)
 have s0 := Zee salt key
 have e1 : (baL [(1 : UInt8)]).size = 1 := rfl
 have m1 := Zho (macD salt key) (info ++ baL [1]) (by omega) (by rw [ByteArray.size_append]; omega)
 have d1 : macD (macD salt key) (info ++ baL [1]) = der1 salt key info := rfl
 rw [d1] at m1
 have sd := Zoq salt key info
 generalize der1 salt key info = D at m1 sd ⊢
 generalize macD salt key = P at m0 m1 s0
 have c1 : ∀ H : Heap,vBin .add (sC ⟨#[]⟩) (sC info) H = some (sC info,H) := fun H => by rw [Zc0 (by rw [show (⟨#[]⟩ : ByteArray).size = 0 from rfl]; omega),Zqn]
 have c2 : ∀ H : Heap,vBin .add (sC info) (sC (baL [1])) H = some (sC (info ++ baL [1]),H) := fun H => Zc0 (by omega)
 have c3 : ∀ H : Heap,vBin .add (sC ⟨#[]⟩) (sC D) H = some (sC D,H) := fun H => by rw [Zc0 (by rw [show (⟨#[]⟩ : ByteArray).size = 0 from rfl]; omega),Zqn]
 have b1 : IntKind.wrap .u8 1 = ((1 : UInt8).toNat : Int) := by decide
 have hz : (⟨#[]⟩ : ByteArray).size = 0 := rfl
 have hzz : (#[] : Array UInt8).size = 0 := rfl
 have hsd : (D.size : Int) = 32 := by omega
 have hsl : ∀ (e : Env) (H : Heap),e 42 = iC 32 → vSlS (sC D) e none (some (.t 42)) H = some (sC D,H) := fun e H he => by
  rw [Zic (k := 32) (ik := .i64) (by simpa [Opd.ev] using he) (by omega),Zk0 sd]
 unfold Zpl
 simp only [go_sem,reduceCtorEq,Nat.reduceEqDiff,Nat.reduceAdd,Nat.reduceSub,Nat.reduceMul,Nat.reduceLeDiff,Int.reduceEq,Int.reduceLT,Int.reduceLE,Int.reduceAdd,Int.reduceMul,Int.reduceSub,Int.reduceNeg,Int.reduceToNat,reduceIte,Nat.reduceLT]
 refine Za m0 ?_
 simp only [go_sem,reduceCtorEq,Nat.reduceEqDiff,Nat.reduceAdd,Nat.reduceSub,Nat.reduceMul,Nat.reduceLeDiff,Int.reduceEq,Int.reduceLT,Int.reduceLE,Int.reduceAdd,Int.reduceMul,Int.reduceSub,Int.reduceNeg,Int.reduceToNat,reduceIte,Nat.reduceLT]
 refine Zi ?_
 conv => enter [3,1]; unfold Zf6
 simp only [go_sem,reduceCtorEq,Nat.reduceEqDiff,Nat.reduceAdd,Nat.reduceSub,Nat.reduceMul,Nat.reduceLeDiff,Int.reduceEq,Int.reduceLT,Int.reduceLE,Int.reduceAdd,Int.reduceMul,Int.reduceSub,Int.reduceNeg,Int.reduceToNat,reduceIte,Nat.reduceLT,hz,hzz,c1,b1,Zuk,c2]
 refine Za m1 ?_
 simp only [go_sem,reduceCtorEq,Nat.reduceEqDiff,Nat.reduceAdd,Nat.reduceSub,Nat.reduceMul,Nat.reduceLeDiff,Int.reduceEq,Int.reduceLT,Int.reduceLE,Int.reduceAdd,Int.reduceMul,Int.reduceSub,Int.reduceNeg,Int.reduceToNat,reduceIte,Nat.reduceLT,c3,Zza]
 refine Zi ?_
 conv => enter [3,1]; unfold Zf6
 simp only [go_sem,reduceCtorEq,Nat.reduceEqDiff,Nat.reduceAdd,Nat.reduceSub,Nat.reduceMul,Nat.reduceLeDiff,Int.reduceEq,Int.reduceLT,Int.reduceLE,Int.reduceAdd,Int.reduceMul,Int.reduceSub,Int.reduceNeg,Int.reduceToNat,reduceIte,Nat.reduceLT,hsd]
 unfold Znh
 simp only [go_sem,reduceCtorEq,Nat.reduceEqDiff,Nat.reduceAdd,Nat.reduceSub,Nat.reduceMul,Nat.reduceLeDiff,Int.reduceEq,Int.reduceLT,Int.reduceLE,Int.reduceAdd,Int.reduceMul,Int.reduceSub,Int.reduceNeg,Int.reduceToNat,reduceIte,Nat.reduceLT,hsl]
 simp [Zf,Ze,Zk,Zg,Zh,Zd,Zc,Zb]
theorem Z4g (salt key info : ByteArray) (h1 : salt.size ≤ 1000000) (h2 : key.size ≤ 1000000) (h3 : info.size ≤ 1000000) : Pr 65 [sC salt,sC key,sC info,iC 64] (sC (Zo1 salt key info)) := by
 refine Zl mixed Ztp rfl fun hl' T => ?_
 have m0 := Zho salt key h1 (by omega)
 have s0 := Zee salt key
 have e1 : (baL [(1 : UInt8)]).size = 1 := rfl
 have e2 : (baL [(2 : UInt8)]).size = 1 := rfl
 have m1 := Zho (macD salt key) (info ++ baL [1]) (by omega) (by rw [ByteArray.size_append]; omega)
 have d1 : macD (macD salt key) (info ++ baL [1]) = der1 salt key info := rfl
 rw [d1] at m1
 have sd := Zoq salt key info
 have m2 := Zho (macD salt key) (der1 salt key info ++ info ++ baL [2]) (by omega) (by rw [ByteArray.size_append,ByteArray.size_append]; omega)
 have d2 : macD (macD salt key) (der1 salt key info ++ info ++ baL [2]) = der2 salt key info := rfl
 rw [d2] at m2
 have sd2 := Z0h salt key info
 have d64 : Zo1 salt key info = der1 salt key info ++ der2 salt key info := rfl
 rw [d64]
 generalize der2 salt key info = D2 at m2 sd2 ⊢
 generalize der1 salt key info = D at m1 m2 sd ⊢
 generalize macD salt key = P at m0 m1 m2 s0
 have c1 : ∀ H : Heap,vBin .add (sC ⟨#[]⟩) (sC info) H = some (sC info,H) := fun H => by rw [Zc0 (by rw [show (⟨#[]⟩ : ByteArray).size = 0 from rfl]; omega),Zqn]
 have c2 : ∀ H : Heap,vBin .add (sC info) (sC (baL [1])) H = some (sC (info ++ baL [1]),H) := fun H => Zc0 (by omega)
 have c3 : ∀ H : Heap,vBin .add (sC ⟨#[]⟩) (sC D) H = some (sC D,H) := fun H => by rw [Zc0 (by rw [show (⟨#[]⟩ : ByteArray).size = 0 from rfl]; omega),Zqn]
 have c4 : ∀ H : Heap,vBin .add (sC D) (sC info) H = some (sC (D ++ info),H) := fun H => Zc0 (by omega)
 have c5 : ∀ H : Heap,vBin .add (sC (D ++ info)) (sC (baL [2])) H = some (sC (D ++ info ++ baL [2]),H) := fun H => Zc0 (by rw [ByteArray.size_append]; omega)
 have c6 : ∀ H : Heap,vBin .add (sC D) (sC D2) H = some (sC (D ++ D2),H) := fun H => Zc0 (by omega)
 have b1 : IntKind.wrap .u8 1 = ((1 : UInt8).toNat : Int) := by decide
 have b2 : IntKind.wrap .u8 2 = ((2 : UInt8).toNat : Int) := by decide
 have hz : (⟨#[]⟩ : ByteArray).size = 0 := rfl
 have hzz : (#[] : Array UInt8).size = 0 := rfl
 have hsd : (D.size : Int) = 32 := by omega
 have hs64 : (D ++ D2).size = 64 := by rw [ByteArray.size_append]; omega
 have hs64' : ((D ++ D2).size : Int) = 64 := by omega
 have hsl : ∀ (e : Env) (H : Heap),e 42 = iC 64 → vSlS (sC (D ++ D2)) e none (some (.t 42)) H = some (sC (D ++ D2),H) := fun e H he => by
  rw [Zic (k := 64) (ik := .i64) (by simpa [Opd.ev] using he) (by omega),Zk0 hs64]
 generalize D ++ D2 = DD at c6 hs64 hs64' hsl ⊢
 unfold Zpl
 simp only [go_sem,reduceCtorEq,Nat.reduceEqDiff,Nat.reduceAdd,Nat.reduceSub,Nat.reduceMul,Nat.reduceLeDiff,Int.reduceEq,Int.reduceLT,Int.reduceLE,Int.reduceAdd,Int.reduceMul,Int.reduceSub,Int.reduceNeg,Int.reduceToNat,reduceIte,Nat.reduceLT]
 refine Za m0 ?_
 simp only [go_sem,reduceCtorEq,Nat.reduceEqDiff,Nat.reduceAdd,Nat.reduceSub,Nat.reduceMul,Nat.reduceLeDiff,Int.reduceEq,Int.reduceLT,Int.reduceLE,Int.reduceAdd,Int.reduceMul,Int.reduceSub,Int.reduceNeg,Int.reduceToNat,reduceIte,Nat.reduceLT]
 refine Zi ?_
 conv => enter [3,1]; unfold Zf6
 simp only [go_sem,reduceCtorEq,Nat.reduceEqDiff,Nat.reduceAdd,Nat.reduceSub,Nat.reduceMul,Nat.reduceLeDiff,Int.reduceEq,Int.reduceLT,Int.reduceLE,Int.reduceAdd,Int.reduceMul,Int.reduceSub,Int.reduceNeg,Int.reduceToNat,reduceIte,Nat.reduceLT,hz,hzz,c1,b1,Zuk,c2]
 refine Za m1 ?_
 simp only [go_sem,reduceCtorEq,Nat.reduceEqDiff,Nat.reduceAdd,Nat.reduceSub,Nat.reduceMul,Nat.reduceLeDiff,Int.reduceEq,Int.reduceLT,Int.reduceLE,Int.reduceAdd,Int.reduceMul,Int.reduceSub,Int.reduceNeg,Int.reduceToNat,reduceIte,Nat.reduceLT,c3,Zza]
 refine Zi ?_
 conv => enter [3,1]; unfold Zf6
 simp only [go_sem,reduceCtorEq,Nat.reduceEqDiff,Nat.reduceAdd,Nat.reduceSub,Nat.reduceMul,Nat.reduceLeDiff,Int.reduceEq,Int.reduceLT,Int.reduceLE,Int.reduceAdd,Int.reduceMul,Int.reduceSub,Int.reduceNeg,Int.reduceToNat,reduceIte,Nat.reduceLT,hsd,c4,b2,Zuk,c5]
 refine Za m2 ?_
 simp only [go_sem,reduceCtorEq,Nat.reduceEqDiff,Nat.reduceAdd,Nat.reduceSub,Nat.reduceMul,Nat.reduceLeDiff,Int.reduceEq,Int.reduceLT,Int.reduceLE,Int.reduceAdd,Int.reduceMul,Int.reduceSub,Int.reduceNeg,Int.reduceToNat,reduceIte,Nat.reduceLT,c6,Z2t]
 refine Zi ?_
 conv => enter [3,1]; unfold Zf6
 simp only [go_sem,reduceCtorEq,Nat.reduceEqDiff,Nat.reduceAdd,Nat.reduceSub,Nat.reduceMul,Nat.reduceLeDiff,Int.reduceEq,Int.reduceLT,Int.reduceLE,Int.reduceAdd,Int.reduceMul,Int.reduceSub,Int.reduceNeg,Int.reduceToNat,reduceIte,Nat.reduceLT,hs64']
 unfold Znh
 simp only [go_sem,reduceCtorEq,Nat.reduceEqDiff,Nat.reduceAdd,Nat.reduceSub,Nat.reduceMul,Nat.reduceLeDiff,Int.reduceEq,Int.reduceLT,Int.reduceLE,Int.reduceAdd,Int.reduceMul,Int.reduceSub,Int.reduceNeg,Int.reduceToNat,reduceIte,Nat.reduceLT,hsl]
 simp [Zf,Ze,Zk,Zg,Zh,Zd,Zc,Zb]
def Zg8 (l : List Int) (a b d : Nat) (n : Int) : List Int :=
 let m := l.set a (addW (l.getD a 0) (l.getD b 0))
 m.set d (rotW (xorW (m.getD d 0) (m.getD a 0)) n)
theorem Zhr (l : List Int) (a b d : Nat) (n : Int) : (Zg8 l a b d n).length = l.length := by simp [Zg8]
def Zbi (l : List Int) (a b c d : Nat) : List Int := Zg8 (Zg8 (Zg8 (Zg8 l a b d 16) c d b 12) a b d 8) c d b 7
theorem Zb0 (l : List Int) (a b c d : Nat) : (Zbi l a b c d).length = l.length := by simp [Zbi,Zhr]
def Zn8 (l : List Int) : List Int :=
 Zbi (Zbi (Zbi (Zbi (Zbi (Zbi (Zbi (Zbi l 0 4 8 12) 1 5 9 13) 2 6 10 14) 3 7 11 15) 0 5 10 15) 1 6 11 12) 2 7 8 13) 3 4 9 14
theorem Z8f (l : List Int) : (Zn8 l).length = l.length := by simp [Zn8,Zb0]
def Zfe : Nat → List Int → List Int
 | 0,l => l
 | n + 1,l => Zfe n (Zn8 l)
theorem Zv7 : ∀ (n : Nat) (l : List Int),(Zfe n l).length = l.length
 | 0,_ => rfl
 | n + 1,l => by rw [Zfe,Zv7,Z8f]
def leW (s : ByteArray) (i : Nat) : Int := orW (orW (orW (Zb2 s i : Int) (shlW (Zb2 s (i + 1)) 8)) (shlW (Zb2 s (i + 2)) 16)) (shlW (Zb2 s (i + 3)) 24)
def Zse : ByteArray := ⟨#[101,120,112,97,110,100,32,51,50,45,98,121,116,101,32,107]⟩
def lesW (s : ByteArray) (n : Nat) : List Int := (List.range n).map fun i => leW s (4 * i)
theorem Znm (s : ByteArray) (n : Nat) : (lesW s n).length = n := by simp [lesW]
theorem Z0v (s : ByteArray) (n : Nat) : lesW s (n + 1) = lesW s n ++ [leW s (4 * n)] := by simp [lesW,List.range_succ]
def Zit (key nonce : ByteArray) (ctr : Int) : List Int := lesW (Zse ++ key) 12 ++ IntKind.wrap .u32 ctr :: lesW nonce 3
theorem Zbb4 (key nonce : ByteArray) (ctr : Int) : (Zit key nonce ctr).length = 16 := by simp [Zit,Znm]
def Ze7 (x : Int) : List UInt8 := [b8 x,b8 (shrW x 8),b8 (shrW x 16),b8 (shrW x 24)]
def Zo9 (a b : List Int) : List Int := (a.zip b).map fun p => addW p.1 p.2
def Zhn (key nonce : ByteArray) (ctr : Int) : List UInt8 := (Zo9 (Zit key nonce ctr) (Zfe 10 (Zit key nonce ctr))).flatMap Ze7
theorem Zx2 : ∀ l : List Int,(l.flatMap Ze7).length = 4 * l.length
 | [] => rfl
 | x :: l => by
  have := Zx2 l
  simp only [List.flatMap_cons,List.length_append,this,List.length_cons,Ze7,List.length_nil]
  omega
theorem Zmi (key nonce : ByteArray) (ctr : Int) : (Zhn key nonce ctr).length = 64 := by
 unfold Zhn
 rw [Zx2]
 simp [Zo9,Zbb4,Zv7]
def Zix (f : Nat → UInt8) : Nat → List UInt8 → List UInt8
 | _,[] => []
 | i,x :: l => (x ^^^ f i) :: Zix f (i + 1) l
theorem Zo2 (f : Nat → UInt8) : ∀ (i : Nat) (l : List UInt8),(Zix f i l).length = l.length
 | _,[] => rfl
 | i,x :: l => by simp [Zix,Zo2 f (i + 1) l]
theorem Zvw (f : Nat → UInt8) : ∀ (i : Nat) (l : List UInt8),Zix f i (Zix f i l) = l
 | _,[] => rfl
 | i,x :: l => by
  have h : (x ^^^ f i) ^^^ f i = x := by rw [UInt8.xor_assoc,UInt8.xor_self,UInt8.xor_zero]
  simp [Zix,Zvw f (i + 1) l,h]
def Zh6 (key nonce : ByteArray) (ctr : Nat) (i : Nat) : UInt8 := (Zhn key nonce ((ctr + i / 64 : Nat) : Int)).getD (i % 64) 0
def xorS (key nonce : ByteArray) (ctr : Nat) (s : ByteArray) : ByteArray := baL (Zix (Zh6 key nonce ctr) 0 s.data.toList)
theorem Zbc9 (key nonce : ByteArray) (ctr : Nat) (s : ByteArray) : (xorS key nonce ctr s).size = s.size := by
 unfold xorS
 rw [Zc7,Zo2]; rfl
theorem Zbdn (key nonce : ByteArray) (ctr : Nat) (s : ByteArray) : xorS key nonce ctr (xorS key nonce ctr s) = s := by
 unfold xorS
 rw [Zgg,Zvw,Zjg]
theorem Zbkw {n : Int} (h : 0 ≤ n ∧ n ≤ 255) : IntKind.wrap .u8 n = n := by
 simp [IntKind.wrap,IntKind.bits,IntKind.signed]; omega
def one8 (n : Nat) : ByteArray := ⟨#[n.toUInt8]⟩
theorem Zkq {n : Nat} {H : Heap} : vB2s (.c (.lst 1 [[.int .u8 (n : Int)]])) H = some (.c (.str (one8 n)),H) := by
 simp [vB2s,Zbh,Heap.rowsOf,Zdi,one8]
def Ze4 : ACode := .seq (.seq (.region [im 11 3,ii 12 (.bin .geq (.t 11) (.k (.c (.int .u64 10))))] false) (.cond (.t 12) .skip (.exit 0))) (.block 1 (.seq (.region [im 13 3,ii 14 (.bin .rem (.t 13) (.k (.c (.int .u64 10)))),ii 15 (.bin .add (.k (.c (.int .u64 48))) (.t 14)),ii 16 (.conv .u8 (.t 15)),iz 17 (.lit 1 [.int .u8 0] 1 [(0,.t 16)]),ii 18 (.b2s (.t 17)),im 19 4,ibt 20 .add 18 19,im 4 20] false) (.region [im 21 3,ii 22 (.bin .quo (.t 21) (.k (.c (.int .u64 10)))),im 3 22] false)))
def Zjq : ACode := .seq (.region [im 23 3,ii 24 (.bin .add (.k (.c (.int .u64 48))) (.t 23)),ii 25 (.conv .u8 (.t 24)),iz 26 (.lit 1 [.int .u8 0] 1 [(0,.t 25)]),ii 27 (.b2s (.t 26)),im 28 4,ibt 29 .add 27 28,im 4 29] false) (.seq (.seq (.region [im 30 0,ii 31 (.bin .lss (.t 30) (ki 0))] false) (.cond (.t 31) (.seq (.region [im 32 4,ii 33 (.bin .add (.k (.c (.str ⟨#[45]⟩))) (.t 32)),im 2 33] false) .ret) .skip)) (.seq (.region [im 34 4,im 2 34] false) .ret))
def Zvi : AFun := ⟨[.tmp 2],.seq (.region [ii 2 (.mv (.k (.c (.str ⟨#[]⟩))))] false) (.seq (.region [im 5 0,ii 6 (.conv .u64 (.t 5)),im 3 6,ii 4 (.mv (.k (.c (.str ⟨#[]⟩))))] false) (.seq (.seq (.region [im 7 0,ii 8 (.bin .lss (.t 7) (ki 0))] false) (.cond (.t 8) (.region [im 9 3,ii 10 (.un .neg (.t 9)),im 3 10] false) .skip)) (.seq (.block 0 (.loop Ze4)) Zjq)))⟩
theorem Z46 : Zm Tryz.prog 66 = some Zvi.erase := by kernel_rfl
theorem Zun {n : Int} (h : 0 ≤ n ∧ n ≤ 18446744073709551615) : IntKind.wrap .u64 n = n := by
 simp [IntKind.wrap,IntKind.bits,IntKind.signed]; omega
theorem Zfj (n : Nat) : (one8 n).size = 1 := rfl
def digD (n : Nat) : ByteArray :=
 if n < 10 then one8 (48 + n) ++ ⟨#[]⟩ else if n < 100 then one8 (48 + n / 10) ++ (one8 (48 + n % 10) ++ ⟨#[]⟩) else one8 (48 + n / 10 / 10) ++ (one8 (48 + n / 10 % 10) ++ (one8 (48 + n % 10) ++ ⟨#[]⟩))
theorem Zoi (n : Nat) : (digD n).size ≤ 3 := by
 unfold digD
 split
 ·simp [ByteArray.size_append,Zfj]; decide
 split
 ·simp [ByteArray.size_append,Zfj]; decide
 ·simp [ByteArray.size_append,Zfj]; decide
theorem Zto (n : Nat) (hn : n < 256) : Pr 66 [iC n] (sC (digD n)) := by
 refine Zl mixed Z46 rfl fun _ T => ?_
 unfold Zvi
 have w0 : IntKind.wrap .u64 (n : Int) = n := Zun (by omega)
 have c0 : ¬ ((n : Int) < 0) := by omega
 have se : (⟨#[]⟩ : ByteArray).size = 0 := rfl
 have rem : ∀ m : Nat,(m : Int).tmod 10 = ((m % 10 : Nat) : Int) := fun m => by rw [Int.tmod_eq_emod_of_nonneg (by omega)]; omega
 have quo : ∀ m : Nat,m < 256 → IntKind.wrap .u64 ((m : Int).tdiv 10) = ((m / 10 : Nat) : Int) := fun m h => by
  have : (m : Int).tdiv 10 = ((m / 10 : Nat) : Int) := by rw [Int.tdiv_eq_ediv_of_nonneg (by omega)]; omega
  rw [this,Zun (by omega)]
 have dg : ∀ m : Nat,m < 10 → IntKind.wrap .u8 (IntKind.wrap .u64 (48 + (m : Int))) = ((48 + m : Nat) : Int) := fun m h => by rw [Zun (by omega),Zbkw (by omega)]; omega
 have cat1 : ∀ (m : Nat) (H : Heap),vBin .add (.c (.str (one8 m))) (.c (.str ⟨#[]⟩)) H = some (.c (.str (one8 m ++ ⟨#[]⟩)),H) := fun m H => Zgc (by rw [Zfj,se]; omega)
 have cat2 : ∀ (m k : Nat) (H : Heap),vBin .add (.c (.str (one8 m))) (.c (.str (one8 k ++ ⟨#[]⟩))) H = some (.c (.str (one8 m ++ (one8 k ++ ⟨#[]⟩))),H) := fun m k H => Zgc (by rw [ByteArray.size_append,Zfj,Zfj,se]; omega)
 have cat3 : ∀ (m k j : Nat) (H : Heap),vBin .add (.c (.str (one8 m))) (.c (.str (one8 k ++ (one8 j ++ ⟨#[]⟩)))) H = some (.c (.str (one8 m ++ (one8 k ++ (one8 j ++ ⟨#[]⟩)))),H) := fun m k j H => Zgc (by rw [ByteArray.size_append,ByteArray.size_append,Zfj,Zfj,Zfj,se]; omega)
 by_cases h1 : n < 10
 ·have hv : digD n = one8 (48 + n) ++ ⟨#[]⟩ := by unfold digD; rw [if_pos h1]
  have g1 : ¬ ((10 : Int) ≤ (n : Int)) := by omega
  have d1 := dg n h1
  simp only [go_sem,simprocAttr,w0,c0]
  refine Zi ?_
  conv => enter [3,1]; unfold Ze4
  simp only [go_sem,simprocAttr,g1]
  unfold Zjq
  simp only [go_sem,simprocAttr,d1,Zkq,cat1,c0]
  rw [hv]
  simp [Zf,Ze,Zk,Zg,Zh,Zd,Zc,Zb]
 by_cases h2 : n < 100
 ·have hv : digD n = one8 (48 + n / 10) ++ (one8 (48 + n % 10) ++ ⟨#[]⟩) := by unfold digD; rw [if_neg h1,if_pos h2]
  have g1 : ((10 : Int) ≤ (n : Int)) := by omega
  have g2 : ¬ ((10 : Int) ≤ ((n / 10 : Nat) : Int)) := by omega
  have d1 := dg (n % 10) (by omega)
  have d2 := dg (n / 10) (by omega)
  have q1 := quo n hn
  simp only [go_sem,simprocAttr,w0,c0]
  refine Zi ?_
  conv => enter [3,1]; unfold Ze4
  simp only [go_sem,simprocAttr,g1,Zdh,Zq2,rem,d1,q1,Zkq,cat1]
  refine Zi ?_
  conv => enter [3,1]; unfold Ze4
  simp only [go_sem,simprocAttr,g2]
  unfold Zjq
  simp only [go_sem,simprocAttr,d2,Zkq,cat2,c0]
  rw [hv]
  simp [Zf,Ze,Zk,Zg,Zh,Zd,Zc,Zb]
 ·have hv : digD n = one8 (48 + n / 10 / 10) ++ (one8 (48 + n / 10 % 10) ++ (one8 (48 + n % 10) ++ ⟨#[]⟩)) := by unfold digD; rw [if_neg h1,if_neg h2]
  have g1 : ((10 : Int) ≤ (n : Int)) := by omega
  have g2 : ((10 : Int) ≤ ((n / 10 : Nat) : Int)) := by omega
  have g3 : ¬ ((10 : Int) ≤ ((n / 10 / 10 : Nat) : Int)) := by omega
  have d1 := dg (n % 10) (by omega)
  have d2 := dg (n / 10 % 10) (by omega)
  have d3 := dg (n / 10 / 10) (by omega)
  have q1 := quo n hn
  have q2 := quo (n / 10) (by omega)
  simp only [go_sem,simprocAttr,w0,c0]
  refine Zi ?_
  conv => enter [3,1]; unfold Ze4
  simp only [go_sem,simprocAttr,g1,Zdh,Zq2,rem,d1,q1,Zkq,cat1]
  refine Zi ?_
  conv => enter [3,1]; unfold Ze4
  simp only [go_sem,simprocAttr,g2,Zdh,Zq2,rem,d2,q2,Zkq,cat2]
  refine Zi ?_
  conv => enter [3,1]; unfold Ze4
  simp only [go_sem,simprocAttr,g3]
  unfold Zjq
  simp only [go_sem,simprocAttr,d3,Zkq,cat3,c0]
  rw [hv]
  simp [Zf,Ze,Zk,Zg,Zh,Zd,Zc,Zb]
structure Wrp where
 dev : Int
 box : ByteArray
structure Rec where
 seq : Int
 prev : ByteArray
 kind : Int
 dev : Int
 wraps : List Wrp
 tag : ByteArray
structure EKey where
 epoch : Int
 key : ByteArray
structure Hdr where
 epoch : Int
 frm : Int
 seq : Int
def Wrp.cells (w : Wrp) : List Cell := [.int .i64 w.dev,.str w.box]
def Zv (l : List Wrp) : Cell := .lst 2 (l.map Wrp.cells)
def Rec.cells (r : Rec) : List Cell := [.int .i64 r.seq,.str r.prev,.int .i64 r.kind,.int .i64 r.dev,Zv r.wraps,.str r.tag]
def Z2 (l : List Rec) : Cell := .lst 6 (l.map Rec.cells)
def EKey.cells (k : EKey) : List Cell := [.int .i64 k.epoch,.str k.key]
def Hdr.cells (h : Hdr) : List Cell := [.int .i64 h.epoch,.int .i64 h.frm,.int .i64 h.seq]
def Zrp : Rec := ⟨0,Zz,0,0,[],Zz⟩
def Zgd : ByteArray := ⟨#[100,101,97,100,100,114,111,112]⟩
def digS (n : Int) : ByteArray := digD n.toNat
def ownW : ByteArray := ⟨#[111,119,110,32]⟩
def Zn0 : ByteArray := ⟨#[101,112,111,99,104,32]⟩
def Zyb : ByteArray := ⟨#[119,114,97,112]⟩
def ownK (master : ByteArray) (n : Int) : ByteArray := der1 Zgd master (ownW ++ digS n)
def Zce (secret : ByteArray) (n : Int) : ByteArray := der1 Zgd secret (Zn0 ++ digS n)
def Zdf (own : ByteArray) : ByteArray := Zo1 Zgd own Zyb
def Zfc (n : Int) : List UInt8 := lowB (IntKind.wrap .u64 n) 8
theorem Ztz (n : Int) : (Zfc n).length = 8 := Zc9 _ _
def Zc6 (n : Int) : ByteArray := baL ([0,0,0,0] ++ Zfc n)
theorem Z7b (n : Int) : (Zc6 n).size = 12 := rfl
def Zd5 (key nonce ad c : ByteArray) : ByteArray := (macD (key.extract 32 key.size) (baL (Zfc ad.size) ++ ad ++ nonce ++ c)).extract 0 16
theorem Zpf (key nonce ad c : ByteArray) : (Zd5 key nonce ad c).size = 16 := by
 unfold Zd5
 rw [ByteArray.size_extract,Zee]
 omega
def Zld (key nonce : ByteArray) (n : Nat) : Prop := key.size = 64 ∧ nonce.size = 12 ∧ n ≤ 1048576
instance (key nonce : ByteArray) (n : Nat) : Decidable (Zld key nonce n) := by unfold Zld; infer_instance
def Zcz (key nonce s : ByteArray) : ByteArray := xorS (key.extract 0 32) nonce 1 s
theorem Zj3 (key nonce s : ByteArray) : (Zcz key nonce s).size = s.size := Zbc9 _ _ _ _
theorem Z6k (key nonce s : ByteArray) : Zcz key nonce (Zcz key nonce s) = s := Zbdn _ _ _ _
def Zc2 (key nonce ad plain : ByteArray) : ByteArray :=
 if Zld key nonce plain.size then Zcz key nonce plain ++ Zd5 key nonce ad (Zcz key nonce plain) else Zz
def Zfs (key nonce ad s : ByteArray) : Option ByteArray :=
 if key.size = 64 ∧ nonce.size = 12 ∧ 16 ≤ s.size ∧ s.size ≤ 1048592 ∧ Zd5 key nonce ad (s.extract 0 (s.size - 16)) = s.extract (s.size - 16) s.size then
  some (Zcz key nonce (s.extract 0 (s.size - 16))) else none
theorem Z37 {a b : ByteArray} {n : Nat} (h : a.size = n) : (a ++ b).extract 0 n = a := ByteArray.extract_append_eq_left h.symm
theorem Z12 {a b : ByteArray} {n m : Nat} (h : a.size = n) (hm : m = (a ++ b).size) : (a ++ b).extract n m = b := ByteArray.extract_append_eq_right h.symm (by rw [hm,ByteArray.size_append])
theorem Zyo {key nonce ad plain : ByteArray} (h : Zld key nonce plain.size) : (Zc2 key nonce ad plain).size = plain.size + 16 := by
 unfold Zc2
 rw [if_pos h,ByteArray.size_append,Zj3,Zpf]
theorem Zbdb {key nonce ad plain : ByteArray} (h : Zld key nonce plain.size) : Zfs key nonce ad (Zc2 key nonce ad plain) = some plain := by
 have hs := Zyo (ad := ad) h
 have h' := h
 obtain ⟨h1,h2,h3⟩ := h'
 have e1 : (Zc2 key nonce ad plain).extract 0 ((Zc2 key nonce ad plain).size - 16) = Zcz key nonce plain := by
  rw [hs]
  unfold Zc2
  rw [if_pos h]
  exact Z37 (by rw [Zj3]; omega)
 have e2 : (Zc2 key nonce ad plain).extract ((Zc2 key nonce ad plain).size - 16) (Zc2 key nonce ad plain).size = Zd5 key nonce ad (Zcz key nonce plain) := by
  have e3 : Zc2 key nonce ad plain = Zcz key nonce plain ++ Zd5 key nonce ad (Zcz key nonce plain) := by unfold Zc2; rw [if_pos h]
  rw [e3] at hs ⊢
  refine Z12 (by rw [Zj3,hs]; omega) rfl
 unfold Zfs
 rw [e1,e2,if_pos ⟨h1,h2,by omega,by omega,rfl⟩,Z6k]
theorem Ztn (m : ByteArray) (n : Int) : (ownK m n).size = 32 := rfl
theorem Zik (m : ByteArray) (n : Int) : (Zce m n).size = 32 := rfl
theorem Zy0 (m : ByteArray) : (Zdf m).size = 64 := Z8v _ _ _
def Zcn : Option Int → List Wrp → Bool
 | _,[] => true
 | p,w :: l => decide (0 ≤ w.dev ∧ w.dev < 8 ∧ w.box.size ≤ 200) && (match p with | none => true | some q => decide (q < w.dev)) && Zcn (some w.dev) l
def Z5 (r : Rec) : Bool :=
 decide (1 ≤ r.seq ∧ r.seq ≤ 1048576) && decide (r.prev.size = 32 ∨ r.seq = 1 ∧ r.prev = Zz) && decide (r.kind = 1 ∨ r.kind = 2) && decide (0 ≤ r.dev ∧ r.dev < 8) && decide (r.tag.size = 16 ∨ r.tag = Zz) && Zcn none r.wraps
theorem Z0w : ∀ (l : List Wrp) (p : Int),-1 ≤ p → p < 8 → Zcn (some p) l = true → (l.length : Int) ≤ 7 - p
 | [],p,h0,h8,h => by simp; omega
 | w :: l,p,h0,h8,h => by
  simp only [Zcn,Bool.and_eq_true,decide_eq_true_eq] at h
  obtain ⟨⟨⟨h1,h2,h3⟩,h4⟩,h5⟩ := h
  have := Z0w l w.dev (by omega) h2 h5
  simp only [List.length_cons]
  omega
theorem Z9v : ∀ (l : List Wrp),Zcn none l = true → Zcn (some (-1)) l = true
 | [],_ => rfl
 | w :: l,h => by
  simp only [Zcn,Bool.and_eq_true,decide_eq_true_eq] at h ⊢
  obtain ⟨⟨h1,_⟩,h5⟩ := h
  exact ⟨⟨h1,by omega⟩,h5⟩
theorem Z8e {l : List Wrp} (h : Zcn none l = true) : l.length ≤ 8 := by
 have := Z0w l (-1) (by omega) (by omega) (Z9v l h)
 omega
theorem Z0x : ∀ (l : List Wrp) (p : Option Int),Zcn p l = true → ∀ w ∈ l,0 ≤ w.dev ∧ w.dev < 8 ∧ w.box.size ≤ 200
 | [],p,h,w,hw => by simp at hw
 | x :: l,p,h,w,hw => by
  simp only [Zcn,Bool.and_eq_true,decide_eq_true_eq] at h
  obtain ⟨⟨h1,_⟩,h5⟩ := h
  rcases List.mem_cons.1 hw with rfl | hw
  ·exact h1
  ·exact Z0x l _ h5 w hw
def Ze6 (r : Rec) : Wr := Zc4 [numW r.seq,numW r.kind,numW r.dev,Zcc r.prev]
def Zdc (w : Wrp) : Wr := Zc4 [numW w.dev,Zcc w.box]
def Zgl (r : Rec) : Wr := Zc4 [numW r.seq,Zcc r.prev,numW r.kind,numW r.dev,Zc4 (r.wraps.map Zdc),Zcc r.tag]
def Zcr (r : Rec) : ByteArray := if Z5 r then baL (putL (Ze6 r)) else Zz
def putR (r : Rec) : ByteArray := if Z5 r then baL (putL (Zgl r)) else Zz
def Zjv (r : Rec) : ByteArray := sumD (putR r)
theorem Z76 (r : Rec) : (Zjv r).size = 32 := rfl
theorem Zlk {r : Rec} (h : Z5 r = true) : r.prev.size ≤ 32 ∧ r.tag.size ≤ 16 ∧ r.wraps.length ≤ 8 ∧ (∀ w ∈ r.wraps,w.box.size ≤ 200) := by
 unfold Z5 at h
 simp only [Bool.and_eq_true,decide_eq_true_eq] at h
 obtain ⟨⟨⟨⟨⟨h1,h2⟩,h3⟩,h4⟩,h5⟩,h6⟩ := h
 refine ⟨?_,?_,Z8e h6,fun w hw => (Z0x _ _ h6 w hw).2.2⟩
 ·rcases h2 with h2 | ⟨_,h2⟩
  ·omega
  ·rw [h2]; exact Nat.zero_le _
 ·rcases h5 with h5 | h5
  ·omega
  ·rw [h5]; exact Nat.zero_le _
theorem Zhs (n : Int) (lim : Int) : Z0 (numW n) lim = true := by simp [numW,Z0,Zz]
theorem Zmv {s : ByteArray} (lim : Int) (h : s.size ≤ 1048576) : Z0 (Zcc s) lim = true := by
 simp only [Zcc,Z0]
 simp
 omega
theorem Zmj {l : List Wr} {lim : Int} (h1 : 1 ≤ lim) (h2 : l.length ≤ 65536) (h : Zez l (lim - 1) = true) : Z0 (Zc4 l) lim = true := by
 simp only [Zc4,Z0]
 rw [if_neg (by omega),if_neg (by omega),if_pos trivial,if_pos ⟨trivial,trivial,by omega,by omega⟩]
 exact h
theorem Zjp : ∀ (l : List Wr) (lim : Int),(∀ w ∈ l,Z0 w lim = true) → Zez l lim = true
 | [],_,_ => rfl
 | w :: l,lim,h => by
  simp only [Zez,h w (by simp),Zjp l lim fun x hx => h x (by simp [hx]),Bool.and_self]
theorem Zxq {r : Rec} (h : Z5 r = true) : Z0 (Ze6 r) 6 = true := by
 have := Zlk h
 refine Zmj (by omega) (by simp) (Zjp _ _ fun w hw => ?_)
 simp only [List.mem_cons,List.not_mem_nil,or_false] at hw
 rcases hw with rfl | rfl | rfl | rfl
 ·exact Zhs _ _
 ·exact Zhs _ _
 ·exact Zhs _ _
 ·exact Zmv _ (by omega)
theorem Z01 {r : Rec} (h : Z5 r = true) : Z0 (Zgl r) 6 = true := by
 obtain ⟨h1,h2,h3,h4⟩ := Zlk h
 refine Zmj (by omega) (by simp) (Zjp _ _ fun w hw => ?_)
 simp only [List.mem_cons,List.not_mem_nil,or_false] at hw
 rcases hw with rfl | rfl | rfl | rfl | rfl | rfl
 ·exact Zhs _ _
 ·exact Zmv _ (by omega)
 ·exact Zhs _ _
 ·exact Zhs _ _
 ·refine Zmj (by omega) (by simp; omega) (Zjp _ _ fun w hw => ?_)
  obtain ⟨x,hx,rfl⟩ := List.mem_map.1 hw
  have := h4 x hx
  refine Zmj (by omega) (by simp) (Zjp _ _ fun w hw => ?_)
  simp only [List.mem_cons,List.not_mem_nil,or_false] at hw
  rcases hw with rfl | rfl
  ·exact Zhs _ _
  ·exact Zmv _ (by omega)
 ·exact Zmv _ (by omega)
def memF (epoch dev : Int) (b : Bool) (r : Rec) : Bool := if r.seq ≤ epoch ∧ r.dev = dev ∧ (r.kind = 1 ∨ r.kind = 2) then decide (r.kind = 1) else b
def memB (log : List Rec) (epoch dev : Int) : Bool := log.foldl (memF epoch dev) false
def memL (log : List Rec) (epoch dev : Int) : Bool := memB log epoch dev && decide (0 ≤ dev ∧ dev < 8)
def Zda : List Int := [0,1,2,3,4,5,6,7]
def Zb3 (log : List Rec) (epoch : Int) : List Int := Zda.filter (memL log epoch)
theorem Zwz {d : Int} : d ∈ Zda ↔ 0 ≤ d ∧ d < 8 := by
 unfold Zda
 simp only [List.mem_cons,List.not_mem_nil,or_false]
 omega
theorem Zpi {log : List Rec} {epoch d : Int} : d ∈ Zb3 log epoch ↔ memL log epoch d = true := by
 unfold Zb3
 rw [List.mem_filter,Zwz]
 constructor
 ·exact fun h => h.2
 ·intro h
  have h' := h
  unfold memL at h'
  simp only [Bool.and_eq_true,decide_eq_true_eq] at h'
  exact ⟨h'.2,h⟩
theorem Zjm (log : List Rec) (r : Rec) (epoch d : Int) : memB (log ++ [r]) epoch d = memF epoch d (memB log epoch d) r := by simp [memB,List.foldl_append]
theorem Zs4 : ∀ (log : List Rec) (b : Bool) (e1 e2 d : Int),(∀ r ∈ log,r.seq ≤ e1 ∧ r.seq ≤ e2) → log.foldl (memF e1 d) b = log.foldl (memF e2 d) b
 | [],_,_,_,_,_ => rfl
 | r :: l,b,e1,e2,d,h => by
  have h1 := h r (by simp)
  have : memF e1 d b r = memF e2 d b r := by
   unfold memF
   have : (r.seq ≤ e1 ∧ r.dev = d ∧ (r.kind = 1 ∨ r.kind = 2)) = (r.seq ≤ e2 ∧ r.dev = d ∧ (r.kind = 1 ∨ r.kind = 2)) := by
    apply propext
    constructor
    ·exact fun h => ⟨h1.2,h.2⟩
    ·exact fun h => ⟨h1.1,h.2⟩
   simp only [this]
  rw [List.foldl_cons,List.foldl_cons,this]
  exact Zs4 l _ e1 e2 d fun x hx => h x (by simp [hx])
def Zbe (log : List Rec) : ByteArray := match log.getLast? with | none => Zz | some r => Zjv r
def Zed (done : List Rec) (r : Rec) : Bool :=
 Z5 r && decide (r.seq = (done.length : Int) + 1) && decide (r.prev = Zbe done) && !(decide (done.length = 0) && (decide (r.kind ≠ 1) || decide (r.dev ≠ 0))) &&
  !(decide (r.kind = 1) && memL done done.length r.dev || decide (r.kind = 2) && (!memL done done.length r.dev || decide (r.dev = 0)))
def chk : List Rec → List Rec → Bool
 | _,[] => true
 | done,r :: l => Zed done r && chk (done ++ [r]) l
def Zdj (log : List Rec) : Bool := decide (log.length ≤ 40) && chk [] log
theorem Zwx : ∀ (l done : List Rec) (r : Rec),chk done (l ++ [r]) = (chk done l && Zed (done ++ l) r)
 | [],done,r => by simp [chk]
 | x :: l,done,r => by
  simp only [List.cons_append,chk,Zwx l,List.append_assoc,List.nil_append,Bool.and_assoc]
theorem Zzx : ∀ (l done : List Rec),chk done l = true → ∀ i r,l[i]? = some r → r.seq = ((done.length + i : Nat) : Int) + 1 ∧ Z5 r = true
 | [],done,h,i,r,hr => by simp at hr
 | x :: l,done,h,i,r,hr => by
  simp only [chk,Bool.and_eq_true] at h
  match i with
  | 0 =>
   simp at hr
   subst hr
   have h1 := h.1
   unfold Zed at h1
   simp only [Bool.and_eq_true,decide_eq_true_eq] at h1
   exact ⟨h1.1.1.1.2,h1.1.1.1.1⟩
  | i + 1 =>
   have := Zzx l (done ++ [x]) h.2 i r (by simpa using hr)
   simp only [List.length_append,List.length_singleton] at this
   refine ⟨?_,this.2⟩
   rw [this.1]
   omega
def tagR (key : ByteArray) (r : Rec) : ByteArray := if Z5 r then (macD key (putR { r with tag := Zz })).extract 0 16 else Zz
def Zbj (log : List Rec) (kind dev : Int) : Rec := ⟨(log.length : Int) + 1,Zbe log,kind,dev,[],Zz⟩
def Zd8 (secret master : ByteArray) (r : Rec) (m : Int) : Wrp := ⟨m,Zc2 (Zdf (ownK master m)) (Zc6 r.seq) (Zcr r) (Zce secret r.seq)⟩
def Zdu (secret master : ByteArray) (log : List Rec) (kind dev : Int) : Rec :=
 { Zbj log kind dev with wraps := (Zb3 (log ++ [Zbj log kind dev]) ((log.length : Int) + 1)).map (Zd8 secret master (Zbj log kind dev)) }
def Zb1 (secret master : ByteArray) (log : List Rec) (kind dev : Int) : Rec :=
 if log.length = 0 then Zdu secret master log kind dev
 else { Zdu secret master log kind dev with tag := tagR (Zce secret log.length) (Zdu secret master log kind dev) }
def Zbm (log : List Rec) (kind dev : Int) : Int :=
 if (kind ≠ 1 ∧ kind ≠ 2) ∨ dev < 0 ∨ 8 ≤ dev ∨ Zdj log = false ∨ (log.length = 0 ∧ (kind ≠ 1 ∨ dev ≠ 0)) ∨ (kind = 2 ∧ dev = 0) then 1
 else if kind = 1 ∧ memL log log.length dev = true then 3
 else if kind = 2 ∧ memL log log.length dev = false then 2
 else if 40 ≤ log.length then 12
 else 0
def Zb9 (secret master : ByteArray) (log : List Rec) (kind dev : Int) : Rec := if Zbm log kind dev = 0 then Zb1 secret master log kind dev else Zrp
def Zmc (own : ByteArray) (r : Rec) (dev : Int) : Option ByteArray :=
 match r.wraps.find? fun w => decide (w.dev = dev) with
 | none => none
 | some w => match Zfs (Zdf own) (Zc6 r.seq) (Zcr r) w.box with
  | none => none
  | some k => if k.size = 32 then some k else none
deriving instance DecidableEq for Wrp
deriving instance DecidableEq for Rec
deriving instance DecidableEq for EKey
deriving instance DecidableEq for Hdr
theorem Zkn (hm : Tryz.prog.follows .mixedOrders = true) {f : Nat} {a : AFun} (hf : Zm Tryz.prog f = some a.erase) {args : List AVal} {H : Heap} {R : AVal → Heap → Prop}
  (h : ∀ T,Run (Zt Tryz.prog T) ⟨a.res,R⟩ [.code a.body] (Zc5 args) H) : ∃ v H',CallSound Tryz.prog f args H v H' ∧ R v H' := by
 obtain ⟨u,E,h1,h2⟩ := Zri (G := P1 Tryz.prog f a) (f := f) (by simp [P1,Zt,one]) (h _)
 exact ⟨u,E,Zyi (Zxc hf) hm h1,h2⟩
end Go.Proofs.YticmfblfghdkbaaGreatDoor.Eng
