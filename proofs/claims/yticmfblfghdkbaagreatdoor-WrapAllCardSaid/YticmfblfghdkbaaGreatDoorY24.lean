/- Parts of this claim's proof, joined. No statement of the seat is proved here. -/
import Derived.Test.YticmfblfghdkbaaGreatDoorY23
set_option linter.unusedVariables false
set_option linter.unusedSimpArgs false
namespace Go.Proofs.YticmfblfghdkbaaGreatDoor.Eng
open Go
theorem Zbhm {s : ByteArray} {i : Nat} {x : UInt8} {ik : IntKind} {H : Heap} (h : s.data.toList[i]? = some x) : vIxS (sC s) (.c (.int ik (i : Int))) H = some (.c (.int .u8 (x.toNat : Int)),H) := by
 obtain ⟨h1,h2⟩ := List.getElem?_eq_some_iff.1 h
 have h3 : i < s.size := h1
 have h4 : s[i]'h3 = x := h2
 simp [vIxS,h3,h4]
set_option maxHeartbeats 4000000 in
theorem Z3d (key nonce s : ByteArray) (hk : key.size = 32) (hn : nonce.size = 12) (hs : s.size ≤ 1048576) : Pr 120 [sC key,sC nonce,iC 1,sC s] (sC (xorS key nonce 1 s)) := by
 refine Zl mixed Zbd5 rfl fun hl T => ?_
 obtain ⟨l,hl0⟩ : ∃ l,l = s.data.toList := ⟨_,rfl⟩
 have hN : l.length = s.size := by rw [hl0]; rfl
 obtain ⟨X,hX⟩ : ∃ X,X = Zjz (Zi5 key nonce 1) 0 l := ⟨_,rfl⟩
 have hXl : X.length = l.length := by rw [hX,Zqn]
 have hXat : ∀ p x,l[p]? = some x → X[p]? = some (x ^^^ Zi5 key nonce 1 p) := fun p x h => by rw [hX,Zvu _ _ _ _ _ h,Nat.zero_add]
 have hblk := fun (c : Nat) (hc : c < 4294967296) => Z9g key nonce (c : Int) hk hn (by omega) (by omega)
 have hbll := fun c => Zn7 key nonce c
 have hst := fun (j i : Nat) (hi : i < 64) => Z33 (key := key) (nonce := nonce) (ctr := 1) (j := j) hi
 have hres : xorS key nonce 1 s = baL X := by rw [hX,hl0]; rfl
 rw [hres]
 unfold Z6g
 by_cases h0 : s.size = 0
 ·have hXn : X = [] := List.eq_nil_of_length_eq_zero (by omega)
  have hc : ((s.size : Int) = 0) := by omega
  subst hXn
  simp only [go_sem,reduceCtorEq,Nat.reduceEqDiff,Nat.reduceAdd,Nat.reduceSub,Nat.reduceMul,Nat.reduceLeDiff,Int.reduceEq,Int.reduceLT,Int.reduceLE,Int.reduceAdd,Int.reduceMul,Int.reduceSub,Int.reduceNeg,Int.reduceToNat,reduceIte,Nat.reduceLT,hc]
  simp [Zf,Ze,Zi,Zg,Zh,Zd,Zc,Zb,baL]
 ·have hc : ¬ ((s.size : Int) = 0) := by omega
  have hb1 := hblk 1 (by omega)
  have hb2 := hbll ((1 : Nat) : Int)
  have hne : ¬ (baL (Ziq key nonce ((1 : Nat) : Int)) = ⟨#[]⟩) := fun h => by
   have := congrArg ByteArray.size h
   rw [Zdp,hb2] at this
   cases this
  have w1 : IntKind.wrap .i64 ((s.size : Int) - 1) = ((s.size - 1 : Nat) : Int) := by rw [Zr (by omega)]; omega
  have w2 : IntKind.wrap .i64 (Int.tdiv ((s.size - 1 : Nat) : Int) 64) = (((s.size - 1) / 64 : Nat) : Int) := by rw [Int.tdiv_eq_ediv_of_nonneg (by omega),Zr (by omega)]; omega
  have w3 : IntKind.wrap .i64 (1 + (((s.size - 1) / 64 : Nat) : Int)) = ((1 + (s.size - 1) / 64 : Nat) : Int) := by rw [Zr (by omega)]; omega
  have c3 : ¬ ((4294967296 : Int) ≤ ((1 + (s.size - 1) / 64 : Nat) : Int)) := by omega
  have hbytes : (Zc9 s).map (fun c => [c]) = l.map Zt := by rw [Zke,hl0]
  have hs2b : ∀ H : Heap,vS2b (sC s) H = some (.c (.slc H.length 0 l.length 1 false),H ++ [uBlk l]) := fun H => by
   simp only [vS2b]
   rw [if_pos (by omega),hbytes,hN]
  simp only [go_sem,reduceCtorEq,Nat.reduceEqDiff,Nat.reduceAdd,Nat.reduceSub,Nat.reduceMul,Nat.reduceLeDiff,Int.reduceEq,Int.reduceLT,Int.reduceLE,Int.reduceAdd,Int.reduceMul,Int.reduceSub,Int.reduceNeg,Int.reduceToNat,reduceIte,Nat.reduceLT,hc]
  refine Za hb1 ?_
  have outer : ∀ (d j : Nat) (e : Env) (H : Heap),j + d = (l.length + 63) / 64 → e 0 = sC key → e 1 = sC nonce → e 2 = iC 1 → e 9 = .c (.slc 0 0 l.length 1 false) → e 10 = iC ((64 * j : Nat) : Int) → H[0]? = some (uBlk (mixL X l (64 * j))) →
    Run (Zu Tryz.prog T) ⟨[.tmp 8],fun u E => Zf E u = some (sC (baL X))⟩ [.loop Zit,.blk 0,.code Zko] e H := by
   intro d
   induction d with
   | zero =>
    intro j e H hj h0' h1 h2 h9 h10 hH
    have hc : ¬ (((64 * j : Nat) : Int) < (l.length : Int)) := by omega
    rw [Zly hXl (by omega)] at hH
    have hb := Zw6 hH hXl (by omega)
    refine Zj ?_
    conv => enter [3,1]; unfold Zit
    simp only [go_sem,reduceCtorEq,Nat.reduceEqDiff,Nat.reduceAdd,Nat.reduceSub,Nat.reduceMul,Nat.reduceLeDiff,Int.reduceEq,Int.reduceLT,Int.reduceLE,Int.reduceAdd,Int.reduceMul,Int.reduceSub,Int.reduceNeg,Int.reduceToNat,reduceIte,Nat.reduceLT,h9,h10,hc]
    unfold Zko
    simp only [go_sem,reduceCtorEq,Nat.reduceEqDiff,Nat.reduceAdd,Nat.reduceSub,Nat.reduceMul,Nat.reduceLeDiff,Int.reduceEq,Int.reduceLT,Int.reduceLE,Int.reduceAdd,Int.reduceMul,Int.reduceSub,Int.reduceNeg,Int.reduceToNat,reduceIte,Nat.reduceLT,h9,hb]
    simp [Zf,Ze,Zi,Zg,Zh,Zd,Zc,Zb]
   | succ d ih =>
    intro j e H hj h0' h1 h2 h9 h10 hH
    have hc : (((64 * j : Nat) : Int) < (l.length : Int)) := by omega
    have wq : IntKind.wrap .i64 (Int.tdiv ((64 * j : Nat) : Int) 64) = (j : Int) := by rw [Int.tdiv_eq_ediv_of_nonneg (by omega),Zr (by omega)]; omega
    have wj : IntKind.wrap .i64 (1 + (j : Int)) = ((1 + j : Nat) : Int) := by rw [Zr (by omega)]; omega
    have wn : IntKind.wrap .i64 (((64 * j : Nat) : Int) + 64) = ((64 * (j + 1) : Nat) : Int) := by rw [Zr (by omega)]; omega
    have hb1 := hblk (1 + j) (by omega)
    have hb2 := hbll ((1 + j : Nat) : Int)
    obtain ⟨bk,hbk⟩ : ∃ bk,bk = Ziq key nonce ((1 + j : Nat) : Int) := ⟨_,rfl⟩
    rw [← hbk] at hb1 hb2
    have hb4 : ∀ i,i < 64 → Zi5 key nonce 1 (64 * j + i) = bk.getD i 0 := fun i hi => by rw [hst j i hi,hbk]
    refine Zj ?_
    conv => enter [3,1]; unfold Zit
    simp only [go_sem,reduceCtorEq,Nat.reduceEqDiff,Nat.reduceAdd,Nat.reduceSub,Nat.reduceMul,Nat.reduceLeDiff,Int.reduceEq,Int.reduceLT,Int.reduceLE,Int.reduceAdd,Int.reduceMul,Int.reduceSub,Int.reduceNeg,Int.reduceToNat,reduceIte,Nat.reduceLT,h0',h1,h2,h9,h10,hc,wq,wj]
    refine Za hb1 ?_
    simp only [go_sem,reduceCtorEq,Nat.reduceEqDiff,Nat.reduceAdd,Nat.reduceSub,Nat.reduceMul,Nat.reduceLeDiff,Int.reduceEq,Int.reduceLT,Int.reduceLE,Int.reduceAdd,Int.reduceMul,Int.reduceSub,Int.reduceNeg,Int.reduceToNat,reduceIte,Nat.reduceLT,h10]
    have inner : ∀ (k i : Nat) (e : Env) (H : Heap),i + k = min 64 (l.length - 64 * j) → e 0 = sC key → e 1 = sC nonce → e 2 = iC 1 → e 9 = .c (.slc 0 0 l.length 1 false) → e 10 = iC ((64 * j : Nat) : Int) → e 11 = sC (baL bk) → e 12 = iC ((64 * j + i : Nat) : Int) → H[0]? = some (uBlk (mixL X l (64 * j + i))) →
      Run (Zu Tryz.prog T) ⟨[.tmp 8],fun u E => Zf E u = some (sC (baL X))⟩ [.loop Zm2,.blk 2,.blk 1,.code Zmz,.loop Zit,.blk 0,.code Zko] e H := by
     intro k
     induction k with
     | zero =>
      intro i e H hi h0' h1 h2 h9 h10 h11 h12 hH
      have fin : Run (Zu Tryz.prog T) ⟨[.tmp 8],fun u E => Zf E u = some (sC (baL X))⟩ [.loop Zm2,.blk 2,.blk 1,.code Zmz,.loop Zit,.blk 0,.code Zko] e H := by
       refine Zj ?_
       conv => enter [3,1]; unfold Zm2
       have done : ∀ e : Env,e 0 = sC key → e 1 = sC nonce → e 2 = iC 1 → e 9 = .c (.slc 0 0 l.length 1 false) → e 10 = iC ((64 * (j + 1) : Nat) : Int) →
         Run (Zu Tryz.prog T) ⟨[.tmp 8],fun u E => Zf E u = some (sC (baL X))⟩ [.loop Zit,.blk 0,.code Zko] e H := fun e g0 g1 g2 g9 g10 => by
        refine ih (j + 1) e H (by omega) g0 g1 g2 g9 g10 ?_
        rw [hH]
        by_cases hlast : 64 * j + 64 ≤ l.length
        ·have : 64 * j + i = 64 * (j + 1) := by omega
         rw [this]
        ·rw [Zly hXl (by omega),Zly hXl (by omega)]
       by_cases hlt : 64 * j + i < l.length
       ·have hc1 : ((64 * j + i : Nat) : Int) < (l.length : Int) := by omega
        have hc2 : ¬ (((64 * j + i : Nat) : Int) < ((64 * (j + 1) : Nat) : Int)) := by omega
        simp only [go_sem,reduceCtorEq,Nat.reduceEqDiff,Nat.reduceAdd,Nat.reduceSub,Nat.reduceMul,Nat.reduceLeDiff,Int.reduceEq,Int.reduceLT,Int.reduceLE,Int.reduceAdd,Int.reduceMul,Int.reduceSub,Int.reduceNeg,Int.reduceToNat,reduceIte,Nat.reduceLT,h9,h10,h12,hc1,wn,hc2]
        unfold Zmz
        simp only [go_sem,reduceCtorEq,Nat.reduceEqDiff,Nat.reduceAdd,Nat.reduceSub,Nat.reduceMul,Nat.reduceLeDiff,Int.reduceEq,Int.reduceLT,Int.reduceLE,Int.reduceAdd,Int.reduceMul,Int.reduceSub,Int.reduceNeg,Int.reduceToNat,reduceIte,Nat.reduceLT,h10,wn]
        refine done _ ?_ ?_ ?_ ?_ ?_
        ·simp only [go_sem,reduceCtorEq,Nat.reduceEqDiff,Nat.reduceAdd,Nat.reduceSub,Nat.reduceMul,Nat.reduceLeDiff,Int.reduceEq,Int.reduceLT,Int.reduceLE,Int.reduceAdd,Int.reduceMul,Int.reduceSub,Int.reduceNeg,Int.reduceToNat,reduceIte,Nat.reduceLT,h0']
        ·simp only [go_sem,reduceCtorEq,Nat.reduceEqDiff,Nat.reduceAdd,Nat.reduceSub,Nat.reduceMul,Nat.reduceLeDiff,Int.reduceEq,Int.reduceLT,Int.reduceLE,Int.reduceAdd,Int.reduceMul,Int.reduceSub,Int.reduceNeg,Int.reduceToNat,reduceIte,Nat.reduceLT,h1]
        ·simp only [go_sem,reduceCtorEq,Nat.reduceEqDiff,Nat.reduceAdd,Nat.reduceSub,Nat.reduceMul,Nat.reduceLeDiff,Int.reduceEq,Int.reduceLT,Int.reduceLE,Int.reduceAdd,Int.reduceMul,Int.reduceSub,Int.reduceNeg,Int.reduceToNat,reduceIte,Nat.reduceLT,h2]
        ·simp only [go_sem,reduceCtorEq,Nat.reduceEqDiff,Nat.reduceAdd,Nat.reduceSub,Nat.reduceMul,Nat.reduceLeDiff,Int.reduceEq,Int.reduceLT,Int.reduceLE,Int.reduceAdd,Int.reduceMul,Int.reduceSub,Int.reduceNeg,Int.reduceToNat,reduceIte,Nat.reduceLT,h9]
        ·simp only [go_sem,reduceCtorEq,Nat.reduceEqDiff,Nat.reduceAdd,Nat.reduceSub,Nat.reduceMul,Nat.reduceLeDiff,Int.reduceEq,Int.reduceLT,Int.reduceLE,Int.reduceAdd,Int.reduceMul,Int.reduceSub,Int.reduceNeg,Int.reduceToNat,reduceIte,Nat.reduceLT,wn]
       ·have hc1 : ¬ ((64 * j + i : Nat) : Int) < (l.length : Int) := by omega
        simp only [go_sem,reduceCtorEq,Nat.reduceEqDiff,Nat.reduceAdd,Nat.reduceSub,Nat.reduceMul,Nat.reduceLeDiff,Int.reduceEq,Int.reduceLT,Int.reduceLE,Int.reduceAdd,Int.reduceMul,Int.reduceSub,Int.reduceNeg,Int.reduceToNat,reduceIte,Nat.reduceLT,h9,h10,h12,hc1]
        unfold Zmz
        simp only [go_sem,reduceCtorEq,Nat.reduceEqDiff,Nat.reduceAdd,Nat.reduceSub,Nat.reduceMul,Nat.reduceLeDiff,Int.reduceEq,Int.reduceLT,Int.reduceLE,Int.reduceAdd,Int.reduceMul,Int.reduceSub,Int.reduceNeg,Int.reduceToNat,reduceIte,Nat.reduceLT,h10,wn]
        refine done _ ?_ ?_ ?_ ?_ ?_
        ·simp only [go_sem,reduceCtorEq,Nat.reduceEqDiff,Nat.reduceAdd,Nat.reduceSub,Nat.reduceMul,Nat.reduceLeDiff,Int.reduceEq,Int.reduceLT,Int.reduceLE,Int.reduceAdd,Int.reduceMul,Int.reduceSub,Int.reduceNeg,Int.reduceToNat,reduceIte,Nat.reduceLT,h0']
        ·simp only [go_sem,reduceCtorEq,Nat.reduceEqDiff,Nat.reduceAdd,Nat.reduceSub,Nat.reduceMul,Nat.reduceLeDiff,Int.reduceEq,Int.reduceLT,Int.reduceLE,Int.reduceAdd,Int.reduceMul,Int.reduceSub,Int.reduceNeg,Int.reduceToNat,reduceIte,Nat.reduceLT,h1]
        ·simp only [go_sem,reduceCtorEq,Nat.reduceEqDiff,Nat.reduceAdd,Nat.reduceSub,Nat.reduceMul,Nat.reduceLeDiff,Int.reduceEq,Int.reduceLT,Int.reduceLE,Int.reduceAdd,Int.reduceMul,Int.reduceSub,Int.reduceNeg,Int.reduceToNat,reduceIte,Nat.reduceLT,h2]
        ·simp only [go_sem,reduceCtorEq,Nat.reduceEqDiff,Nat.reduceAdd,Nat.reduceSub,Nat.reduceMul,Nat.reduceLeDiff,Int.reduceEq,Int.reduceLT,Int.reduceLE,Int.reduceAdd,Int.reduceMul,Int.reduceSub,Int.reduceNeg,Int.reduceToNat,reduceIte,Nat.reduceLT,h9]
        ·simp only [go_sem,reduceCtorEq,Nat.reduceEqDiff,Nat.reduceAdd,Nat.reduceSub,Nat.reduceMul,Nat.reduceLeDiff,Int.reduceEq,Int.reduceLT,Int.reduceLE,Int.reduceAdd,Int.reduceMul,Int.reduceSub,Int.reduceNeg,Int.reduceToNat,reduceIte,Nat.reduceLT,wn]
      exact fin
     | succ k ihk =>
      intro i e H hi h0' h1 h2 h9 h10 h11 h12 hH
      have hp : 64 * j + i < l.length := by omega
      have hc1 : ((64 * j + i : Nat) : Int) < (l.length : Int) := by omega
      have hc2 : ((64 * j + i : Nat) : Int) < ((64 * (j + 1) : Nat) : Int) := by omega
      have wi : IntKind.wrap .i64 (((64 * j + i : Nat) : Int) + 1) = ((64 * j + (i + 1) : Nat) : Int) := by rw [Zr (by omega)]; omega
      have wsub : IntKind.wrap .i64 (((64 * j + i : Nat) : Int) - ((64 * j : Nat) : Int)) = (i : Int) := by rw [Zr (by omega)]; omega
      obtain ⟨x,hx⟩ : ∃ x,l[64 * j + i]? = some x := ⟨l[64 * j + i],by simp [hp]⟩
      have hx2 : ∀ H : Heap,vIx 1 (.c (.slc 0 0 l.length 1 false)) (iC ((64 * j + i : Nat) : Int)) H = some (.c (.ptr 0 (64 * j + i) 0),H) := fun H => Zem hp
      have hbi : (baL bk).data.toList[i]? = some (bk.getD i 0) := by
       have : i < bk.length := by omega
       rw [Zhg]
       simp [this]
      have hxs := fun H => Zbhm (ik := .i64) (H := H) hbi
      have hXp := hXat _ _ hx
      rw [hb4 i (by omega)] at hXp
      have hput := Zze hH (i := 64 * j + i) (x := x ^^^ bk.getD i 0)
      rw [Z61 hXl hXp] at hput
      have hmine : Heap.mine H 0 = true := Zcb hH rfl rfl
      have hz : (mixL X l (64 * j + i))[64 * j + i]? = some x := by rw [Zbg1 hXl hp]; exact hx
      have hrow0 := Zzl hH hz
      refine Zj ?_
      conv => enter [3,1]; unfold Zm2
      simp only [go_sem,reduceCtorEq,Nat.reduceEqDiff,Nat.reduceAdd,Nat.reduceSub,Nat.reduceMul,Nat.reduceLeDiff,Int.reduceEq,Int.reduceLT,Int.reduceLE,Int.reduceAdd,Int.reduceMul,Int.reduceSub,Int.reduceNeg,Int.reduceToNat,reduceIte,Nat.reduceLT,h9,h10,h11,h12,hc1,hc2,wn,wi,wsub,hx2,hrow0,hxs,Zm1,hmine,hput]
      refine ihk (i + 1) _ _ (by omega) ?_ ?_ ?_ ?_ ?_ ?_ ?_ ?_
      ·simp only [go_sem,reduceCtorEq,Nat.reduceEqDiff,Nat.reduceAdd,Nat.reduceSub,Nat.reduceMul,Nat.reduceLeDiff,Int.reduceEq,Int.reduceLT,Int.reduceLE,Int.reduceAdd,Int.reduceMul,Int.reduceSub,Int.reduceNeg,Int.reduceToNat,reduceIte,Nat.reduceLT,h0']
      ·simp only [go_sem,reduceCtorEq,Nat.reduceEqDiff,Nat.reduceAdd,Nat.reduceSub,Nat.reduceMul,Nat.reduceLeDiff,Int.reduceEq,Int.reduceLT,Int.reduceLE,Int.reduceAdd,Int.reduceMul,Int.reduceSub,Int.reduceNeg,Int.reduceToNat,reduceIte,Nat.reduceLT,h1]
      ·simp only [go_sem,reduceCtorEq,Nat.reduceEqDiff,Nat.reduceAdd,Nat.reduceSub,Nat.reduceMul,Nat.reduceLeDiff,Int.reduceEq,Int.reduceLT,Int.reduceLE,Int.reduceAdd,Int.reduceMul,Int.reduceSub,Int.reduceNeg,Int.reduceToNat,reduceIte,Nat.reduceLT,h2]
      ·simp only [go_sem,reduceCtorEq,Nat.reduceEqDiff,Nat.reduceAdd,Nat.reduceSub,Nat.reduceMul,Nat.reduceLeDiff,Int.reduceEq,Int.reduceLT,Int.reduceLE,Int.reduceAdd,Int.reduceMul,Int.reduceSub,Int.reduceNeg,Int.reduceToNat,reduceIte,Nat.reduceLT,h9]
      ·simp only [go_sem,reduceCtorEq,Nat.reduceEqDiff,Nat.reduceAdd,Nat.reduceSub,Nat.reduceMul,Nat.reduceLeDiff,Int.reduceEq,Int.reduceLT,Int.reduceLE,Int.reduceAdd,Int.reduceMul,Int.reduceSub,Int.reduceNeg,Int.reduceToNat,reduceIte,Nat.reduceLT,h10]
      ·simp only [go_sem,reduceCtorEq,Nat.reduceEqDiff,Nat.reduceAdd,Nat.reduceSub,Nat.reduceMul,Nat.reduceLeDiff,Int.reduceEq,Int.reduceLT,Int.reduceLE,Int.reduceAdd,Int.reduceMul,Int.reduceSub,Int.reduceNeg,Int.reduceToNat,reduceIte,Nat.reduceLT,h11]
      ·simp only [go_sem,reduceCtorEq,Nat.reduceEqDiff,Nat.reduceAdd,Nat.reduceSub,Nat.reduceMul,Nat.reduceLeDiff,Int.reduceEq,Int.reduceLT,Int.reduceLE,Int.reduceAdd,Int.reduceMul,Int.reduceSub,Int.reduceNeg,Int.reduceToNat,reduceIte,Nat.reduceLT,wi]
      ·exact Zv hH
    refine inner (min 64 (l.length - 64 * j)) 0 _ _ (by omega) ?_ ?_ ?_ ?_ ?_ ?_ ?_ ?_
    ·simp only [go_sem,reduceCtorEq,Nat.reduceEqDiff,Nat.reduceAdd,Nat.reduceSub,Nat.reduceMul,Nat.reduceLeDiff,Int.reduceEq,Int.reduceLT,Int.reduceLE,Int.reduceAdd,Int.reduceMul,Int.reduceSub,Int.reduceNeg,Int.reduceToNat,reduceIte,Nat.reduceLT,h0']
    ·simp only [go_sem,reduceCtorEq,Nat.reduceEqDiff,Nat.reduceAdd,Nat.reduceSub,Nat.reduceMul,Nat.reduceLeDiff,Int.reduceEq,Int.reduceLT,Int.reduceLE,Int.reduceAdd,Int.reduceMul,Int.reduceSub,Int.reduceNeg,Int.reduceToNat,reduceIte,Nat.reduceLT,h1]
    ·simp only [go_sem,reduceCtorEq,Nat.reduceEqDiff,Nat.reduceAdd,Nat.reduceSub,Nat.reduceMul,Nat.reduceLeDiff,Int.reduceEq,Int.reduceLT,Int.reduceLE,Int.reduceAdd,Int.reduceMul,Int.reduceSub,Int.reduceNeg,Int.reduceToNat,reduceIte,Nat.reduceLT,h2]
    ·simp only [go_sem,reduceCtorEq,Nat.reduceEqDiff,Nat.reduceAdd,Nat.reduceSub,Nat.reduceMul,Nat.reduceLeDiff,Int.reduceEq,Int.reduceLT,Int.reduceLE,Int.reduceAdd,Int.reduceMul,Int.reduceSub,Int.reduceNeg,Int.reduceToNat,reduceIte,Nat.reduceLT,h9]
    ·simp only [go_sem,reduceCtorEq,Nat.reduceEqDiff,Nat.reduceAdd,Nat.reduceSub,Nat.reduceMul,Nat.reduceLeDiff,Int.reduceEq,Int.reduceLT,Int.reduceLE,Int.reduceAdd,Int.reduceMul,Int.reduceSub,Int.reduceNeg,Int.reduceToNat,reduceIte,Nat.reduceLT,h10]
    ·simp only [go_sem,reduceCtorEq,Nat.reduceEqDiff,Nat.reduceAdd,Nat.reduceSub,Nat.reduceMul,Nat.reduceLeDiff,Int.reduceEq,Int.reduceLT,Int.reduceLE,Int.reduceAdd,Int.reduceMul,Int.reduceSub,Int.reduceNeg,Int.reduceToNat,reduceIte,Nat.reduceLT]
    ·simp only [go_sem,reduceCtorEq,Nat.reduceEqDiff,Nat.reduceAdd,Nat.reduceSub,Nat.reduceMul,Nat.reduceLeDiff,Int.reduceEq,Int.reduceLT,Int.reduceLE,Int.reduceAdd,Int.reduceMul,Int.reduceSub,Int.reduceNeg,Int.reduceToNat,reduceIte,Nat.reduceLT,Nat.add_zero]
    ·exact hH
  simp only [go_sem,reduceCtorEq,Nat.reduceEqDiff,Nat.reduceAdd,Nat.reduceSub,Nat.reduceMul,Nat.reduceLeDiff,Int.reduceEq,Int.reduceLT,Int.reduceLE,Int.reduceAdd,Int.reduceMul,Int.reduceSub,Int.reduceNeg,Int.reduceToNat,reduceIte,Nat.reduceLT,hne,w1,w2,w3,c3,hs2b]
  refine outer ((l.length + 63) / 64) 0 _ _ (by omega) ?_ ?_ ?_ ?_ ?_ ?_
  all_goals first | (simp only [go_sem,reduceCtorEq,Nat.reduceEqDiff,Nat.reduceAdd,Nat.reduceSub,Nat.reduceMul,Nat.reduceLeDiff,Int.reduceEq,Int.reduceLT,Int.reduceLE,Int.reduceAdd,Int.reduceMul,Int.reduceSub,Int.reduceNeg,Int.reduceToNat,reduceIte,Nat.reduceLT,Nat.mul_zero,Int.natCast_zero]; done) | rfl
theorem Z6r (n : Int) (i : Nat) (hi : i < 8) : (Zf1 n)[7 - i]? = some (b8 (n.fdiv (2 ^ (8 * i)))) := by
 rw [Zbgk n i hi]
 unfold Zf1
 match i,hi with
 | 0,_ => rfl
 | 1,_ => rfl
 | 2,_ => rfl
 | 3,_ => rfl
 | 4,_ => rfl
 | 5,_ => rfl
 | 6,_ => rfl
 | 7,_ => rfl
def Zma (n : Int) (i : Nat) : List UInt8 := List.replicate (12 - i) 0 ++ (Zf1 n).drop (8 - i)
theorem Zbc7 (n : Int) : Zma n 0 = List.replicate 12 0 := by
 unfold Zma
 rw [List.drop_eq_nil_of_le (by rw [Zwc]; omega),List.append_nil]
theorem Z3t (n : Int) {i : Nat} (hi : i ≤ 8) : (Zma n i).length = 12 := by
 unfold Zma
 rw [List.length_append,List.length_replicate,List.length_drop,Zwc]
 omega
theorem Zbeh (n : Int) : baL (Zma n 8) = Zc6 n := rfl
theorem Zbdb (n : Int) {i : Nat} (hi : i < 8) : (Zma n i).set (11 - i) (b8 (n.fdiv (2 ^ (8 * i)))) = Zma n (i + 1) := by
 unfold Zma
 have h1 : 12 - i = (11 - i) + 1 := by omega
 have h2 : 8 - i = (7 - i) + 1 := by omega
 have h3 : 12 - (i + 1) = 11 - i := by omega
 have h4 : 8 - (i + 1) = 7 - i := by omega
 have he := Z6r n i hi
 obtain ⟨hl,hv⟩ := List.getElem?_eq_some_iff.1 he
 rw [h1,h3,h4,List.replicate_succ',List.append_assoc,List.set_append_right _ _ (by simp),List.length_replicate,Nat.sub_self]
 simp only [List.singleton_append,List.set_cons_zero]
 rw [h2,List.drop_eq_getElem_cons hl,hv]
theorem Zbjz {n : Int} {k : Nat} {H : Heap} (hk : k ≤ 64) : vBin .shr (iC n) (iC ((k : Nat) : Int)) H = some (iC (n.fdiv (2 ^ k)),H) := by
 have h0 : (0 : Int) ≤ ((k : Nat) : Int) := by omega
 have e1 : Nat.min k 64 = k := Nat.min_eq_left hk
 simp only [vBin,Zcq,Zcg,h0,if_true,Int.toNat_natCast,IntKind.bits,e1]
theorem Ztw (n : Int) : Pr 59 [iC n] (sC (Zc6 n)) := by
 refine Zl mixed Z45 rfl fun hl T => ?_
 unfold Zwq
 have hmk := mkN 12 (by omega) (by omega)
 have e12 : (12 : Int) = ((12 : Nat) : Int) := rfl
 rw [← Zbc7 n] at hmk
 have loop : ∀ (k i : Nat) (e : Env) (H : Heap),i + k = 8 → e 0 = iC n → e 3 = .c (.slc 0 0 12 1 false) → e 6 = iC i → H[0]? = some (uBlk (Zma n i)) →
   Run (Zu Tryz.prog T) ⟨[.tmp 2],fun u E => Zf E u = some (sC (Zc6 n))⟩ [.loop Zj4,.blk 0,.code Znb] e H := by
  intro k
  induction k with
  | zero =>
   intro i e H hk h0 h3 h6 hH
   have hi : i = 8 := by omega
   subst hi
   have hc : ¬ (((8 : Nat) : Int) < 8) := by omega
   have hb := Zw6 hH (Z3t n (Nat.le_refl 8)) (by omega)
   refine Zj ?_
   conv => enter [3,1]; unfold Zj4
   simp only [go_sem,reduceCtorEq,Nat.reduceEqDiff,Nat.reduceAdd,Nat.reduceSub,Nat.reduceMul,Nat.reduceLeDiff,Int.reduceEq,Int.reduceLT,Int.reduceLE,Int.reduceAdd,Int.reduceMul,Int.reduceSub,Int.reduceNeg,Int.reduceToNat,reduceIte,Nat.reduceLT,h6,hc]
   unfold Znb
   simp only [go_sem,reduceCtorEq,Nat.reduceEqDiff,Nat.reduceAdd,Nat.reduceSub,Nat.reduceMul,Nat.reduceLeDiff,Int.reduceEq,Int.reduceLT,Int.reduceLE,Int.reduceAdd,Int.reduceMul,Int.reduceSub,Int.reduceNeg,Int.reduceToNat,reduceIte,Nat.reduceLT,h3,hb,Zbeh]
   simp [Zf,Ze,Zi,Zg,Zh,Zd,Zc,Zb]
  | succ k ih =>
   intro i e H hk h0 h3 h6 hH
   have hc : ((i : Int) < 8) := by omega
   have w1 : IntKind.wrap .i64 (11 - (i : Int)) = ((11 - i : Nat) : Int) := by rw [Zr (by omega)]; omega
   have w2 : IntKind.wrap .i64 (8 * (i : Int)) = ((8 * i : Nat) : Int) := by rw [Zr (by omega)]; omega
   have wi : IntKind.wrap .i64 ((i : Int) + 1) = ((i + 1 : Nat) : Int) := by rw [Zr (by omega)]; omega
   have hsh : ∀ H : Heap,vBin .shr (iC n) (iC ((8 * i : Nat) : Int)) H = some (iC (n.fdiv (2 ^ (8 * i))),H) := fun H => Zbjz (by omega)
   have hx : ∀ H : Heap,vIx 1 (.c (.slc 0 0 12 1 false)) (iC ((11 - i : Nat) : Int)) H = some (.c (.ptr 0 (11 - i) 0),H) := fun H => Zem (by omega)
   have hput := Zze hH (i := 11 - i) (x := b8 (n.fdiv (2 ^ (8 * i))))
   rw [Zbdb n (by omega)] at hput
   have hmine : Heap.mine H 0 = true := Zcb hH rfl rfl
   obtain ⟨z,hz⟩ : ∃ z,(Zma n i)[11 - i]? = some z := ⟨_,List.getElem?_eq_getElem (by rw [Z3t n (by omega)]; omega)⟩
   have hrow := Zzl hH hz
   refine Zj ?_
   conv => enter [3,1]; unfold Zj4
   simp only [go_sem,reduceCtorEq,Nat.reduceEqDiff,Nat.reduceAdd,Nat.reduceSub,Nat.reduceMul,Nat.reduceLeDiff,Int.reduceEq,Int.reduceLT,Int.reduceLE,Int.reduceAdd,Int.reduceMul,Int.reduceSub,Int.reduceNeg,Int.reduceToNat,reduceIte,Nat.reduceLT,h0,h3,h6,hc,w1,w2,wi,hsh,Ze1,hx,hrow,hmine,hput]
   refine ih (i + 1) _ _ (by omega) ?_ ?_ ?_ ?_
   ·simp only [go_sem,reduceCtorEq,Nat.reduceEqDiff,Nat.reduceAdd,Nat.reduceSub,Nat.reduceMul,Nat.reduceLeDiff,Int.reduceEq,Int.reduceLT,Int.reduceLE,Int.reduceAdd,Int.reduceMul,Int.reduceSub,Int.reduceNeg,Int.reduceToNat,reduceIte,Nat.reduceLT,h0]
   ·simp only [go_sem,reduceCtorEq,Nat.reduceEqDiff,Nat.reduceAdd,Nat.reduceSub,Nat.reduceMul,Nat.reduceLeDiff,Int.reduceEq,Int.reduceLT,Int.reduceLE,Int.reduceAdd,Int.reduceMul,Int.reduceSub,Int.reduceNeg,Int.reduceToNat,reduceIte,Nat.reduceLT,h3]
   ·simp only [go_sem,reduceCtorEq,Nat.reduceEqDiff,Nat.reduceAdd,Nat.reduceSub,Nat.reduceMul,Nat.reduceLeDiff,Int.reduceEq,Int.reduceLT,Int.reduceLE,Int.reduceAdd,Int.reduceMul,Int.reduceSub,Int.reduceNeg,Int.reduceToNat,reduceIte,Nat.reduceLT,wi]
   ·exact Zv hH
 simp only [go_sem,reduceCtorEq,Nat.reduceEqDiff,Nat.reduceAdd,Nat.reduceSub,Nat.reduceMul,Nat.reduceLeDiff,Int.reduceEq,Int.reduceLT,Int.reduceLE,Int.reduceAdd,Int.reduceMul,Int.reduceSub,Int.reduceNeg,Int.reduceToNat,reduceIte,Nat.reduceLT]
 rw [e12]
 simp only [hmk,go_sem,reduceCtorEq,Nat.reduceEqDiff,Nat.reduceAdd,Nat.reduceSub,Nat.reduceMul,Nat.reduceLeDiff,Int.reduceEq,Int.reduceLT,Int.reduceLE,Int.reduceAdd,Int.reduceMul,Int.reduceSub,Int.reduceNeg,Int.reduceToNat,reduceIte,Nat.reduceLT]
 refine loop 8 0 _ _ (by omega) ?_ ?_ ?_ rfl
 all_goals simp only [go_sem,reduceCtorEq,Nat.reduceEqDiff,Nat.reduceAdd,Nat.reduceSub,Nat.reduceMul,Nat.reduceLeDiff,Int.reduceEq,Int.reduceLT,Int.reduceLE,Int.reduceAdd,Int.reduceMul,Int.reduceSub,Int.reduceNeg,Int.reduceToNat,reduceIte,Nat.reduceLT,Int.natCast_zero,List.length_nil]
theorem Z9m (n : Int) : Pr 154 [iC n] (sC (baL (Zf1 n))) := by
 refine Zl mixed Z86 rfl fun hl T => ?_
 unfold Z0j
 have loop : ∀ (k : Nat) (acc : List UInt8) (e : Env) (H : Heap),k ≤ 8 → acc.length = 8 - k → acc ++ (Zf1 n).drop (8 - k) = Zf1 n → e 0 = iC n → e 4 = iC ((k : Int) - 1) → Acc 1 (acc.map Zt) (e 3) H →
   Run (Zu Tryz.prog T) ⟨[.tmp 2],fun u E => Zf E u = some (sC (baL (Zf1 n)))⟩ [.loop Zmf,.blk 0,.code Zry] e H := by
  intro k
  induction k with
  | zero =>
   intro acc e H hk hl ha h0 h4 hacc
   have h4 : e 4 = iC (-1) := h4
   rw [List.drop_eq_nil_of_le (by rw [Zwc]; omega),List.append_nil] at ha
   subst ha
   have hb := hacc.b2sL
   refine Zj ?_
   conv => enter [3,1]; unfold Zmf
   simp only [go_sem,reduceCtorEq,Nat.reduceEqDiff,Nat.reduceAdd,Nat.reduceSub,Nat.reduceMul,Nat.reduceLeDiff,Int.reduceEq,Int.reduceLT,Int.reduceLE,Int.reduceAdd,Int.reduceMul,Int.reduceSub,Int.reduceNeg,Int.reduceToNat,reduceIte,Nat.reduceLT,h4]
   unfold Zry
   simp only [go_sem,reduceCtorEq,Nat.reduceEqDiff,Nat.reduceAdd,Nat.reduceSub,Nat.reduceMul,Nat.reduceLeDiff,Int.reduceEq,Int.reduceLT,Int.reduceLE,Int.reduceAdd,Int.reduceMul,Int.reduceSub,Int.reduceNeg,Int.reduceToNat,reduceIte,Nat.reduceLT,hb]
   simp [Zf,Ze,Zi,Zg,Zh,Zd,Zc,Zb]
  | succ k ih =>
   intro acc e H hk hl ha h0 h4 hacc
   have h4 : e 4 = iC (k : Int) := by rw [h4]; congr 2; omega
   have hc : (0 : Int) ≤ (k : Int) := by omega
   have w2 : IntKind.wrap .i64 (8 * (k : Int)) = ((8 * k : Nat) : Int) := by rw [Zr (by omega)]; omega
   have wk : IntKind.wrap .i64 ((k : Int) - 1) = (k : Int) - 1 := Zr (by omega)
   have hsh : ∀ H : Heap,vBin .shr (iC n) (iC ((8 * k : Nat) : Int)) H = some (iC (n.fdiv (2 ^ (8 * k))),H) := fun H => Zbjz (by omega)
   have he := Z6r n k (by omega)
   obtain ⟨hl7,hv⟩ := List.getElem?_eq_some_iff.1 he
   have hd : (Zf1 n).drop (8 - (k + 1)) = b8 (n.fdiv (2 ^ (8 * k))) :: (Zf1 n).drop (8 - k) := by
    have e1 : 8 - (k + 1) = 7 - k := by omega
    rw [e1,List.drop_eq_getElem_cons hl7,hv]
    congr 2
    omega
   refine Zj ?_
   conv => enter [3,1]; unfold Zmf
   simp only [go_sem,reduceCtorEq,Nat.reduceEqDiff,Nat.reduceAdd,Nat.reduceSub,Nat.reduceMul,Nat.reduceLeDiff,Int.reduceEq,Int.reduceLT,Int.reduceLE,Int.reduceAdd,Int.reduceMul,Int.reduceSub,Int.reduceNeg,Int.reduceToNat,reduceIte,Nat.reduceLT,h0,h4,hc,w2,hsh,Ze1]
   refine Acc.app_step hacc (by simp; omega) fun v' H' ha' => ?_
   simp only [go_sem,reduceCtorEq,Nat.reduceEqDiff,Nat.reduceAdd,Nat.reduceSub,Nat.reduceMul,Nat.reduceLeDiff,Int.reduceEq,Int.reduceLT,Int.reduceLE,Int.reduceAdd,Int.reduceMul,Int.reduceSub,Int.reduceNeg,Int.reduceToNat,reduceIte,Nat.reduceLT,h4,wk]
   refine ih (acc ++ [b8 (n.fdiv (2 ^ (8 * k)))]) _ _ (by omega) (by simp; omega) ?_ ?_ ?_ ?_
   ·rw [hd] at ha; rw [List.append_assoc]; exact ha
   ·simp only [go_sem,reduceCtorEq,Nat.reduceEqDiff,Nat.reduceAdd,Nat.reduceSub,Nat.reduceMul,Nat.reduceLeDiff,Int.reduceEq,Int.reduceLT,Int.reduceLE,Int.reduceAdd,Int.reduceMul,Int.reduceSub,Int.reduceNeg,Int.reduceToNat,reduceIte,Nat.reduceLT,h0]
   ·simp only [go_sem,reduceCtorEq,Nat.reduceEqDiff,Nat.reduceAdd,Nat.reduceSub,Nat.reduceMul,Nat.reduceLeDiff,Int.reduceEq,Int.reduceLT,Int.reduceLE,Int.reduceAdd,Int.reduceMul,Int.reduceSub,Int.reduceNeg,Int.reduceToNat,reduceIte,Nat.reduceLT,wk]
   ·simp only [go_sem,reduceCtorEq,Nat.reduceEqDiff,Nat.reduceAdd,Nat.reduceSub,Nat.reduceMul,Nat.reduceLeDiff,Int.reduceEq,Int.reduceLT,Int.reduceLE,Int.reduceAdd,Int.reduceMul,Int.reduceSub,Int.reduceNeg,Int.reduceToNat,reduceIte,Nat.reduceLT]; rw [List.map_append]; exact ha'
 simp only [go_sem,reduceCtorEq,Nat.reduceEqDiff,Nat.reduceAdd,Nat.reduceSub,Nat.reduceMul,Nat.reduceLeDiff,Int.reduceEq,Int.reduceLT,Int.reduceLE,Int.reduceAdd,Int.reduceMul,Int.reduceSub,Int.reduceNeg,Int.reduceToNat,reduceIte,Nat.reduceLT]
 refine loop 8 [] _ _ (Nat.le_refl _) rfl rfl ?_ ?_ ?_
 ·simp only [go_sem,reduceCtorEq,Nat.reduceEqDiff,Nat.reduceAdd,Nat.reduceSub,Nat.reduceMul,Nat.reduceLeDiff,Int.reduceEq,Int.reduceLT,Int.reduceLE,Int.reduceAdd,Int.reduceMul,Int.reduceSub,Int.reduceNeg,Int.reduceToNat,reduceIte,Nat.reduceLT]
 ·simp only [go_sem,reduceCtorEq,Nat.reduceEqDiff,Nat.reduceAdd,Nat.reduceSub,Nat.reduceMul,Nat.reduceLeDiff,Int.reduceEq,Int.reduceLT,Int.reduceLE,Int.reduceAdd,Int.reduceMul,Int.reduceSub,Int.reduceNeg,Int.reduceToNat,reduceIte,Nat.reduceLT]; rfl
 ·simp only [go_sem,reduceCtorEq,Nat.reduceEqDiff,Nat.reduceAdd,Nat.reduceSub,Nat.reduceMul,Nat.reduceLeDiff,Int.reduceEq,Int.reduceLT,Int.reduceLE,Int.reduceAdd,Int.reduceMul,Int.reduceSub,Int.reduceNeg,Int.reduceToNat,reduceIte,Nat.reduceLT]; exact .nil
theorem Zpf (key nonce : ByteArray) (n : Int) (h : key.size = 64 ∧ nonce.size = 12 ∧ n ≤ 1048576) : Pr 104 [sC key,sC nonce,iC n] (.c .nilI) := by
 obtain ⟨h1,h2,h3⟩ := h
 refine Zl mixed Zv8 rfl fun hl T => ?_
 unfold Zrv
 have c1 : ((key.size : Int) = 64) := by omega
 have c2 : ((nonce.size : Int) = 12) := by omega
 have c3 : ¬ ((1048576 : Int) < n) := by omega
 simp only [go_sem,reduceCtorEq,Nat.reduceEqDiff,Nat.reduceAdd,Nat.reduceSub,Nat.reduceMul,Nat.reduceLeDiff,Int.reduceEq,Int.reduceLT,Int.reduceLE,Int.reduceAdd,Int.reduceMul,Int.reduceSub,Int.reduceNeg,Int.reduceToNat,reduceIte,Nat.reduceLT,c1,c2,c3]
 simp [Zf,Ze,Zi,Zg,Zh,Zd,Zc,Zb]
def Zgs : ByteArray := ⟨#[115,105,122,101]⟩
def Zwa : ByteArray := ⟨#[115,105,122,101,115]⟩
def tagS : ByteArray := ⟨#[116,97,103]⟩
def Zju : ByteArray := ⟨#[111,112,101,110]⟩
theorem Zus (key nonce : ByteArray) (n : Int) (h : ¬ (key.size = 64 ∧ nonce.size = 12 ∧ n ≤ 1048576)) : Pr 104 [sC key,sC nonce,iC n] (.c (Zny Zwa Zgs)) := by
 refine Zl mixed Zv8 rfl fun hl T => ?_
 unfold Zrv
 by_cases h1 : key.size = 64
 ·have c1 : ((key.size : Int) = 64) := by omega
  by_cases h2 : nonce.size = 12
  ·have c2 : ((nonce.size : Int) = 12) := by omega
   have c3 : ((1048576 : Int) < n) := by omega
   simp only [go_sem,reduceCtorEq,Nat.reduceEqDiff,Nat.reduceAdd,Nat.reduceSub,Nat.reduceMul,Nat.reduceLeDiff,Int.reduceEq,Int.reduceLT,Int.reduceLE,Int.reduceAdd,Int.reduceMul,Int.reduceSub,Int.reduceNeg,Int.reduceToNat,reduceIte,Nat.reduceLT,c1,c2,c3,vMkI,Zcg]
   simp [Zf,Ze,Zi,Zg,Zh,Zd,Zc,Zb,Zwa,Zgs]
  ·have c2 : ¬ ((nonce.size : Int) = 12) := by omega
   simp only [go_sem,reduceCtorEq,Nat.reduceEqDiff,Nat.reduceAdd,Nat.reduceSub,Nat.reduceMul,Nat.reduceLeDiff,Int.reduceEq,Int.reduceLT,Int.reduceLE,Int.reduceAdd,Int.reduceMul,Int.reduceSub,Int.reduceNeg,Int.reduceToNat,reduceIte,Nat.reduceLT,c1,c2,vMkI,Zcg]
   simp [Zf,Ze,Zi,Zg,Zh,Zd,Zc,Zb,Zwa,Zgs]
 ·have c1 : ¬ ((key.size : Int) = 64) := by omega
  simp only [go_sem,reduceCtorEq,Nat.reduceEqDiff,Nat.reduceAdd,Nat.reduceSub,Nat.reduceMul,Nat.reduceLeDiff,Int.reduceEq,Int.reduceLT,Int.reduceLE,Int.reduceAdd,Int.reduceMul,Int.reduceSub,Int.reduceNeg,Int.reduceToNat,reduceIte,Nat.reduceLT,c1,vMkI,Zcg]
  simp [Zf,Ze,Zi,Zg,Zh,Zd,Zc,Zb,Zwa,Zgs]
theorem cat4 (a b c d : ByteArray) : catS [a,b,c,d] = a ++ b ++ c ++ d := by
 rw [Zee,Zee,Zee,Zep,ByteArray.append_assoc,ByteArray.append_assoc]
theorem Z0p (key nonce ad c : ByteArray) (hk : key.size = 64) (hn : nonce.size = 12) (ha : ad.size ≤ 1000000) (hc : c.size ≤ 2000000) : Pr 106 [sC key,sC nonce,sC ad,sC c] (sC (Zdw key nonce ad c)) := by
 have hsz := Z9m (ad.size : Int)
 have he : (baL (Zf1 (ad.size : Int))).size = 8 := rfl
 have hm := Zrm (key.extract 32 key.size) [baL (Zf1 (ad.size : Int)),ad,nonce,c] (by rw [ByteArray.size_extract]; omega) (by simp) (by rw [cat4]; simp only [ByteArray.size_append]; omega)
 rw [cat4] at hm
 have hms := Zev (key.extract 32 key.size) (baL (Zf1 (ad.size : Int)) ++ ad ++ nonce ++ c)
 unfold Zdw
 generalize macD (key.extract 32 key.size) (baL (Zf1 (ad.size : Int)) ++ ad ++ nonce ++ c) = M at hm hms ⊢
 generalize baL (Zf1 (ad.size : Int)) = E at hsz hm
 refine Zl mixed Zbb8 rfl fun hl T => ?_
 unfold Z39
 have h32 : ∀ (e : Env) (H : Heap),vSlS (sC key) e (some (.k (.c (.int .i64 32)))) none H = some (sC (key.extract 32 key.size),H) := fun e H => Zoz (k := 32) rfl (by omega)
 have h16 : ∀ (e : Env) (H : Heap),vSlS (sC M) e none (some (.k (.c (.int .i64 16)))) H = some (sC (M.extract 0 16),H) := fun e H => Zf8 (k := 16) rfl (by omega)
 simp only [go_sem,reduceCtorEq,Nat.reduceEqDiff,Nat.reduceAdd,Nat.reduceSub,Nat.reduceMul,Nat.reduceLeDiff,Int.reduceEq,Int.reduceLT,Int.reduceLE,Int.reduceAdd,Int.reduceMul,Int.reduceSub,Int.reduceNeg,Int.reduceToNat,reduceIte,Nat.reduceLT,h32]
 refine Za hsz ?_
 simp only [go_sem,reduceCtorEq,Nat.reduceEqDiff,Nat.reduceAdd,Nat.reduceSub,Nat.reduceMul,Nat.reduceLeDiff,Int.reduceEq,Int.reduceLT,Int.reduceLE,Int.reduceAdd,Int.reduceMul,Int.reduceSub,Int.reduceNeg,Int.reduceToNat,reduceIte,Nat.reduceLT]
 refine Za hm ?_
 simp only [go_sem,reduceCtorEq,Nat.reduceEqDiff,Nat.reduceAdd,Nat.reduceSub,Nat.reduceMul,Nat.reduceLeDiff,Int.reduceEq,Int.reduceLT,Int.reduceLE,Int.reduceAdd,Int.reduceMul,Int.reduceSub,Int.reduceNeg,Int.reduceToNat,reduceIte,Nat.reduceLT,h16]
 simp [Zf,Ze,Zi,Zg,Zh,Zd,Zc,Zb]
theorem Zth {key : ByteArray} (h : key.size = 64) : (key.extract 0 32).size = 32 := by rw [ByteArray.size_extract]; omega
theorem Zxq (key nonce s : ByteArray) (hk : key.size = 64) (hn : nonce.size = 12) (hs : s.size ≤ 1048576) : Pr 105 [sC key,sC nonce,sC s] (sC (Zc5 key nonce s)) := by
 have hx := Z4u (key.extract 0 32) nonce s (Zth hk) hn hs
 refine Zl mixed Z97 rfl fun hl T => ?_
 unfold Z1k
 have h32 : ∀ (e : Env) (H : Heap),vSlS (sC key) e none (some (.k (.c (.int .i64 32)))) H = some (sC (key.extract 0 32),H) := fun e H => Zf8 (k := 32) rfl (by omega)
 have hb : ∀ (H : Heap),vB2s (ubC (xorS (key.extract 0 32) nonce 1 s)) H = some (sC (Zc5 key nonce s),H) := fun H => by
  simp only [vB2s,Z5,beq_self_eq_true,if_true,Heap.rowsOf,Zid]
  rfl
 have hsb : ∀ H : Heap,mkF H (vS2b (sC s) H) = some (ubC s) := fun H => by rw [Zbku (by omega),Zke]
 simp only [go_sem,simprocAttr,h32,hsb]
 refine Za hx ?_
 simp only [go_sem,simprocAttr,hb]
 simp [Zf,Ze,Zi,Zg,Zh,Zd,Zc,Zb]
theorem Z93 (key nonce ad plain : ByteArray) (ha : ad.size ≤ 1000000) : Pr 58 [sC key,sC nonce,sC ad,sC plain] (sC (Zdj key nonce ad plain)) := by
 refine Zl mixed Z80 rfl fun hl T => ?_
 unfold Zz5
 by_cases h : Zm9 key nonce plain.size
 ·obtain ⟨h1,h2,h3⟩ := h
  have e1 := Zpf key nonce (plain.size : Int) ⟨h1,h2,by omega⟩
  have e2 := Ztj Zgs
  have e3 := Zxq key nonce plain h1 h2 h3
  have hs := Zlg key nonce plain
  have e4 := Z0p key nonce ad (Zc5 key nonce plain) h1 h2 ha (by omega)
  have ts := Zrc key nonce ad (Zc5 key nonce plain)
  have hv : Zdj key nonce ad plain = Zc5 key nonce plain ++ Zdw key nonce ad (Zc5 key nonce plain) := by unfold Zdj; rw [if_pos ⟨h1,h2,h3⟩]
  rw [hv]
  generalize Zdw key nonce ad (Zc5 key nonce plain) = tg at e4 ts ⊢
  generalize Zc5 key nonce plain = hd at e3 e4 hs ⊢
  have c1 : ∀ H : Heap,vBin .add (sC hd) (sC tg) H = some (sC (hd ++ tg),H) := fun H => Zdg (by omega)
  simp only [go_sem,simprocAttr]
  refine Za e1 ?_
  simp only [go_sem,simprocAttr]
  refine Za e2 ?_
  simp only [go_sem,simprocAttr]
  refine Za e3 ?_
  simp only [go_sem,simprocAttr]
  refine Za e4 ?_
  simp only [go_sem,simprocAttr,c1]
  simp [Zf,Ze,Zi,Zg,Zh,Zd,Zc,Zb]
 ·have hv : Zdj key nonce ad plain = Z2 := by unfold Zdj; rw [if_neg h]
  rw [hv]
  have e1 := Zus key nonce (plain.size : Int) (fun ⟨h1,h2,h3⟩ => h ⟨h1,h2,by omega⟩)
  have e2 := Zzy Zwa Zgs Zgs
  rw [decide_eq_true rfl] at e2
  simp only [go_sem,simprocAttr]
  refine Za e1 ?_
  simp only [go_sem,simprocAttr]
  refine Za e2 ?_
  simp only [go_sem,simprocAttr]
  simp [Zf,Ze,Zi,Zg,Zh,Zd,Zc,Zb]
def optS (o : Option ByteArray) : ByteArray := o.getD Z2
theorem Z9y (key nonce ad s : ByteArray) (ha : ad.size ≤ 1000000) (hs0 : s.size ≤ 4611686018427387904) : ∃ err : Cell,Pr 107 [sC key,sC nonce,sC ad,sC s] (.tup [sC (optS (Zcr key nonce ad s)),.c err]) ∧ (match Zcr key nonce ad s with | some _ => err = .nilI | none => err = Zny Zju Zgs ∨ err = Zny Zju tagS) := by
 by_cases h : key.size = 64 ∧ nonce.size = 12 ∧ 16 ≤ s.size ∧ s.size ≤ 1048592
 ·obtain ⟨h1,h2,h3,h4⟩ := h
  have w1 : IntKind.wrap .i64 ((s.size : Int) - 16) = ((s.size - 16 : Nat) : Int) := by rw [Zr (by omega)]; omega
  have e1 := Zpf key nonce ((s.size - 16 : Nat) : Int) ⟨h1,h2,by omega⟩
  have hl1 : ∀ (e : Env) (H : Heap),e 30 = iC ((s.size - 16 : Nat) : Int) → vSlS (sC s) e none (some (.t 30)) H = some (sC (s.extract 0 (s.size - 16)),H) := fun e H ht => Zf8 (k := s.size - 16) (ik := .i64) (by simpa [Opd.ev] using ht) (by omega)
  have hl2 : ∀ (e : Env) (H : Heap),e 33 = iC ((s.size - 16 : Nat) : Int) → vSlS (sC s) e (some (.t 33)) none H = some (sC (s.extract (s.size - 16) s.size),H) := fun e H ht => Zoz (k := s.size - 16) (ik := .i64) (by simpa [Opd.ev] using ht) (by omega)
  have hds : (s.extract 0 (s.size - 16)).size = s.size - 16 := by rw [ByteArray.size_extract]; omega
  have hts : (s.extract (s.size - 16) s.size).size = 16 := by rw [ByteArray.size_extract]; omega
  have e3 := Z0p key nonce ad (s.extract 0 (s.size - 16)) h1 h2 ha (by omega)
  have e4 := Zua (s.extract (s.size - 16) s.size) (Zdw key nonce ad (s.extract 0 (s.size - 16))) (by omega)
  have e5 := Zxq key nonce (s.extract 0 (s.size - 16)) h1 h2 (by omega)
  have c0 : ¬ (((s.size - 16 : Nat) : Int) < 0) := by omega
  by_cases ht : s.extract (s.size - 16) s.size = Zdw key nonce ad (s.extract 0 (s.size - 16))
  ·have hv : Zcr key nonce ad s = some (Zc5 key nonce (s.extract 0 (s.size - 16))) := by unfold Zcr; rw [if_pos ⟨h1,h2,h3,h4,ht.symm⟩]
   rw [decide_eq_true ht] at e4
   refine ⟨.nilI,?_,by rw [hv]⟩
   rw [hv]
   refine Zl mixed Zrf rfl fun hl T => ?_
   unfold Zn2
   show Run _ ⟨_,fun u E => Zf E u = some (.tup [sC (Zc5 key nonce (s.extract 0 (s.size - 16))),.c .nilI])⟩ _ _ _
   generalize Zc5 key nonce (s.extract 0 (s.size - 16)) = hd at e5 ⊢
   generalize Zdw key nonce ad (s.extract 0 (s.size - 16)) = tg at e3 e4
   generalize s.extract 0 (s.size - 16) = c at hl1 e3 e5 hds
   generalize s.extract (s.size - 16) s.size = g at hl2 e4 hts
   generalize hnn : ((s.size - 16 : Nat) : Int) = nn at *
   simp only [go_sem,simprocAttr,w1]
   refine Za e1 ?_
   simp only [go_sem,simprocAttr,bne_self_eq_false,c0,hl1,hl2]
   refine Za e3 ?_
   simp only [go_sem,simprocAttr]
   refine Za e4 ?_
   simp only [go_sem,simprocAttr]
   refine Za e5 ?_
   simp only [go_sem,simprocAttr]
   simp [Zf,Ze,Zi,Zg,Zh,Zd,Zc,Zb]
  ·have hv : Zcr key nonce ad s = none := by unfold Zcr; rw [if_neg (fun h => ht h.2.2.2.2.symm)]
   rw [decide_eq_false ht] at e4
   refine ⟨Zny Zju tagS,?_,by rw [hv]; exact .inr rfl⟩
   rw [hv]
   refine Zl mixed Zrf rfl fun hl T => ?_
   unfold Zn2
   generalize Zdw key nonce ad (s.extract 0 (s.size - 16)) = tg at e3 e4
   generalize s.extract 0 (s.size - 16) = c at hl1 e3 hds
   generalize s.extract (s.size - 16) s.size = g at hl2 e4 hts
   generalize hnn : ((s.size - 16 : Nat) : Int) = nn at *
   simp only [go_sem,simprocAttr,w1]
   refine Za e1 ?_
   simp only [go_sem,simprocAttr,bne_self_eq_false,c0,hl1,hl2]
   refine Za e3 ?_
   simp only [go_sem,simprocAttr]
   refine Za e4 ?_
   simp only [go_sem,simprocAttr]
   simp [Zf,Ze,Zi,Zg,Zh,Zd,Zc,Zb,optS,Zju,tagS]
 ·have hv : Zcr key nonce ad s = none := by unfold Zcr; rw [if_neg (fun h' => h ⟨h'.1,h'.2.1,h'.2.2.1,h'.2.2.2.1⟩)]
  have w1 : IntKind.wrap .i64 ((s.size : Int) - 16) = (s.size : Int) - 16 := Zr (by omega)
  refine ⟨Zny Zju Zgs,?_,by rw [hv]; exact .inl rfl⟩
  rw [hv]
  refine Zl mixed Zrf rfl fun hl T => ?_
  unfold Zn2
  by_cases h' : key.size = 64 ∧ nonce.size = 12 ∧ (s.size : Int) - 16 ≤ 1048576
  ·have e1 := Zpf key nonce ((s.size : Int) - 16) h'
   have c0 : ((s.size : Int) - 16 < 0) := by omega
   simp only [go_sem,simprocAttr,w1]
   refine Za e1 ?_
   simp only [go_sem,simprocAttr,bne_self_eq_false,c0]
   simp [Zf,Ze,Zi,Zg,Zh,Zd,Zc,Zb,optS,Zju,Zgs]
  ·have e1 := Zus key nonce ((s.size : Int) - 16) h'
   simp only [go_sem,simprocAttr,w1]
   refine Za e1 ?_
   have tb : (true != false) = true := rfl
   simp only [go_sem,simprocAttr,tb]
   simp [Zf,Ze,Zi,Zg,Zh,Zd,Zc,Zb,optS,Zju,Zgs]
theorem Z85 (key nonce ad s : ByteArray) (ha : ad.size ≤ 1000000) (hs0 : s.size ≤ 4611686018427387904) : Pr 64 [sC key,sC nonce,sC ad,sC s] (.tup [sC (optS (Zcr key nonce ad s)),bC (Zcr key nonce ad s).isSome]) := by
 obtain ⟨err,h1,h2⟩ := Z9y key nonce ad s ha hs0
 cases hv : Zcr key nonce ad s with
 | some x =>
  rw [hv] at h1 h2
  have h2 : err = .nilI := h2
  subst h2
  have e1 := Ztj Zgs
  have e2 := Ztj tagS
  refine Zl mixed Zra rfl fun hl T => ?_
  unfold Zop
  simp only [go_sem,simprocAttr]
  refine Za h1 ?_
  simp only [go_sem,simprocAttr]
  refine Za e1 ?_
  simp only [go_sem,simprocAttr]
  refine Za e2 ?_
  simp only [go_sem,simprocAttr]
  simp [Zf,Ze,Zi,Zg,Zh,Zd,Zc,Zb]
 | none =>
  rw [hv] at h1 h2
  have h2 : err = Zny Zju Zgs ∨ err = Zny Zju tagS := h2
  rcases h2 with rfl | rfl
  ·have e1 := Zzy Zju Zgs Zgs
   rw [decide_eq_true rfl] at e1
   refine Zl mixed Zra rfl fun hl T => ?_
   unfold Zop
   simp only [go_sem,simprocAttr]
   refine Za h1 ?_
   simp only [go_sem,simprocAttr]
   refine Za e1 ?_
   simp only [go_sem,simprocAttr]
   simp [Zf,Ze,Zi,Zg,Zh,Zd,Zc,Zb]
  ·have e1 := Zzy Zju tagS Zgs
   have e2 := Zzy Zju tagS tagS
   rw [decide_eq_false (by decide)] at e1
   rw [decide_eq_true rfl] at e2
   refine Zl mixed Zra rfl fun hl T => ?_
   unfold Zop
   simp only [go_sem,simprocAttr]
   refine Za h1 ?_
   simp only [go_sem,simprocAttr]
   refine Za e1 ?_
   simp only [go_sem,simprocAttr]
   refine Za e2 ?_
   simp only [go_sem,simprocAttr]
   simp [Zf,Ze,Zi,Zg,Zh,Zd,Zc,Zb]
theorem Z3w (key nonce ad c : ByteArray) (hk : key.size = 64) (hn : nonce.size = 12) (ha : ad.size ≤ 1000000) (hc : c.size ≤ 2000000) : Pr 121 [sC key,sC nonce,sC ad,sC c] (sC (Zdw key nonce ad c)) := by
 have hsz := Zjk (ad.size : Int)
 have he : (baL (Zdc (IntKind.wrap .u64 (ad.size : Int)))).size = 8 := rfl
 have hm := Ziu (key.extract 32 key.size) (baL (Zdc (IntKind.wrap .u64 (ad.size : Int))) ++ ad ++ nonce ++ c) (by rw [ByteArray.size_extract]; omega) (by simp only [ByteArray.size_append]; omega)
 have hms := Zev (key.extract 32 key.size) (baL (Zdc (IntKind.wrap .u64 (ad.size : Int))) ++ ad ++ nonce ++ c)
 have hv : Zdw key nonce ad c = (macD (key.extract 32 key.size) (baL (Zdc (IntKind.wrap .u64 (ad.size : Int))) ++ ad ++ nonce ++ c)).extract 0 16 := rfl
 rw [hv]
 generalize macD (key.extract 32 key.size) (baL (Zdc (IntKind.wrap .u64 (ad.size : Int))) ++ ad ++ nonce ++ c) = M at hm hms ⊢
 generalize baL (Zdc (IntKind.wrap .u64 (ad.size : Int))) = E at hsz hm he
 refine Zl mixed Zbgf rfl fun hl T => ?_
 unfold Z7z
 have h32 : ∀ (e : Env) (H : Heap),vSlS (sC key) e (some (.k (.c (.int .i64 32)))) none H = some (sC (key.extract 32 key.size),H) := fun e H => Zoz (k := 32) rfl (by omega)
 have h16 : ∀ (e : Env) (H : Heap),vSlS (sC M) e none (some (.k (.c (.int .i64 16)))) H = some (sC (M.extract 0 16),H) := fun e H => Zf8 (k := 16) rfl (by omega)
 have c1 : ∀ H : Heap,vBin .add (sC E) (sC ad) H = some (sC (E ++ ad),H) := fun H => Zdg (by omega)
 have c2 : ∀ H : Heap,vBin .add (sC (E ++ ad)) (sC nonce) H = some (sC (E ++ ad ++ nonce),H) := fun H => Zdg (by rw [ByteArray.size_append]; omega)
 have c3 : ∀ H : Heap,vBin .add (sC (E ++ ad ++ nonce)) (sC c) H = some (sC (E ++ ad ++ nonce ++ c),H) := fun H => Zdg (by rw [ByteArray.size_append,ByteArray.size_append]; omega)
 simp only [go_sem,simprocAttr,h32]
 refine Za hsz ?_
 simp only [go_sem,simprocAttr,c1,c2,c3]
 refine Za hm ?_
 simp only [go_sem,simprocAttr,h16]
 simp [Zf,Ze,Zi,Zg,Zh,Zd,Zc,Zb]
theorem Zbcg (key nonce ad plain : ByteArray) (ha : ad.size ≤ 1000000) : Pr 72 [sC key,sC nonce,sC ad,sC plain] (sC (Zdj key nonce ad plain)) := by
 refine Zl mixed Zbbj rfl fun hl T => ?_
 unfold Z3k
 by_cases h : Zm9 key nonce plain.size
 ·obtain ⟨h1,h2,h3⟩ := h
  have e3 := Z3d (key.extract 0 32) nonce plain (Zth h1) h2 h3
  have hx : xorS (key.extract 0 32) nonce 1 plain = Zc5 key nonce plain := rfl
  rw [hx] at e3
  have hs := Zlg key nonce plain
  have e4 := Z3w key nonce ad (Zc5 key nonce plain) h1 h2 ha (by omega)
  have ts := Zrc key nonce ad (Zc5 key nonce plain)
  have hv : Zdj key nonce ad plain = Zc5 key nonce plain ++ Zdw key nonce ad (Zc5 key nonce plain) := by unfold Zdj; rw [if_pos ⟨h1,h2,h3⟩]
  rw [hv]
  generalize Zdw key nonce ad (Zc5 key nonce plain) = tg at e4 ts ⊢
  generalize Zc5 key nonce plain = hd at e3 e4 hs ⊢
  have d1 : ((key.size : Int) = 64) := by omega
  have d2 : ((nonce.size : Int) = 12) := by omega
  have d3 : ¬ ((1048576 : Int) < (plain.size : Int)) := by omega
  have c1 : ∀ H : Heap,vBin .add (sC hd) (sC tg) H = some (sC (hd ++ tg),H) := fun H => Zdg (by omega)
  have h32 : ∀ (e : Env) (H : Heap),vSlS (sC key) e none (some (.k (.c (.int .i64 32)))) H = some (sC (key.extract 0 32),H) := fun e H => Zf8 (k := 32) rfl (by omega)
  simp only [go_sem,simprocAttr,d1,d2,d3,h32]
  refine Za e3 ?_
  simp only [go_sem,simprocAttr]
  refine Za e4 ?_
  simp only [go_sem,simprocAttr,c1]
  simp [Zf,Ze,Zi,Zg,Zh,Zd,Zc,Zb]
 ·have hv : Zdj key nonce ad plain = Z2 := by unfold Zdj; rw [if_neg h]
  rw [hv]
  by_cases h1 : key.size = 64
  ·have d1 : ((key.size : Int) = 64) := by omega
   by_cases h2 : nonce.size = 12
   ·have d2 : ((nonce.size : Int) = 12) := by omega
    have d3 : ((1048576 : Int) < (plain.size : Int)) := by
     refine Int.not_le.1 fun hle => h ⟨h1,h2,by omega⟩
    simp only [go_sem,simprocAttr,d1,d2,d3]
    simp [Zf,Ze,Zi,Zg,Zh,Zd,Zc,Zb]
   ·have d2 : ¬ ((nonce.size : Int) = 12) := by omega
    simp only [go_sem,simprocAttr,d1,d2]
    simp [Zf,Ze,Zi,Zg,Zh,Zd,Zc,Zb]
  ·have d1 : ¬ ((key.size : Int) = 64) := by omega
   simp only [go_sem,simprocAttr,d1]
   simp [Zf,Ze,Zi,Zg,Zh,Zd,Zc,Zb]
theorem Zba4 (key nonce ad s : ByteArray) (ha : ad.size ≤ 1000000) (hs0 : s.size ≤ 4611686018427387904) : Pr 76 [sC key,sC nonce,sC ad,sC s] (.agg [.str (optS (Zcr key nonce ad s)),.bool (Zcr key nonce ad s).isSome]) := by
 refine Zl mixed Zbbs rfl fun hl T => ?_
 unfold Z3o
 have w0 : IntKind.wrap .i64 ((s.size : Int) - 16) = (s.size : Int) - 16 := Zr (by omega)
 by_cases h1 : key.size = 64
 ·have d1 : ((key.size : Int) = 64) := by omega
  by_cases h2 : nonce.size = 12
  ·have d2 : ((nonce.size : Int) = 12) := by omega
   by_cases h3 : 16 ≤ s.size
   ·have d3 : ¬ ((s.size : Int) - 16 < 0) := by omega
    by_cases h4 : s.size ≤ 1048592
    ·have d4 : ¬ ((1048576 : Int) < (s.size : Int) - 16) := by omega
     have en : ((s.size : Int) - 16) = ((s.size - 16 : Nat) : Int) := by omega
     have hl1 : ∀ (e : Env) (H : Heap),e 34 = iC ((s.size : Int) - 16) → vSlS (sC s) e none (some (.t 34)) H = some (sC (s.extract 0 (s.size - 16)),H) := fun e H ht => Zf8 (k := s.size - 16) (ik := .i64) (by rw [← en]; simpa [Opd.ev] using ht) (by omega)
     have hl3 : ∀ (e : Env) (H : Heap),e 47 = iC ((s.size : Int) - 16) → vSlS (sC s) e none (some (.t 47)) H = some (sC (s.extract 0 (s.size - 16)),H) := fun e H ht => Zf8 (k := s.size - 16) (ik := .i64) (by rw [← en]; simpa [Opd.ev] using ht) (by omega)
     have hl2 : ∀ (e : Env) (H : Heap),e 38 = iC ((s.size : Int) - 16) → vSlS (sC s) e (some (.t 38)) none H = some (sC (s.extract (s.size - 16) s.size),H) := fun e H ht => Zoz (k := s.size - 16) (ik := .i64) (by rw [← en]; simpa [Opd.ev] using ht) (by omega)
     have h32 : ∀ (e : Env) (H : Heap),vSlS (sC key) e none (some (.k (.c (.int .i64 32)))) H = some (sC (key.extract 0 32),H) := fun e H => Zf8 (k := 32) rfl (by omega)
     have hds : (s.extract 0 (s.size - 16)).size = s.size - 16 := by rw [ByteArray.size_extract]; omega
     have e3 := Z3w key nonce ad (s.extract 0 (s.size - 16)) h1 h2 ha (by omega)
     have e5 := Z3d (key.extract 0 32) nonce (s.extract 0 (s.size - 16)) (Zth h1) h2 (by omega)
     have hx : xorS (key.extract 0 32) nonce 1 (s.extract 0 (s.size - 16)) = Zc5 key nonce (s.extract 0 (s.size - 16)) := rfl
     rw [hx] at e5
     by_cases ht : Zdw key nonce ad (s.extract 0 (s.size - 16)) = s.extract (s.size - 16) s.size
     ·have hv : Zcr key nonce ad s = some (Zc5 key nonce (s.extract 0 (s.size - 16))) := by unfold Zcr; rw [if_pos ⟨h1,h2,h3,h4,ht⟩]
      rw [hv]
      rw [ht] at e3
      generalize Zc5 key nonce (s.extract 0 (s.size - 16)) = hd at e5 ⊢
      generalize s.extract 0 (s.size - 16) = c at hl1 hl3 e3 e5 hds
      generalize s.extract (s.size - 16) s.size = g at hl2 e3
      simp only [go_sem,simprocAttr,w0,d1,d2,d3,d4,hl1]
      refine Za e3 ?_
      simp only [go_sem,simprocAttr,hl2,h32,hl3]
      refine Za e5 ?_
      simp only [go_sem,simprocAttr]
      simp [Zf,Ze,Zi,Zg,Zh,Zd,Zc,Zb,optS]
     ·have hv : Zcr key nonce ad s = none := by unfold Zcr; rw [if_neg (fun h => ht h.2.2.2.2)]
      rw [hv]
      generalize Zdw key nonce ad (s.extract 0 (s.size - 16)) = tg at e3 ht
      generalize s.extract 0 (s.size - 16) = c at hl1 hl3 e3 hds
      generalize s.extract (s.size - 16) s.size = g at hl2 ht
      simp only [go_sem,simprocAttr,w0,d1,d2,d3,d4,hl1]
      refine Za e3 ?_
      simp only [go_sem,simprocAttr,hl2,ht]
      simp [Zf,Ze,Zi,Zg,Zh,Zd,Zc,Zb,optS]
    ·have hv : Zcr key nonce ad s = none := by unfold Zcr; rw [if_neg (fun h => h4 h.2.2.2.1)]
     have d4 : ((1048576 : Int) < (s.size : Int) - 16) := by omega
     rw [hv]
     simp only [go_sem,simprocAttr,w0,d1,d2,d3,d4]
     simp [Zf,Ze,Zi,Zg,Zh,Zd,Zc,Zb,optS]
   ·have hv : Zcr key nonce ad s = none := by unfold Zcr; rw [if_neg (fun h => h3 h.2.2.1)]
    have d3 : ((s.size : Int) - 16 < 0) := by omega
    rw [hv]
    simp only [go_sem,simprocAttr,w0,d1,d2,d3]
    simp [Zf,Ze,Zi,Zg,Zh,Zd,Zc,Zb,optS]
  ·have hv : Zcr key nonce ad s = none := by unfold Zcr; rw [if_neg (fun h => h2 h.2.1)]
   have d2 : ¬ ((nonce.size : Int) = 12) := by omega
   rw [hv]
   simp only [go_sem,simprocAttr,w0,d1,d2]
   simp [Zf,Ze,Zi,Zg,Zh,Zd,Zc,Zb,optS]
 ·have hv : Zcr key nonce ad s = none := by unfold Zcr; rw [if_neg (fun h => h1 h.1)]
  have d1 : ¬ ((key.size : Int) = 64) := by omega
  rw [hv]
  simp only [go_sem,simprocAttr,w0,d1]
  simp [Zf,Ze,Zi,Zg,Zh,Zd,Zc,Zb,optS]
end Go.Proofs.YticmfblfghdkbaaGreatDoor.Eng
