/- Parts of this claim's proof, joined. No statement of the seat is proved here. -/
import Derived.Test.YticmfblfghdkbaaGreatDoorV17
set_option linter.unusedVariables false
set_option linter.unusedSimpArgs false
namespace Go.Proofs.YticmfblfghdkbaaGreatDoor.Eng
open Go
abbrev ubC (s : ByteArray) : AVal := .c (.lst 1 (s.data.toList.map Zs))
theorem Zsg (f : Nat → UInt8) : ∀ (l : List UInt8) (i p : Nat) (x : UInt8),l[p]? = some x → (Zix f i l)[p]? = some (x ^^^ f (i + p))
 | [],i,p,x,h => by simp at h
 | y :: l,i,0,x,h => by
  simp at h
  subst h
  simp [Zix]
 | y :: l,i,p + 1,x,h => by
  have := Zsg f l (i + 1) p x (by simpa using h)
  rw [Zix,List.getElem?_cons_succ,this,Nat.add_assoc,Nat.add_comm 1 p]
def mixL (X Y : List UInt8) (p : Nat) : List UInt8 := X.take p ++ Y.drop p
theorem Zbfr {X Y : List UInt8} (h : X.length = Y.length) (p : Nat) : (mixL X Y p).length = Y.length := by
 unfold mixL
 rw [List.length_append,List.length_take,List.length_drop]
 omega
theorem Z30 {X Y : List UInt8} {p : Nat} {x : UInt8} (h : X.length = Y.length) (hx : X[p]? = some x) : (mixL X Y p).set p x = mixL X Y (p + 1) := by
 unfold mixL
 obtain ⟨hp,hx⟩ := List.getElem?_eq_some_iff.1 hx
 have hl : (X.take p).length = p := by rw [List.length_take]; omega
 rw [List.set_append_right _ _ (by omega),hl,Nat.sub_self,List.drop_eq_getElem_cons (by omega : p < Y.length),List.set_cons_zero,List.take_succ_eq_append_getElem hp,hx,List.append_assoc]
 rfl
theorem Zbfi {X Y : List UInt8} {p : Nat} (h : X.length = Y.length) (hp : p < Y.length) : (mixL X Y p)[p]? = Y[p]? := by
 unfold mixL
 have hl : (X.take p).length = p := by rw [List.length_take]; omega
 rw [List.getElem?_append_right (by omega),hl,Nat.sub_self,List.getElem?_drop,Nat.add_zero]
theorem Zki {X Y : List UInt8} {p : Nat} (h : X.length = Y.length) (hp : Y.length ≤ p) : mixL X Y p = X := by
 unfold mixL
 rw [List.take_of_length_le (by omega),List.drop_eq_nil_of_le hp,List.append_nil]
abbrev uBlk (l : List UInt8) : Blk := { sz := 1,rows := l.map Zs,own := true,live := true }
theorem Zw2 {H : Heap} {b i : Nat} {l : List UInt8} {x : UInt8} (h : H[b]? = some (uBlk l)) : Heap.put H b i [.int .u8 (x.toNat : Int)] = H.set b (uBlk (l.set i x)) := by
 rw [Zkd h]
 simp only [uBlk,List.map_set,Zs]
theorem Zw4 {H : Heap} {b i : Nat} {l : List UInt8} {x : UInt8} (h : H[b]? = some (uBlk l)) (hx : l[i]? = some x) : Heap.row H b i = some [.int .u8 (x.toNat : Int)] := by
 rw [Zhv h rfl]
 simp [hx,Zs]
theorem Zbkl {l : List UInt8} {i : Nat} {x : UInt8} {ik : IntKind} {H : Heap} (hx : l[i]? = some x) : vIx 1 (.c (.lst 1 (l.map Zs))) (.c (.int ik (i : Int))) H = some (.c (.fp [.int .u8 (x.toNat : Int)] 0),H) := by
 simp [vIx,hx,Zs]
theorem mkN (N : Nat) (h : N ≤ 2000000) (h0 : N ≠ 0) (H : Heap) : Zuu 1 1 [.int .u8 0] (iC N) (iC N) H = some (.c (.slc H.length 0 N 1 false),H ++ [uBlk (List.replicate N 0)]) := by
 have hz : (N == 0) = false := by simpa using h0
 simp only [Zuu]
 rw [if_pos ⟨by omega,trivial,by simp <;> omega,by omega⟩]
 simp only [Int.toNat_natCast,hz,uBlk,List.map_replicate]
 rfl
theorem Zbev {H : Heap} {b sz : Nat} {l : List UInt8} (h : H[b]? = some { sz := sz,rows := [l.map u8C],own := true,live := true }) : Heap.row H b 0 = some (l.map u8C) := by rw [Zhv h rfl]; rfl
theorem Z0q {key nonce : ByteArray} {ctr j i : Nat} (hi : i < 64) : Zh6 key nonce ctr (64 * j + i) = (Zhn key nonce ((ctr + j : Nat) : Int)).getD i 0 := by
 unfold Zh6
 have e1 : (64 * j + i) / 64 = j := by omega
 have e2 : (64 * j + i) % 64 = i := by omega
 rw [e1,e2]
set_option maxHeartbeats 4000000 in
theorem Z1q (key nonce s : ByteArray) (hk : key.size = 32) (hn : nonce.size = 12) (hs : s.size ≤ 1048576) : Pr 153 [sC key,sC nonce,iC 1,ubC s] (ubC (xorS key nonce 1 s)) := by
 refine Zgf mixed Z2l (by simp [Zq,Zp,Zc,Z1l]) fun hl T => ?_
 obtain ⟨l,hl0⟩ : ∃ l,l = s.data.toList := ⟨_,rfl⟩
 have hN : l.length = s.size := by rw [hl0]; rfl
 obtain ⟨X,hX⟩ : ∃ X,X = Zix (Zh6 key nonce 1) 0 l := ⟨_,rfl⟩
 have hXl : X.length = l.length := by rw [hX,Zo2]
 have hXat : ∀ p x,l[p]? = some x → X[p]? = some (x ^^^ Zh6 key nonce 1 p) := fun p x h => by rw [hX,Zsg _ _ _ _ _ h,Nat.zero_add]
 have hbl := Zyt key nonce
 have hbll := fun c => Zmi key nonce c
 have hst := fun (j i : Nat) (hi : i < 64) => Z0q (key := key) (nonce := nonce) (ctr := 1) (j := j) hi
 have hmay := Z2a key nonce 1
 have hmt : (decide (key.size = 32) && decide (nonce.size = 12) && decide (0 ≤ (1 : Int)) && decide ((1 : Int) < 4294967296)) = true := by simp [hk,hn]
 rw [hmt] at hmay
 have hres : xorS key nonce 1 s = baL X := by rw [hX,hl0]; rfl
 rw [hres]
 show Run _ _ _ _ _
 unfold ubC
 rw [Zgg,← hl0]
 unfold Zsh
 have hlm : (l.map Zs).length = l.length := List.length_map _
 have w1 : IntKind.wrap .i64 ((l.length : Int) + 64) = (l.length : Int) + 64 := Zn (by omega)
 have w2 : IntKind.wrap .i64 ((l.length : Int) + 64 - 1) = ((l.length + 63 : Nat) : Int) := by rw [Zn (by omega)]; omega
 obtain ⟨n,hnn⟩ : ∃ n,n = (l.length + 63) / 64 := ⟨_,rfl⟩
 have q1 : IntKind.wrap .i64 (Int.tdiv ((l.length + 63 : Nat) : Int) 64) = (n : Int) := by
  rw [Int.tdiv_eq_ediv_of_nonneg (by omega),Zn (by omega)]; omega
 by_cases h0 : l.length = 0
 ·have hln : l = [] := List.eq_nil_of_length_eq_zero h0
  have hXn : X = [] := List.eq_nil_of_length_eq_zero (by omega)
  have hn0 : (n : Int) = 0 := by omega
  subst hln hXn
  have z1 : IntKind.wrap .i64 64 = 64 := by decide
  have z2 : IntKind.wrap .i64 63 = 63 := by decide
  have z3 : Int.tdiv 63 64 = 0 := by decide
  simp only [go_sem,simprocAttr,List.map_nil,List.length_nil,Int.natCast_zero,Int.zero_add,z1,z2,z3,Zbl]
  exact ⟨_,rfl,.c (.nilS _)⟩
 ·have hn0 : ¬ ((n : Int) = 0) := by omega
  have w3 : IntKind.wrap .i64 (4294967296 - (n : Int)) = 4294967296 - (n : Int) := Zn (by omega)
  have c3 : ¬ (4294967296 - (n : Int) < 1) := by omega
  have hmk := mkN l.length (by omega) h0
  obtain ⟨Z,hZ⟩ : ∃ Z : List UInt8,Z = List.replicate l.length 0 := ⟨_,rfl⟩
  have hZl : Z.length = l.length := by rw [hZ,List.length_replicate]
  rw [← hZ] at hmk
  have hXZ : X.length = Z.length := by omega
  simp only [go_sem,simprocAttr,hlm,w1,w2,q1,hn0]
  refine Za hmay ?_
  have outer : ∀ (d j : Nat) (e : Env) (H : Heap),j + d = n → e 0 = sC key → e 1 = sC nonce → e 2 = iC 1 → e 3 = .c (.lst 1 (l.map Zs)) → e 10 = .c (.slc 0 0 l.length 1 false) → e 38 = iC n → e 39 = iC j → H[0]? = some (uBlk (mixL X Z (64 * j))) →
    Run (Zt Tryz.prog T) ⟨[.tmp 8],fun u E => Zkb E u (.c (.lst 1 (X.map Zs)))⟩ [.loop Zgu,.blk 0,.code Ziz] e H := by
   intro d
   induction d with
   | zero =>
    intro j e H hj h0 h1 h2 h3 h10 h38 h39 hH
    have hc : ¬ ((j : Int) < (n : Int)) := by omega
    rw [Zki hXZ (by omega)] at hH
    refine Zi ?_
    conv => enter [3,1]; unfold Zgu
    simp only [go_sem,simprocAttr,h38,h39,hc]
    unfold Ziz
    simp only [go_sem,simprocAttr,h10]
    have : Acc 1 (X.map Zs) (.c (.slc 0 0 l.length 1 false)) H := .inr ⟨0,[],by simp [hXl],by rw [List.append_nil]; exact hH⟩
    exact this.told (Z1l X)
   | succ d ih =>
    intro j e H hj h0 h1 h2 h3 h10 h38 h39 hH
    have hc : ((j : Int) < (n : Int)) := by omega
    have wj : IntKind.wrap .i64 (1 + (j : Int)) = ((1 + j : Nat) : Int) := by rw [Zn (by omega)]; omega
    have wm : IntKind.wrap .i64 ((j : Int) * 64) = ((64 * j : Nat) : Int) := by rw [Zn (by omega)]; omega
    have ws : IntKind.wrap .i64 ((l.length : Int) - ((64 * j : Nat) : Int)) = ((l.length - 64 * j : Nat) : Int) := by rw [Zn (by omega)]; omega
    have wn : IntKind.wrap .i64 ((j : Int) + 1) = ((j + 1 : Nat) : Int) := by rw [Zn (by omega)]; omega
    have hb1 := hbl ((1 + j : Nat) : Int) hk hn
    have hb2 := hbll ((1 + j : Nat) : Int)
    have hb3 := fun i hi => hst j i hi
    obtain ⟨bk,hbk⟩ : ∃ bk,bk = Zhn key nonce ((1 + j : Nat) : Int) := ⟨_,rfl⟩
    rw [← hbk] at hb1 hb2
    have hb4 : ∀ i,i < 64 → Zh6 key nonce 1 (64 * j + i) = bk.getD i 0 := fun i hi => by rw [hb3 i hi,hbk]
    have hlen64 : (bk.map u8C).length = 64 := by simp [hb2]
    have htk : (bk.map u8C).take 64 = bk.map u8C := List.take_of_length_le (by omega)
    refine Zi ?_
    conv => enter [3,1]; unfold Zgu
    simp only [go_sem,simprocAttr,h0,h1,h2,h38,h39,hc,wj]
    refine Za hb1 ?_
    obtain ⟨m,hm⟩ : ∃ m,m = min 64 (l.length - 64 * j) := ⟨_,rfl⟩
    have hif : (if ((l.length - 64 * j : Nat) : Int) < 64 then ((l.length - 64 * j : Nat) : Int) else 64) = (m : Int) := by split <;> omega
    simp only [go_sem,simprocAttr,h3,h39,hlen64,wm,hlm,ws,hif]
    have hbH : 0 < H.length := (List.getElem?_eq_some_iff.1 hH).1
    obtain ⟨bl,hblen⟩ : ∃ bl,bl = H.length := ⟨_,rfl⟩
    have inner : ∀ (k i : Nat) (e : Env) (H : Heap),i + k = m → e 0 = sC key → e 1 = sC nonce → e 2 = iC 1 → e 3 = .c (.lst 1 (l.map Zs)) → e 10 = .c (.slc 0 0 l.length 1 false) → e 12 = .c (.ptr bl 0 0) → e 13 = iC ((64 * j : Nat) : Int) → e 38 = iC n → e 39 = iC j → e 54 = iC m → e 55 = iC i → H[0]? = some (uBlk (mixL X Z (64 * j + i))) → H[bl]? = some { sz := 64,rows := [bk.map u8C],own := true,live := true } → bl ≠ 0 →
      Run (Zt Tryz.prog T) ⟨[.tmp 8],fun u E => Zkb E u (.c (.lst 1 (X.map Zs)))⟩ [.loop Zi0,.blk 2,.blk 1,.code Zl4,.loop Zgu,.blk 0,.code Ziz] e H := by
     intro k
     induction k with
     | zero =>
      intro i e H hi h0 h1 h2 h3 h10 h12 h13 h38 h39 h54 h55 hH hB hb0
      have hc : ¬ ((i : Int) < (m : Int)) := by omega
      refine Zi ?_
      conv => enter [3,1]; unfold Zi0
      simp only [go_sem,simprocAttr,h54,h55,hc]
      unfold Zl4
      simp only [go_sem,simprocAttr,h39,wn]
      refine ih (j + 1) _ H (by omega) ?_ ?_ ?_ ?_ ?_ ?_ ?_ ?_
      ·simp only [go_sem,simprocAttr,h0]
      ·simp only [go_sem,simprocAttr,h1]
      ·simp only [go_sem,simprocAttr,h2]
      ·simp only [go_sem,simprocAttr,h3]
      ·simp only [go_sem,simprocAttr,h10]
      ·simp only [go_sem,simprocAttr,h38]
      ·simp only [go_sem,simprocAttr,wn]
      ·rw [hH]
       by_cases hlast : 64 * j + 64 ≤ l.length
       ·have : 64 * j + i = 64 * (j + 1) := by omega
        rw [this]
       ·rw [Zki hXZ (by omega),Zki hXZ (by omega)]
     | succ k ihk =>
      intro i e H hi h0 h1 h2 h3 h10 h12 h13 h38 h39 h54 h55 hH hB hb0
      have hc : ((i : Int) < (m : Int)) := by omega
      have hp : 64 * j + i < l.length := by omega
      have wa : IntKind.wrap .i64 (((64 * j : Nat) : Int) + (i : Int)) = ((64 * j + i : Nat) : Int) := by rw [Zn (by omega)]; omega
      have wi : IntKind.wrap .i64 ((i : Int) + 1) = ((i + 1 : Nat) : Int) := by rw [Zn (by omega)]; omega
      obtain ⟨x,hx⟩ : ∃ x,l[64 * j + i]? = some x := ⟨l[64 * j + i],by simp [hp]⟩
      have hx1 := fun H => Zbkl (ik := .i64) (H := H) hx
      have hx2 : ∀ H : Heap,vIx 1 (.c (.slc 0 0 l.length 1 false)) (iC ((64 * j + i : Nat) : Int)) H = some (.c (.ptr 0 (64 * j + i) 0),H) := fun H => Zek hp
      have hx3 : ∀ H : Heap,vIxA 64 1 (.c (.ptr bl 0 0)) (iC (i : Int)) H = some (.c (.ptr bl 0 (0 + i)),H) := fun H => Zcb (by omega)
      have hrow := Zbev hB
      have hbi : (bk.map u8C)[i]? = some (.int .u8 ((bk.getD i 0).toNat : Int)) := by
       have : i < bk.length := by omega
       simp [this,u8C]
      have hXp := hXat _ _ hx
      rw [hb4 i (by omega)] at hXp
      have hput := Zw2 hH (i := 64 * j + i) (x := x ^^^ bk.getD i 0)
      rw [Z30 hXZ hXp] at hput
      have hmine : Heap.mine H 0 = true := Zb7 hH rfl rfl
      obtain ⟨z,hz⟩ : ∃ z,(mixL X Z (64 * j + i))[64 * j + i]? = some z := ⟨_,List.getElem?_eq_getElem (by rw [Zbfr hXZ]; omega)⟩
      have hrow0 := Zw4 hH hz
      refine Zi ?_
      conv => enter [3,1]; unfold Zi0
      simp only [go_sem,simprocAttr,h3,h10,h12,h13,h54,h55,hc,wa,wi,hx1,hx2,hx3,hrow,hbi,Nat.zero_add,Zlm,hrow0,hmine,hput]
      refine ihk (i + 1) _ _ (by omega) ?_ ?_ ?_ ?_ ?_ ?_ ?_ ?_ ?_ ?_ ?_ ?_ ?_ hb0
      ·simp only [go_sem,simprocAttr,h0]
      ·simp only [go_sem,simprocAttr,h1]
      ·simp only [go_sem,simprocAttr,h2]
      ·simp only [go_sem,simprocAttr,h3]
      ·simp only [go_sem,simprocAttr,h10]
      ·simp only [go_sem,simprocAttr,h12]
      ·simp only [go_sem,simprocAttr,h13]
      ·simp only [go_sem,simprocAttr,h38]
      ·simp only [go_sem,simprocAttr,h39]
      ·simp only [go_sem,simprocAttr,h54]
      ·simp only [go_sem,simprocAttr,wi]
      ·exact Zw hH
      ·rw [Zo hB hb0]
    rw [← hblen]
    refine inner m 0 _ _ (by omega) ?_ ?_ ?_ ?_ ?_ ?_ ?_ ?_ ?_ ?_ ?_ ?_ ?_ (by omega)
    ·simp only [go_sem,simprocAttr,h0]
    ·simp only [go_sem,simprocAttr,h1]
    ·simp only [go_sem,simprocAttr,h2]
    ·simp only [go_sem,simprocAttr,h3]
    ·simp only [go_sem,simprocAttr,h10]
    ·simp only [go_sem,simprocAttr]
    ·simp only [go_sem,simprocAttr]
    ·simp only [go_sem,simprocAttr,h38]
    ·simp only [go_sem,simprocAttr,h39]
    ·simp only [go_sem,simprocAttr]
    ·simp only [go_sem,simprocAttr,Int.natCast_zero]
    ·rw [Zcs hbH]; exact hH
    ·rw [hblen]; exact Zkl
  simp only [go_sem,simprocAttr,w3,c3,hlm,hmk]
  refine outer n 0 _ _ (by omega) ?_ ?_ ?_ ?_ ?_ ?_ ?_ ?_
  all_goals first | (simp only [go_sem,simprocAttr,Int.natCast_zero]; done) | rfl
def Zy1 : AFun := ⟨[.tmp 4],.seq (.region [iz 2 (.box (.t 0)),iz 3 (.box (.t 1)),ii 4 (.mv (.k (.c (.bool false))))] false) (.seq (.seq (.region [ifl 5 0 2,il 6 5] false) (.block 0 (.seq (.region [ii 8 (.bin .eql (.t 6) (ki 1)),im 7 8] false) (.cond (.t 7) (.seq (.region [ifl 9 2 2,il 10 9,ii 11 (.bin .eql (.t 10) (.k (.c (.str ⟨#[]⟩)))),im 12 11,ig 13 (.fld 3 (.t 2)) 12 true,ig 14 (.load false 1 (.t 13)) 12 true,ig 15 (.len (.t 14)) 12 true,ig 16 (.bin .eql (.t 15) (ki 0)) 12 true,ii 17 (.pick (.t 12) (.t 16) (.k (.c (.bool false)))),im 4 17] false) .ret) (.seq (.region [ii 19 (.bin .eql (.t 6) (ki 2)),im 18 19] false) (.cond (.t 18) (.seq (.region [ifl 20 1 2,il 21 20,ii 22 (.bin .eql (.t 21) (ki 0)),im 23 22,ig 24 (.fld 3 (.t 2)) 23 true,ig 25 (.load false 1 (.t 24)) 23 true,ig 26 (.len (.t 25)) 23 true,ig 27 (.bin .eql (.t 26) (ki 0)) 23 true,ii 28 (.pick (.t 23) (.t 27) (.k (.c (.bool false)))),im 29 28,ig 30 (.fld 2 (.t 2)) 29 true,ig 31 (.load false 1 (.t 30)) 29 true,ig 32 (.lenS (.t 31)) 29 true,ig 33 (.bin .leq (.t 32) (ki 1048576)) 29 true,ii 34 (.pick (.t 29) (.t 33) (.k (.c (.bool false)))),im 4 34] false) .ret) (.seq (.region [ii 36 (.bin .eql (.t 6) (ki 3)),im 35 36] false) (.cond (.t 35) (.seq (.region [il 37 3,ii 38 (.bin .gtr (.t 37) (ki 0)),im 39 38,ig 40 (.fld 1 (.t 2)) 39 true,ig 41 (.load false 1 (.t 40)) 39 true,ig 42 (.bin .eql (.t 41) (ki 0)) 39 true,ii 43 (.pick (.t 39) (.t 42) (.k (.c (.bool false)))),im 44 43,ig 45 (.fld 2 (.t 2)) 44 true,ig 46 (.load false 1 (.t 45)) 44 true,ig 47 (.bin .eql (.t 46) (.k (.c (.str ⟨#[]⟩)))) 44 true,ii 48 (.pick (.t 44) (.t 47) (.k (.c (.bool false)))),im 49 48,ig 50 (.fld 3 (.t 2)) 49 true,ig 51 (.load false 1 (.t 50)) 49 true,ig 52 (.len (.t 51)) 49 true,ig 53 (.bin .leq (.t 52) (ki 65536)) 49 true,ii 54 (.pick (.t 49) (.t 53) (.k (.c (.bool false)))),im 55 54,ig 56 (.fld 3 (.t 2)) 55 true,ig 57 (.load false 1 (.t 56)) 55 true,ig 58 (.mkF 204 [.t 3]) 55 true,ig 59 (.call (.f 203) [.t 57,.t 58]) 55 true,ig 60 (.un .not (.t 59)) 55 true,ii 61 (.pick (.t 55) (.t 60) (.k (.c (.bool false)))),im 4 61] false) .ret) .skip)))))))) (.seq (.region [ii 4 (.mv (.k (.c (.bool false))))] false) .ret))⟩
theorem Z6v : Zm Tryz.prog 179 = some Zy1.erase := by kernel_rfl
def Zuh : AFun := ⟨[.tmp 3],.seq (.region [iz 2 (.box (.t 0)),ii 3 (.mv (.k (.c (.bool false))))] false) (.seq (.region [ii 4 (.load true 4 (.t 2)),il 5 1,ii 6 (.bin .sub (.t 5) (ki 1)),icl 7 179 [.t 4,.t 6],ii 8 (.un .not (.t 7)),im 3 8] false) .ret)⟩
theorem Z2q : Zm Tryz.prog 204 = some Zuh.erase := by kernel_rfl
def Zxp : AFun := ⟨[.tmp 2],.seq (.region [iz 1 (.box (.t 0)),ii 2 (.mv (.k (.c (.bool false))))] false) (.seq (.region [ii 3 (.load true 4 (.t 1)),icl 4 179 [.t 3,.k (.c (.int .i64 6))],im 2 4] false) .ret)⟩
theorem Z57 : Zm Tryz.prog 148 = some Zxp.erase := by kernel_rfl
def Zia : ACode := .seq (.seq (.region [im 10 7,ii 11 (.bin .geq (.t 10) (ki 0))] false) (.cond (.t 11) .skip (.exit 0))) (.seq (.block 1 (.region [im 14 0,im 15 1,im 16 7,ii 17 (.bin .mul (ki 8) (.t 16)),ibt 18 .shr 15 17,ii 19 (.conv .u8 (.t 18)),iz 20 (.lit 1 [.int .u8 0] 1 [(0,.t 19)]),ii 21 (.app 1 1 (.t 14) (.t 20)),im 0 21] false)) (.region [im 12 7,ii 13 (.bin .sub (.t 12) (ki 1)),im 7 13] false))
def Zko : ACode := .seq (.region [im 22 0,im 6 22] false) .ret
def Zrv : AFun := ⟨[.tmp 6],.seq (.region [ii 6 (.mv (.k (.c .nilS)))] false) (.seq (.seq (.region [im 8 2,ii 9 (.bin .sub (.t 8) (ki 1)),im 7 9] false) (.block 0 (.loop Zia))) Zko)⟩
theorem Zzq : Zm Tryz.prog 180 = some Zrv.erase := by kernel_rfl
def Zk4 : ACode := .seq (.region [ibt 43 .lss 42 41] false) (.seq (.cond (.t 43) .skip (.exit 1)) (.seq (.block 2 (.seq (.region [ixx 44 4 40 42,ii 45 (.load true 4 (.t 44)),ii 6 (.new [.int .i64 0,.int .i64 0,.str ⟨#[]⟩,.nilS]),ie (.store 4 (.t 6) (.t 45))] false) (.region [im 46 0,ii 47 (.load true 4 (.t 6)),icl 48 149 [.t 46,.t 47],im 0 48] false))) (.region [ii 49 (.bin .add (.t 42) (ki 1)),im 42 49] false)))
def Zpp : ACode := .seq (.region [im 50 0,im 4 50] false) .ret
def Zzb : AFun := ⟨[.tmp 4],.seq (.region [iz 3 (.box (.t 1)),ii 4 (.mv (.k (.c .nilS)))] false) (.seq (.region [im 7 0,ifl 8 0 3,il 9 8,ii 10 (.conv .u8 (.t 9)),iz 11 (.lit 1 [.int .u8 0] 1 [(0,.t 10)]),ii 12 (.app 1 1 (.t 7) (.t 11)),im 0 12] false) (.seq (.seq (.region [ifl 13 0 3,il 14 13] false) (.block 0 (.seq (.region [ii 16 (.bin .eql (.t 14) (ki 1)),im 15 16] false) (.cond (.t 15) (.seq (.region [im 17 0,ifl 18 1 3,il 19 18,ii 20 (.conv .u64 (.t 19)),icl 21 180 [.t 17,.t 20,.k (.c (.int .i64 8))],im 4 21] false) .ret) (.seq (.region [ii 23 (.bin .eql (.t 14) (ki 2)),im 22 23] false) (.cond (.t 22) (.seq (.region [im 24 0,ifl 25 2 3,ii 26 (.loadF false 1 (.t 25)),ii 27 (.lenS (.t 26)),ii 28 (.conv .u64 (.t 27)),ii 29 (.call (.k (.c (.fn 180 []))) [.t 24,.t 28,.k (.c (.int .i64 4))]),ifl 30 2 3,ii 31 (.loadF false 1 (.t 30)),ii 32 (.app 1 1 (.t 29) (.t 31)),im 4 32] true) .ret) .skip)))))) (.seq (.region [im 33 0,ifl 34 3 3,il 35 34,ii 36 (.len (.t 35)),ii 37 (.conv .u64 (.t 36)),icl 38 180 [.t 33,.t 37,.k (.c (.int .i64 4))],im 0 38] false) (.seq (.seq (.region [ifl 39 3 3,il 40 39,ii 41 (.len (.t 40)),ii 42 (.mv (ki 0))] false) (.block 1 (.loop Zk4))) Zpp))))⟩
theorem Z6o : Zm Tryz.prog 149 = some Zzb.erase := by kernel_rfl
def Zrm : AFun := ⟨[.tmp 2],.seq (.region [iz 1 (.box (.t 0)),ii 2 (.mv (.k (.c (.str ⟨#[]⟩))))] false) (.seq (.seq (.region [ii 3 (.load true 4 (.t 1)),icl 4 148 [.t 3],ii 5 (.un .not (.t 4))] false) (.cond (.t 5) (.seq (.region [ii 2 (.mv (.k (.c (.str ⟨#[]⟩))))] false) .ret) .skip)) (.seq (.region [ii 6 (.load true 4 (.t 1)),icl 7 149 [.k (.c .nilS),.t 6],ii 8 (.b2s (.t 7)),im 2 8] false) .ret))⟩
theorem Zv5 : Zm Tryz.prog 99 = some Zrm.erase := by kernel_rfl
def Zyl : AFun := ⟨[.cell 2 true 4],.seq (.region [ii 2 (.new [.int .i64 0,.int .i64 0,.str ⟨#[]⟩,.nilS])] false) (.seq (.region [im 3 0,ii 4 (.build [.int .i64 0,.int .i64 0,.str ⟨#[]⟩,.nilS] [(0,1,.k (.c (.int .i64 1))),(1,1,.t 3)]),ie (.store 4 (.t 2) (.t 4))] false) .ret)⟩
theorem Z6r : Zm Tryz.prog 101 = some Zyl.erase := by kernel_rfl
def Zwa : AFun := ⟨[.cell 2 true 4],.seq (.region [ii 2 (.new [.int .i64 0,.int .i64 0,.str ⟨#[]⟩,.nilS])] false) (.seq (.region [im 3 0,ii 4 (.build [.int .i64 0,.int .i64 0,.str ⟨#[]⟩,.nilS] [(0,1,.k (.c (.int .i64 2))),(2,1,.t 3)]),ie (.store 4 (.t 2) (.t 4))] false) .ret)⟩
theorem Z36 : Zm Tryz.prog 102 = some Zwa.erase := by kernel_rfl
def Zjx : ACode := .seq (.region [ibt 10 .lss 9 8] false) (.seq (.cond (.t 10) .skip (.exit 0)) (.seq (.block 1 (.seq (.region [ixx 11 4 7 9,ii 12 (.load true 4 (.t 11)),ii 5 (.new [.int .i64 0,.int .i64 0,.str ⟨#[]⟩,.nilS]),ie (.store 4 (.t 5) (.t 12))] false) (.region [ifl 13 3 3,il 14 13,ii 15 (.load true 4 (.t 5)),icl 16 150 [.t 15],iz 17 (.lit 4 [.int .i64 0,.int .i64 0,.str ⟨#[]⟩,.nilS] 1 [(0,.t 16)]),ii 18 (.app 4 56 (.t 14) (.t 17)),ifl 19 3 3,ie (.store 1 (.t 19) (.t 18))] true))) (.region [ii 20 (.bin .add (.t 9) (ki 1)),im 9 20] false)))
def Zna : ACode := .seq (.region [ii 21 (.load true 4 (.t 3)),ie (.store 4 (.t 2) (.t 21))] false) .ret
def Zv8 : AFun := ⟨[.cell 2 true 4],.seq (.region [ii 2 (.new [.int .i64 0,.int .i64 0,.str ⟨#[]⟩,.nilS])] false) (.seq (.region [ii 6 (.build [.int .i64 0,.int .i64 0,.str ⟨#[]⟩,.nilS] [(0,1,.k (.c (.int .i64 3)))]),ii 3 (.new [.int .i64 0,.int .i64 0,.str ⟨#[]⟩,.nilS]),ie (.store 4 (.t 3) (.t 6))] false) (.seq (.seq (.region [im 7 0,ii 8 (.len (.t 7)),ii 9 (.mv (ki 0))] false) (.block 0 (.loop Zjx))) Zna))⟩
theorem Z5m : Zm Tryz.prog 100 = some Zv8.erase := by kernel_rfl
def Zf2 : ACode := .seq (.region [ibt 13 .lss 12 11] false) (.seq (.cond (.t 13) .skip (.exit 0)) (.seq (.block 1 (.seq (.region [im 14 12,ixx 15 4 10 12,ii 16 (.load true 4 (.t 15)),ii 4 (.new [.int .i64 0,.int .i64 0,.str ⟨#[]⟩,.nilS]),im 3 14,ie (.store 4 (.t 4) (.t 16))] false) (.region [ifl 17 3 1,il 18 17,im 19 3,ii 20 (.load true 4 (.t 4)),icl 21 150 [.t 20],ixx 22 4 18 19,ie (.store 4 (.t 22) (.t 21))] true))) (.region [ii 23 (.bin .add (.t 12) (ki 1)),im 12 23] false)))
def Zhy : ACode := .seq (.region [ii 24 (.load true 4 (.t 1)),ie (.store 4 (.t 2) (.t 24))] false) .ret
def Zry : AFun := ⟨[.cell 2 true 4],.seq (.region [ii 1 (.box (.t 0)),ii 2 (.new [.int .i64 0,.int .i64 0,.str ⟨#[]⟩,.nilS])] false) (.seq (.region [ifl 5 3 1,il 6 5,icl 7 181 [.t 6],ifl 8 3 1,ie (.store 1 (.t 8) (.t 7))] false) (.seq (.seq (.region [ifl 9 3 1,il 10 9,ii 11 (.len (.t 10)),ii 12 (.mv (ki 0))] false) (.block 0 (.loop Zf2))) Zhy))⟩
theorem Zz2 : Zm Tryz.prog 150 = some Zry.erase := by kernel_rfl
def Zgq : AFun := ⟨[.tmp 4],.seq (.region [ii 4 (.mv (.k (.c (.bool false))))] false) (.seq (.region [im 5 0,im 6 1,icl 7 215 [.t 5,.t 6],ii 8 (.bin .geq (.t 7) (ki 0)),im 4 8] false) .ret)⟩
theorem Zlr : Zm Tryz.prog 203 = some Zgq.erase := by kernel_rfl
def Zdt : ACode := .seq (.region [ibt 9 .lss 8 7] false) (.seq (.cond (.t 9) .skip (.exit 0)) (.seq (.block 1 (.seq (.region [im 10 8,im 5 10] false) (.seq (.region [im 11 1,im 12 0,im 13 5,ixx 14 4 12 13,ii 15 (.load true 4 (.t 14)),ii 16 (.call (.t 11) [.t 15])] false) (.cond (.t 16) (.seq (.region [im 17 5,im 4 17] false) .ret) .skip)))) (.region [ii 18 (.bin .add (.t 8) (ki 1)),im 8 18] false)))
def Ze8 : ACode := .seq (.region [ii 4 (.mv (ki (-1)))] false) .ret
def Zih : AFun := ⟨[.tmp 4],.seq (.region [ii 4 (.mv (ki 0))] false) (.seq (.seq (.region [im 6 0,ii 7 (.len (.t 6)),ii 8 (.mv (ki 0))] false) (.block 0 (.loop Zdt))) Ze8)⟩
theorem Zht : Zm Tryz.prog 215 = some Zih.erase := by kernel_rfl
def Zfb : AFun := ⟨[.tmp 2],.seq (.region [ii 2 (.mv (.k (.c .nilS)))] false) (.seq (.seq (.region [im 3 0,ii 4 (.eqNil true false (.t 3) (.k (.c .nilS)))] false) (.cond (.t 4) (.seq (.region [ii 2 (.mv (.k (.c .nilS)))] false) .ret) .skip)) (.seq (.region [iz 5 (.lit 4 [.int .i64 0,.int .i64 0,.str ⟨#[]⟩,.nilS] 0 []),im 6 0,ii 7 (.appZ 4 56 (.t 5) (.t 6)),im 2 7] false) .ret))⟩
theorem Zgi : Zm Tryz.prog 181 = some Zfb.erase := by kernel_rfl
theorem Acc.appU {G : Prog} {p : Post} {k : List Itm} {d : Bool} {e : Env} {H : Heap} {l : List AInstr} {dst : Option Nat} {bs : List UInt8} {v : AVal} {s : ByteArray}
  (h : Acc 1 (bs.map Zs) v H) (hb : bs.length + s.size ≤ 140737488355328) (hw : ∀ v' H',Acc 1 ((bs ++ s.data.toList).map Zs) v' H' → WL G p k d l (updO e dst v') H') : Zbg G p k d (vApp 1 1 v (sC s) H) dst l e := by
 obtain ⟨v',H',h1,h2,_⟩ := h.app (bytes := 1) (y := .str s) (new := s.data.toList.map Zs) (by rw [← Zja]; rfl) rfl (by simp only [List.length_map,Nat.mul_one]; exact hb)
 exact Znz h1 (hw v' H' (by rw [List.map_append]; exact h2))
theorem Acc.appB {G : Prog} {p : Post} {k : List Itm} {d : Bool} {e : Env} {H : Heap} {l : List AInstr} {dst : Option Nat} {bs : List UInt8} {v : AVal} {x : UInt8}
  (h : Acc 1 (bs.map Zs) v H) (hb : bs.length + 1 ≤ 140737488355328) (hw : ∀ v' H',Acc 1 ((bs ++ [x]).map Zs) v' H' → WL G p k d l (updO e dst v') H') : Zbg G p k d (vApp 1 1 v (.c (.lst 1 [[.int .u8 (x.toNat : Int)]])) H) dst l e := by
 obtain ⟨v',H',h1,h2⟩ := h.appL (bytes := 1) (new := [[.int .u8 (x.toNat : Int)]]) (by simp; omega)
 exact Znz h1 (hw v' H' (by rw [List.map_append]; exact h2))
theorem Zwy {n : Nat} (h : n ≤ 1000000000) : IntKind.wrap .u64 (n : Int) = (n : Int) := Zun (by omega)
theorem Zy9 (n : Int) : Pr 190 [iC n] (sC (baL (lowB (IntKind.wrap .u64 n) 4))) := by
 have h8 := Zil n
 refine Zl mixed Z7v rfl fun hl T => ?_
 unfold Z0t
 have hd : (baL (Zcx (IntKind.wrap .u64 n))).extract 4 (baL (Zcx (IntKind.wrap .u64 n))).size = baL (lowB (IntKind.wrap .u64 n) 4) := by
  apply ByteArray.ext
  rw [ByteArray.data_extract]
  rfl
 have hs : ∀ (e : Env) (H : Heap),vSlS (sC (baL (Zcx (IntKind.wrap .u64 n)))) e (some (.k (.c (.int .i64 4)))) none H = some (sC (baL (lowB (IntKind.wrap .u64 n) 4)),H) := fun e H => by
  rw [Zp7 (k := 4) rfl (by rw [Zc7,Zcx,Zc9]; omega),hd]
 simp only [go_sem,simprocAttr]
 refine Za h8 ?_
 simp only [go_sem,simprocAttr,hs]
 simp [Zf,Ze,Zk,Zg,Zh,Zd,Zc,Zb]
theorem Zo5 (l : List Wr) : l.length ≤ Wr.sizes l := by
 induction l with
 | nil => exact Nat.le_refl _
 | cons x m ihm => cases x; simp only [Wr.sizes,Wr.size,List.length_cons]; omega
set_option maxHeartbeats 1000000 in
theorem Z0n : ∀ (w : Wr) (v : AVal) (H : Heap) (bs : List UInt8),Acc 1 (bs.map Zs) v H → bs.length + w.size ≤ 1000000000 →
  ∃ v' H',CallSound Tryz.prog 160 [v,.agg w.cells] H v' H' ∧ Acc 1 ((bs ++ putL w).map Zs) v' H'
 | .mk k n s l,v,H,bs,hacc,hsz => by
  have ih : ∀ x ∈ l,∀ (v : AVal) (H : Heap) (bs : List UInt8),Acc 1 (bs.map Zs) v H → bs.length + x.size ≤ 1000000000 →
   ∃ v' H',CallSound Tryz.prog 160 [v,.agg x.cells] H v' H' ∧ Acc 1 ((bs ++ putL x).map Zs) v' H' := fun x hx v H bs h1 h2 => Z0n x v H bs h1 h2
  simp only [Wr.size] at hsz
  refine Zkn mixed Zbb8 fun T => ?_
  unfold Z5q
  simp only [Wr.cells]
  have hrl : (Wr.rows l).length = l.length := Wr.rows_len l
  have he8 := Zil n
  have hf4 := Zy9 (s.size : Int)
  have hg4 := Zy9 (l.length : Int)
  have hll := Zo5 l
  rw [Zwy (by omega)] at hf4 hg4
  obtain ⟨res,hres⟩ : ∃ res,res = bs ++ putL (.mk k n s l) := ⟨_,rfl⟩
  rw [← hres]
  have loop : ∀ (rest pre : List Wr) (acc : List UInt8) (e : Env) (H : Heap),l = pre ++ rest → e 3 = .c (.fp [.int .i64 k,.int .i64 n,.str s,.lst 4 (Wr.rows l)] 0) → e 5 = iC pre.length → Acc 1 (acc.map Zs) (e 0) H → acc.length + Wr.sizes rest ≤ bs.length + 20 + s.size + Wr.sizes l → acc ++ Zj0 rest = res →
    Run (Zt Tryz.prog T) ⟨[.tmp 4],fun u E => Acc 1 (res.map Zs) u E⟩ [.loop Zok,.blk 1,.code Zst] e H := by
   intro rest
   induction rest with
   | nil =>
    intro pre acc e H hp h3 h5 ha hle hv
    have hc : ¬ ((pre.length : Int) < ((Wr.rows l).length : Int)) := by rw [hrl,hp]; simp
    refine Zi ?_
    conv => enter [3,1]; unfold Zok
    simp only [go_sem,simprocAttr,h3,h5,hc]
    unfold Zst
    simp only [go_sem,simprocAttr]
    simp only [Zj0,List.append_nil] at hv
    rw [← hv]; exact ha
   | cons r rest ihr =>
    intro pre acc e H hp h3 h5 ha hle hv
    have hc : ((pre.length : Int) < ((Wr.rows l).length : Int)) := by rw [hrl,hp]; simp; omega
    have hr : (Wr.rows l)[pre.length]? = some r.cells := by rw [Wr.rows_map,hp]; simp
    have hn := Zcy hp (by unfold maxLen; omega)
    simp only [Wr.sizes] at hle
    obtain ⟨v',H',hcs,ha'⟩ := ih r (by rw [hp]; simp) (e 0) H acc ha (by omega)
    have hps := Zjl r
    refine Zi ?_
    conv => enter [3,1]; unfold Zok
    simp only [go_sem,simprocAttr,h3,h5,hc,hr,Wr.len4,Wr.take4]
    refine Z3 hcs (fun h => by cases h) ?_
    simp only [go_sem,simprocAttr,h5,hn]
    refine ihr (pre ++ [r]) (acc ++ putL r) _ _ (by rw [hp]; simp) ?_ ?_ ?_ (by rw [List.length_append]; omega) (by rw [← hv,Zj0,List.append_assoc])
    ·simp only [go_sem,simprocAttr,h3]
    ·simp only [go_sem,simprocAttr,hn]
    ·simp only [go_sem,simprocAttr]; exact ha'
  simp only [go_sem,simprocAttr,Wr.closedR,Zeg]
  refine hacc.appB (by omega) fun v1 H1 ha1 => ?_
  by_cases k1 : k = 1
  ·subst k1
   simp only [putL,if_true] at hres
   simp only [go_sem,simprocAttr]
   refine Za he8 ?_
   simp only [go_sem,simprocAttr]
   refine ha1.appU (by rw [List.length_append,Zc7,Zcx,Zc9]; simp; omega) fun v2 H2 ha2 => ?_
   simp only [go_sem,simprocAttr]
   rw [hres]
   rw [List.append_assoc] at ha2
   exact ha2
  by_cases k2 : k = 2
  ·subst k2
   simp only [putL,k1,if_false,if_true] at hres
   simp only [go_sem,simprocAttr]
   refine Za hf4 ?_
   simp only [go_sem,simprocAttr]
   refine ha1.appU (by rw [List.length_append,Zc7,Zc9]; simp; omega) fun v2 H2 ha2 => ?_
   simp only [go_sem,simprocAttr]
   refine ha2.appU (by rw [List.length_append,List.length_append,Zgg,Zc9]; simp; omega) fun v3 H3 ha3 => ?_
   simp only [go_sem,simprocAttr]
   rw [hres]
   rw [List.append_assoc,List.append_assoc] at ha3
   exact ha3
  ·simp only [putL,k1,k2,if_false] at hres
   simp only [go_sem,simprocAttr,k1,k2,hrl]
   refine Za hg4 ?_
   simp only [go_sem,simprocAttr]
   refine ha1.appU (by rw [List.length_append,Zc7,Zc9]; simp; omega) fun v2 H2 ha2 => ?_
   simp only [go_sem,simprocAttr]
   refine loop l [] (bs ++ [b8 k] ++ (baL (lowB (l.length : Int) 4)).data.toList) _ _ rfl ?_ ?_ ?_ ?_ ?_
   ·simp only [go_sem,simprocAttr]
   ·simp only [go_sem,simprocAttr,List.length_nil,Int.natCast_zero]
   ·simp only [go_sem,simprocAttr]; exact ha2
   ·rw [Zgg,List.length_append,List.length_append,Zc9]; simp; omega
   ·rw [hres,Zgg]; simp
termination_by w => SizeOf.sizeOf w
decreasing_by
 simp_wf
 have := List.sizeOf_lt_of_mem hx
 omega
def putD (w : Wr) : ByteArray := if Z0 w 6 then baL (putL w) else Zz
theorem Zr8 (w : Wr) (hs : w.size ≤ 1000000000) : Pr 119 [.agg w.cells] (sC (putD w)) := by
 have hmw := Z2c w
 rw [Z90] at hmw
 unfold putD
 cases hm : Z0 w 6 with
 | false =>
  rw [hm] at hmw
  refine Zl mixed Zr1 (by simp [Zq,Zp,Wr.closed]) fun hl T => ?_
  unfold Zn6
  simp only [go_sem,simprocAttr,Wr.closed,Wr.take4,Wr.len4]
  refine Za hmw ?_
  simp only [go_sem,simprocAttr]
  simp [Zf,Ze,Zk,Zg,Zh,Zd,Zc,Zb]
 | true =>
  rw [hm] at hmw
  refine Zl mixed Zr1 (by simp [Zq,Zp,Wr.closed]) fun hl T => ?_
  unfold Zn6
  simp only [go_sem,simprocAttr,Wr.closed,Wr.take4,Wr.len4]
  refine Za hmw ?_
  obtain ⟨v',H',hcs,ha⟩ := Z0n w (.c .nilS) [] [] .nil (by simpa using hs)
  have hb := ha.b2sL
  simp only [go_sem,simprocAttr,Wr.take4,Wr.len4]
  refine Z3 hcs (fun h => by cases h) ?_
  simp only [go_sem,simprocAttr,hb]
  simp [Zf,Ze,Zk,Zg,Zh,Zd,Zc,Zb]
theorem Zfw (n : Int) : Pr 101 [iC n] (.agg (numW n).cells) := by
 refine Zgf mixed Z6r rfl fun hl T => ?_
 unfold Zyl
 simp only [go_sem,simprocAttr]
 exact Zmp _ _ _
theorem Zjz (s : ByteArray) : Pr 102 [sC s] (.agg (Zcc s).cells) := by
 refine Zgf mixed Z36 rfl fun hl T => ?_
 unfold Zwa
 simp only [go_sem,simprocAttr]
 exact Zmp _ _ _
theorem Zni (l : List Wr) (g : Nat) (caps : List Cell) (q : Wr → Bool) (hcc : Zb caps = true)
  (hg : ∀ w ∈ l,Pr g (.agg w.cells :: caps.map .c) (bC (q w))) : ∃ i : Int,Pr 215 [.c (Zcm l),.c (.fn g caps)] (iC i) ∧ (0 ≤ i ↔ l.any q = true) := by
 by_cases hln : l.length ≤ maxLen
 ·obtain ⟨i,hi⟩ : ∃ i : Int,i = (match l.findIdx? q with | none => -1 | some k => (k : Int)) := ⟨_,rfl⟩
  refine ⟨i,?_,?_⟩
  ·refine Zl mixed Zht (by simp [Zq,Zp,Zc,Zcm,Wr.closedR,hcc]) fun hl T => ?_
   unfold Zih
   dsimp only [Zcm]
   have hrl : (Wr.rows l).length = l.length := Wr.rows_len l
   have loop : ∀ (rest pre : List Wr) (e : Env) (H : Heap),l = pre ++ rest → (∀ x ∈ pre,q x = false) → e 0 = .c (.lst 4 (Wr.rows l)) → e 1 = .c (.fn g caps) → e 7 = iC l.length → e 8 = iC pre.length →
     Run (Zt Tryz.prog T) ⟨[.tmp 4],fun u E => Zf E u = some (iC i)⟩ [.loop Zdt,.blk 0,.code Ze8] e H := by
    intro rest
    induction rest with
    | nil =>
     intro pre e H hp hq h0 h1 h7 h8
     have hc : ¬ ((pre.length : Int) < (l.length : Int)) := by rw [hp]; simp
     have hf : l.findIdx? q = none := by
      rw [List.findIdx?_eq_none_iff]
      intro x hx
      rw [hp,List.append_nil] at hx
      exact hq x hx
     rw [hf] at hi
     refine Zi ?_
     conv => enter [3,1]; unfold Zdt
     simp only [go_sem,simprocAttr,h7,h8,hc]
     unfold Ze8
     simp only [go_sem,simprocAttr]
     rw [hi]
     simp [Zf,Ze,Zk,Zg,Zh,Zd,Zc,Zb]
    | cons r rest ih =>
     intro pre e H hp hq h0 h1 h7 h8
     have hc : ((pre.length : Int) < (l.length : Int)) := by rw [hp]; simp; omega
     have hr : (Wr.rows l)[pre.length]? = some r.cells := by rw [Wr.rows_map,hp]; simp
     have hn := Zcy hp hln
     refine Zi ?_
     conv => enter [3,1]; unfold Zdt
     simp only [go_sem,simprocAttr,h0,h1,h7,h8,hc,hr,Wr.len4,Wr.take4]
     refine Za (hg r (by rw [hp]; simp)) ?_
     cases hq' : q r with
     | true =>
      have hf : l.findIdx? q = some pre.length := by
       rw [hp,List.findIdx?_append,List.findIdx?_eq_none_iff.2 hq]
       simp [List.findIdx?_cons,hq']
      rw [hf] at hi
      simp only [go_sem,simprocAttr]
      rw [hi]
      simp [Zf,Ze,Zk,Zg,Zh,Zd,Zc,Zb]
     | false =>
      simp only [go_sem,simprocAttr,h8,hn]
      refine ih (pre ++ [r]) _ _ (by rw [hp]; simp) (fun x hx => ?_) ?_ ?_ ?_ ?_
      ·rcases List.mem_append.1 hx with hx | hx
       ·exact hq x hx
       ·obtain rfl := List.mem_singleton.1 hx; exact hq'
      ·simp only [go_sem,simprocAttr,h0]
      ·simp only [go_sem,simprocAttr,h1]
      ·simp only [go_sem,simprocAttr,h7]
      ·simp only [go_sem,simprocAttr,hn]
   simp only [go_sem,simprocAttr,hrl]
   refine loop l [] _ _ rfl (fun x hx => by simp at hx) ?_ ?_ ?_ ?_
   ·simp only [go_sem,simprocAttr]
   ·simp only [go_sem,simprocAttr]
   ·simp only [go_sem,simprocAttr]
   ·simp only [go_sem,simprocAttr,List.length_nil,Int.natCast_zero]
  ·rw [hi]
   cases hf : l.findIdx? q with
   | none =>
    rw [List.findIdx?_eq_none_iff] at hf
    simp only [Int.reduceNeg]
    constructor
    ·intro h; omega
    ·intro h
     obtain ⟨x,hx,hx2⟩ := List.any_eq_true.1 h
     rw [hf x hx] at hx2; cases hx2
   | some k =>
    simp only
    constructor
    ·intro _
     have := List.findIdx?_eq_some_iff_getElem.1 hf
     obtain ⟨h1,h2,_⟩ := this
     exact List.any_eq_true.2 ⟨_,List.getElem_mem h1,h2⟩
    ·intro _; omega
 ·refine ⟨if l.any q then 0 else -1,?_,?_⟩
  ·refine Zl mixed Zht (by simp [Zq,Zp,Zc,Zcm,Wr.closedR,hcc]) fun hl T => ?_
   exfalso
   have := hl _ (List.mem_cons_self ..)
   simp [lenA,lenC,Zcm,Wr.rows_len] at this
   exact hln this
  ·split <;> simp [*]
theorem Zlt (l : List Wr) (g : Nat) (caps : List Cell) (q : Wr → Bool) (hcc : Zb caps = true)
  (hg : ∀ w ∈ l,Pr g (.agg w.cells :: caps.map .c) (bC (q w))) : Pr 203 [.c (Zcm l),.c (.fn g caps)] (bC (l.any q)) := by
 obtain ⟨i,h1,h2⟩ := Zni l g caps q hcc hg
 have hd : decide (0 ≤ i) = l.any q := by
  rw [Bool.eq_iff_iff,decide_eq_true_eq]; exact h2
 refine Zl mixed Zlr (by simp [Zq,Zp,Zc,Zcm,Wr.closedR,hcc]) fun hl T => ?_
 unfold Zgq
 simp only [go_sem,simprocAttr]
 refine Za h1 ?_
 simp only [go_sem,simprocAttr,hd]
 simp [Zf,Ze,Zk,Zg,Zh,Zd,Zc,Zb]
theorem Zvv : ∀ (l : List Wr) (lim : Int),Zez l lim = !(l.any fun w => !Z0 w lim)
 | [],_ => rfl
 | w :: l,lim => by
  simp only [Zez,List.any_cons,Zvv l lim,Bool.not_or,Bool.not_not]
theorem Zvd : ∀ (w : Wr) (lim : Int),-1 ≤ lim → lim ≤ 100 → Pr 179 [.agg w.cells,iC lim] (bC (Z0 w lim))
 | .mk k n s l,lim,hl0,hl1 => by
  have ih : ∀ x ∈ l,∀ lim',-1 ≤ lim' → lim' ≤ 100 → Pr 179 [.agg x.cells,iC lim'] (bC (Z0 x lim')) := fun x hx lim' h1 h2 => Zvd x lim' h1 h2
  have wl : 0 < lim → IntKind.wrap .i64 (lim - 1) = lim - 1 := fun h => Zn (by omega)
  have hcl : ∀ x ∈ l,0 < lim → Pr 204 [.agg x.cells,.c (.fp [.int .i64 lim] 0)] (bC (!Z0 x (lim - 1))) := fun x hx h0 => by
   have wl := wl h0
   have hx := ih x hx (lim - 1) (by omega) (by omega)
   refine Zl mixed Z2q (by simp [Zq,Zp,Zc,Wr.closed,Zb]) fun hl T => ?_
   unfold Zuh
   simp only [go_sem,simprocAttr,Wr.closed,Wr.len4,Wr.take4,wl]
   refine Za hx ?_
   simp only [go_sem,simprocAttr]
   simp [Zf,Ze,Zk,Zg,Zh,Zd,Zc,Zb]
  refine Zl mixed Z6v (by simp [Zq,Zp,Zc,Wr.closed]) fun hl T => ?_
  unfold Zy1
  simp only [Wr.cells]
  have hrl : (Wr.rows l).length = l.length := Wr.rows_len l
  generalize hv : Z0 (.mk k n s l) lim = v
  have hbx : ∀ H : Heap,mkF H (vBox (iC lim) H) = some (.c (.fp [.int .i64 lim] 0)) := fun H => Zqx rfl
  simp only [go_sem,simprocAttr,Wr.closedR,hbx]
  by_cases k1 : k = 1
  ·subst k1
   by_cases hs : s = ⟨#[]⟩
   ·simp only [go_sem,simprocAttr,hs,hrl]
    simp [Zf,Ze,Zk,Zg,Zh,Zd,Zc,Zb,← hv,Z0,hs]
   ·simp only [go_sem,simprocAttr,hs,hrl]
    simp [Zf,Ze,Zk,Zg,Zh,Zd,Zc,Zb,← hv,Z0,hs]
  by_cases k2 : k = 2
  ·subst k2
   by_cases h1 : n = 0 <;> by_cases h2 : (l.length : Int) = 0
   all_goals
    simp only [go_sem,simprocAttr,h1,h2,hrl]
    have h2' : ((l.length : Int) = 0) = (l = []) := by simp
    rw [h2'] at h2
    simp [Zf,Ze,Zk,Zg,Zh,Zd,Zc,Zb,← hv,Z0,h1,h2]
  by_cases k3 : k = 3
  ·subst k3
   by_cases h4 : 0 < lim
   ·have h4' : ¬ lim < 1 := by omega
    by_cases h1 : n = 0
    ·by_cases h2 : s = ⟨#[]⟩
     ·by_cases h3 : (l.length : Int) ≤ 65536
      ·have h3' : ¬ 65536 < (l.length : Int) := by omega
       simp only [go_sem,simprocAttr,h1,h2,h3,h4,hrl]
       refine Za (Zlt l 204 [.fp [.int .i64 lim] 0] (fun x => !Z0 x (lim - 1)) (by simp [Zb,Zc]) fun x hx => hcl x hx h4) ?_
       simp only [go_sem,simprocAttr]
       rw [← hv]
       simp [Zf,Ze,Zk,Zg,Zh,Zd,Zc,Zb,Z0,h1,h2,h3',h4',Zvv]
      ·have h3' : 65536 < (l.length : Int) := by omega
       simp only [go_sem,simprocAttr,h1,h2,h3,h4,hrl]
       simp [Zf,Ze,Zk,Zg,Zh,Zd,Zc,Zb,← hv,Z0,h1,h2,h3']
     ·simp only [go_sem,simprocAttr,h1,h2,h4,hrl]
      simp [Zf,Ze,Zk,Zg,Zh,Zd,Zc,Zb,← hv,Z0,h1,h2]
    ·simp only [go_sem,simprocAttr,h1,h4,hrl]
     simp [Zf,Ze,Zk,Zg,Zh,Zd,Zc,Zb,← hv,Z0,h1]
   ·have h4' : lim < 1 := by omega
    simp only [go_sem,simprocAttr,h4,hrl]
    simp [Zf,Ze,Zk,Zg,Zh,Zd,Zc,Zb,← hv,Z0,h4']
  ·simp only [go_sem,simprocAttr,k1,k2,k3]
   simp [Zf,Ze,Zk,Zg,Zh,Zd,Zc,Zb,← hv,Z0,k1,k2,k3]
termination_by w => SizeOf.sizeOf w
decreasing_by
 simp_wf
 have := List.sizeOf_lt_of_mem hx
 omega
theorem Z61 (w : Wr) : Pr 148 [.agg w.cells] (bC (Z0 w 6)) := by
 refine Zl mixed Z57 (by simp [Zq,Zp,Wr.closed]) fun hl T => ?_
 unfold Zxp
 simp only [go_sem,simprocAttr,Wr.closed,Wr.take4,Wr.len4]
 refine Za (Zvd w 6 (by omega) (by omega)) ?_
 simp only [go_sem,simprocAttr]
 simp [Zf,Ze,Zk,Zg,Zh,Zd,Zc,Zb]
theorem Zkm (n : Int) (k : Nat) (hk : k ≤ 8) (v : AVal) (H : Heap) (bs : List UInt8) (hacc : Acc 1 (bs.map Zs) v H) (hs : bs.length + 8 ≤ 1000000000) :
  ∃ v' H',CallSound Tryz.prog 180 [v,.c (.int .u64 n),iC k] H v' H' ∧ Acc 1 ((bs ++ lowB n k).map Zs) v' H' := by
 refine Zkn mixed Zzq fun T => ?_
 unfold Zrv
 obtain ⟨res,hres⟩ : ∃ res,res = bs ++ lowB n k := ⟨_,rfl⟩
 rw [← hres]
 have loop : ∀ (j : Nat) (acc : List UInt8) (e : Env) (H : Heap),j ≤ k → e 1 = .c (.int .u64 n) → e 7 = iC ((j : Int) - 1) → Acc 1 (acc.map Zs) (e 0) H → acc.length + j = bs.length + k → acc ++ lowB n j = res →
   Run (Zt Tryz.prog T) ⟨[.tmp 6],fun u E => Acc 1 (res.map Zs) u E⟩ [.loop Zia,.blk 0,.code Zko] e H := by
  intro j
  induction j with
  | zero =>
   intro acc e H hj h1 h7 ha hl hv
   have h7 : e 7 = iC (-1) := h7
   refine Zi ?_
   conv => enter [3,1]; unfold Zia
   simp only [go_sem,simprocAttr,h7]
   unfold Zko
   simp only [go_sem,simprocAttr]
   simp only [lowB,List.append_nil] at hv
   rw [← hv]; exact ha
  | succ j ih =>
   intro acc e H hj h1 h7 ha hl hv
   have h7 : e 7 = iC (j : Int) := by rw [h7]; congr 2; omega
   have hc : (0 : Int) ≤ (j : Int) := by omega
   have w2 : IntKind.wrap .i64 (8 * (j : Int)) = ((8 * j : Nat) : Int) := by rw [Zn (by omega)]; omega
   have wk : IntKind.wrap .i64 ((j : Int) - 1) = (j : Int) - 1 := Zn (by omega)
   have hsh : ∀ H : Heap,vBin .shr (.c (.int .u64 n)) (iC ((8 * j : Nat) : Int)) H = some (.c (.int .u64 (n.fdiv (2 ^ (8 * j)))),H) := fun H => by
    have := Zq8 (a := n) (b := ((8 * j : Nat) : Int)) (ik := .i64) (H := H) (by omega)
    have e1 : Nat.min (((8 * j : Nat) : Int)).toNat 64 = 8 * j := by rw [Int.toNat_natCast]; exact Nat.min_eq_left (by omega)
    rw [e1] at this
    exact this
   refine Zi ?_
   conv => enter [3,1]; unfold Zia
   simp only [go_sem,simprocAttr,h1,h7,hc,w2,hsh,Zeg]
   refine ha.appB (by omega) fun v' H' ha' => ?_
   simp only [go_sem,simprocAttr,h7,wk]
   refine ih (acc ++ [b8 (n.fdiv (2 ^ (8 * j)))]) _ _ (by omega) ?_ ?_ ?_ (by simp; omega) ?_
   ·simp only [go_sem,simprocAttr,h1]
   ·simp only [go_sem,simprocAttr,wk]
   ·simp only [go_sem,simprocAttr]; exact ha'
   ·rw [← hv,lowB,List.append_assoc]; rfl
 have w0 : IntKind.wrap .i64 ((k : Int) - 1) = (k : Int) - 1 := Zn (by omega)
 simp only [go_sem,simprocAttr,w0]
 refine loop k bs _ _ (Nat.le_refl _) ?_ ?_ ?_ rfl hres.symm
 ·simp only [go_sem,simprocAttr]
 ·simp only [go_sem,simprocAttr]
 ·simp only [go_sem,simprocAttr]; exact hacc
set_option maxHeartbeats 1000000 in
theorem Zvu : ∀ (w : Wr) (v : AVal) (H : Heap) (bs : List UInt8),Acc 1 (bs.map Zs) v H → bs.length + w.size ≤ 1000000000 →
  ∃ v' H',CallSound Tryz.prog 149 [v,.agg w.cells] H v' H' ∧ Acc 1 ((bs ++ putL w).map Zs) v' H'
 | .mk k n s l,v,H,bs,hacc,hsz => by
  have ih : ∀ x ∈ l,∀ (v : AVal) (H : Heap) (bs : List UInt8),Acc 1 (bs.map Zs) v H → bs.length + x.size ≤ 1000000000 →
   ∃ v' H',CallSound Tryz.prog 149 [v,.agg x.cells] H v' H' ∧ Acc 1 ((bs ++ putL x).map Zs) v' H' := fun x hx v H bs h1 h2 => Zvu x v H bs h1 h2
  simp only [Wr.size] at hsz
  refine Zkn mixed Z6o fun T => ?_
  unfold Zzb
  simp only [Wr.cells]
  have hrl : (Wr.rows l).length = l.length := Wr.rows_len l
  have hll := Zo5 l
  have u1 : IntKind.wrap .u64 (s.size : Int) = (s.size : Int) := Zwy (by omega)
  have u2 : IntKind.wrap .u64 (l.length : Int) = (l.length : Int) := Zwy (by omega)
  obtain ⟨res,hres⟩ : ∃ res,res = bs ++ putL (.mk k n s l) := ⟨_,rfl⟩
  rw [← hres]
  have loop : ∀ (rest pre : List Wr) (acc : List UInt8) (e : Env) (H : Heap),l = pre ++ rest → e 40 = .c (.lst 4 (Wr.rows l)) → e 41 = iC l.length → e 42 = iC pre.length → Acc 1 (acc.map Zs) (e 0) H → acc.length + Wr.sizes rest ≤ bs.length + 20 + s.size + Wr.sizes l → acc ++ Zj0 rest = res →
    Run (Zt Tryz.prog T) ⟨[.tmp 4],fun u E => Acc 1 (res.map Zs) u E⟩ [.loop Zk4,.blk 1,.code Zpp] e H := by
   intro rest
   induction rest with
   | nil =>
    intro pre acc e H hp h40 h41 h42 ha hle hv
    have hc : ¬ ((pre.length : Int) < (l.length : Int)) := by rw [hp]; simp
    refine Zi ?_
    conv => enter [3,1]; unfold Zk4
    simp only [go_sem,simprocAttr,h41,h42,hc]
    unfold Zpp
    simp only [go_sem,simprocAttr]
    simp only [Zj0,List.append_nil] at hv
    rw [← hv]; exact ha
   | cons r rest ihr =>
    intro pre acc e H hp h40 h41 h42 ha hle hv
    have hc : ((pre.length : Int) < (l.length : Int)) := by rw [hp]; simp; omega
    have hr : (Wr.rows l)[pre.length]? = some r.cells := by rw [Wr.rows_map,hp]; simp
    have hn := Zcy hp (by unfold maxLen; omega)
    simp only [Wr.sizes] at hle
    have hps := Zjl r
    refine Zi ?_
    conv => enter [3,1]; unfold Zk4
    simp only [go_sem,simprocAttr,h40,h41,h42,hc,hr,Wr.len4,Wr.take4,Wr.drop4]
    obtain ⟨v',H',hcs,ha'⟩ := ih r (by rw [hp]; simp) (e 0) (H ++ [{ sz := 4,rows := [r.cells] }]) acc ha.snoc (by omega)
    refine Z3 hcs (fun h => by cases h) ?_
    simp only [go_sem,simprocAttr,h42,hn]
    refine ihr (pre ++ [r]) (acc ++ putL r) _ _ (by rw [hp]; simp) ?_ ?_ ?_ ?_ (by rw [List.length_append]; omega) (by rw [← hv,Zj0,List.append_assoc])
    ·simp only [go_sem,simprocAttr,h40]
    ·simp only [go_sem,simprocAttr,h41]
    ·simp only [go_sem,simprocAttr,hn]
    ·simp only [go_sem,simprocAttr]; exact ha'
  simp only [go_sem,simprocAttr,Wr.closedR,Zeg]
  refine hacc.appB (by omega) fun v1 H1 ha1 => ?_
  by_cases k1 : k = 1
  ·subst k1
   simp only [putL,if_true] at hres
   obtain ⟨v2,H2,hcs,ha2⟩ := Zkm (IntKind.wrap .u64 n) 8 (Nat.le_refl _) v1 H1 _ ha1 (by simp; omega)
   simp only [go_sem,simprocAttr]
   refine Z3 hcs (fun h => by cases h) ?_
   simp only [go_sem,simprocAttr]
   rw [hres]
   rw [List.append_assoc] at ha2
   exact ha2
  by_cases k2 : k = 2
  ·subst k2
   simp only [putL,k1,if_false,if_true] at hres
   obtain ⟨v2,H2,hcs,ha2⟩ := Zkm (s.size : Int) 4 (by omega) v1 H1 _ ha1 (by simp; omega)
   simp only [go_sem,simprocAttr,u1]
   refine Zbbk hcs ?_
   simp only [go_sem,simprocAttr]
   refine ha2.appU (by rw [List.length_append,List.length_append,Zc9]; simp; omega) fun v3 H3 ha3 => ?_
   simp only [go_sem,simprocAttr]
   rw [hres]
   rw [List.append_assoc,List.append_assoc] at ha3
   exact ha3
  ·simp only [putL,k1,k2,if_false] at hres
   obtain ⟨v2,H2,hcs,ha2⟩ := Zkm (l.length : Int) 4 (by omega) v1 H1 _ ha1 (by simp; omega)
   simp only [go_sem,simprocAttr,k1,k2,hrl,u2]
   refine Z3 hcs (fun h => by cases h) ?_
   simp only [go_sem,simprocAttr,hrl]
   refine loop l [] (bs ++ [b8 k] ++ lowB (l.length : Int) 4) _ _ rfl ?_ ?_ ?_ ?_ ?_ ?_
   ·simp only [go_sem,simprocAttr]
   ·simp only [go_sem,simprocAttr]
   ·simp only [go_sem,simprocAttr,List.length_nil,Int.natCast_zero]
   ·simp only [go_sem,simprocAttr]; exact ha2
   ·rw [List.length_append,List.length_append,Zc9]; simp; omega
   ·rw [hres]; simp
termination_by w => SizeOf.sizeOf w
decreasing_by
 simp_wf
 have := List.sizeOf_lt_of_mem hx
 omega
theorem Zvj (w : Wr) (hs : w.size ≤ 1000000000) : Pr 99 [.agg w.cells] (sC (putD w)) := by
 have hmw := Z61 w
 unfold putD
 cases hm : Z0 w 6 with
 | false =>
  rw [hm] at hmw
  refine Zl mixed Zv5 (by simp [Zq,Zp,Wr.closed]) fun hl T => ?_
  unfold Zrm
  simp only [go_sem,simprocAttr,Wr.closed,Wr.take4,Wr.len4]
  refine Za hmw ?_
  simp only [go_sem,simprocAttr]
  simp [Zf,Ze,Zk,Zg,Zh,Zd,Zc,Zb]
 | true =>
  rw [hm] at hmw
  refine Zl mixed Zv5 (by simp [Zq,Zp,Wr.closed]) fun hl T => ?_
  unfold Zrm
  simp only [go_sem,simprocAttr,Wr.closed,Wr.take4,Wr.len4]
  refine Za hmw ?_
  obtain ⟨v',H',hcs,ha⟩ := Zvu w (.c .nilS) [] [] .nil (by simpa using hs)
  have hb := ha.b2sL
  simp only [go_sem,simprocAttr,Wr.take4,Wr.len4]
  refine Z3 hcs (fun h => by cases h) ?_
  simp only [go_sem,simprocAttr,hb]
  simp [Zf,Ze,Zk,Zg,Zh,Zd,Zc,Zb]
end Go.Proofs.YticmfblfghdkbaaGreatDoor.Eng
