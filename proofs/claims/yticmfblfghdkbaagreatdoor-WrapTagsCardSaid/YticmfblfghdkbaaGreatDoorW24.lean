/- Parts of this claim's proof, joined. No statement of the seat is proved here. -/
import Derived.Test.YticmfblfghdkbaaGreatDoorW23
import Derived.Shelf.Strconv.Itoa3
set_option linter.unusedVariables false
set_option linter.unusedSimpArgs false
namespace Go.Proofs.YticmfblfghdkbaaGreatDoor.Eng
open Go Go.Shelf
def Zve : Go.Shelf.Ren := ⟨fun | 171 => 151 | 243 => 182 | 246 => 205 | 283 => 216 | 284 => 217 | 285 => 218 | 286 => 219 | 129 => 225 | 317 => 224 | 318 => 226 | 319 => 227 | 320 => 228 | 337 => 234 | 338 => 235 | n => n,fun | 3 => 3 | 9 => 9 | 2 => 2 | 4 => 4 | 171 => 292 | 0 => 0 | 53 => 152 | 37 => 22 | 5 => 5 | 173 => 295 | 212 => 300 | 51 => 90 | 20 => 20 | 213 => 301 | 46 => 160 | 232 => 311 | 233 => 259 | n => n,fun | 17 => 2 | 18 => 5 | 19 => 6 | n => n⟩
theorem Z69 : Go.Proofs.Lays.n171 Tryz.prog Zve := {
 mixed := by kernel_rfl
 f129 := Tryz.func225.trans (congrArg some (by kernel_rfl))
 f171 := Tryz.func151.trans (congrArg some (by kernel_rfl))
 f243 := Tryz.func182.trans (congrArg some (by kernel_rfl))
 f246 := Tryz.func205.trans (congrArg some (by kernel_rfl))
 f283 := Tryz.func216.trans (congrArg some (by kernel_rfl))
 f284 := Tryz.func217.trans (congrArg some (by kernel_rfl))
 f285 := Tryz.func218.trans (congrArg some (by kernel_rfl))
 f286 := Tryz.func219.trans (congrArg some (by kernel_rfl))
 f317 := Tryz.func224.trans (congrArg some (by kernel_rfl))
 f318 := Tryz.func226.trans (congrArg some (by kernel_rfl))
 f319 := Tryz.func227.trans (congrArg some (by kernel_rfl))
 f320 := Tryz.func228.trans (congrArg some (by kernel_rfl))
 f337 := Tryz.func234.trans (congrArg some (by kernel_rfl))
 f338 := Tryz.func235.trans (congrArg some (by kernel_rfl))
 t0 := Tryz.underlying0
 a0 := Tryz.isAgg0
 z0 := Tryz.sizeOf0
 v0 := Tryz.zeroValue0
 t2 := Tryz.underlying2
 a2 := Tryz.isAgg2
 z2 := Tryz.sizeOf2
 v2 := Tryz.zeroValue2
 t3 := Tryz.underlying3
 a3 := Tryz.isAgg3
 z3 := Tryz.sizeOf3
 v3 := Tryz.zeroValue3
 t4 := Tryz.underlying4
 a4 := Tryz.isAgg4
 z4 := Tryz.sizeOf4
 v4 := Tryz.zeroValue4
 t5 := Tryz.underlying5
 a5 := Tryz.isAgg5
 z5 := Tryz.sizeOf5
 v5 := Tryz.zeroValue5
 t9 := Tryz.underlying9
 a9 := Tryz.isAgg9
 z9 := Tryz.sizeOf9
 v9 := Tryz.zeroValue9
 t20 := Tryz.underlying20
 a20 := Tryz.isAgg20
 z20 := Tryz.sizeOf20
 v20 := Tryz.zeroValue20
 t37 := Tryz.underlying22
 a37 := Tryz.isAgg22
 z37 := Tryz.sizeOf22
 v37 := Tryz.zeroValue22
 t46 := Tryz.underlying160
 a46 := Tryz.isAgg160
 z46 := Tryz.sizeOf160
 v46 := Tryz.zeroValue160
 t51 := Tryz.underlying90
 a51 := Tryz.isAgg90
 z51 := Tryz.sizeOf90
 v51 := Tryz.zeroValue90
 t53 := Tryz.underlying152
 a53 := Tryz.isAgg152
 z53 := Tryz.sizeOf152
 v53 := Tryz.zeroValue152
 t171 := Tryz.underlying292
 a171 := Tryz.isAgg292
 z171 := Tryz.sizeOf292
 v171 := Tryz.zeroValue292
 t173 := Tryz.underlying295
 a173 := Tryz.isAgg295
 z173 := Tryz.sizeOf295
 v173 := Tryz.zeroValue295
 t212 := Tryz.underlying300
 a212 := Tryz.isAgg300
 z212 := Tryz.sizeOf300
 v212 := Tryz.zeroValue300
 t213 := Tryz.underlying301
 a213 := Tryz.isAgg301
 z213 := Tryz.sizeOf301
 t232 := Tryz.underlying311
 a232 := Tryz.isAgg311
 z232 := Tryz.sizeOf311
 v232 := Tryz.zeroValue311
 t233 := Tryz.underlying259
 a233 := Tryz.isAgg259
 z233 := Tryz.sizeOf259
 v233 := Tryz.zeroValue259
 g17 := by kernel_rfl
 g18 := by kernel_rfl
 g19 := by kernel_rfl }
end Go.Proofs.YticmfblfghdkbaaGreatDoor.Eng
namespace Go.Proofs.YticmfblfghdkbaaGreatDoor.Eng
open Go Go.Shelf Go.RowKit
theorem Zy1 : Zve.f 171 = 151 := by kernel_rfl
theorem Zbd7 : ∀ n : Fin 100,(⟨(Lib.decDigits n.1).toArray⟩ : ByteArray) = digD n.1 := by decide +kernel
theorem Zoo (n : Nat) (hn : n < 100) : Pr 151 [iC n] (sC (digD n)) := by
 intro H
 refine ⟨by rw [← Zy1]; exact ⟨_,Z69.f171,rfl,rfl⟩,fun B m w vs r ha => ?_⟩
 obtain ⟨vs⟩ := vs
 cases ha with | cons a1 a2 =>
 cases a2
 cases a1 with | c a1 =>
 cases a1
 have := Any.strconv_Itoa_small Z69 n hn w
 rw [Zy1,Zbd7 ⟨n,hn⟩] at this
 refine this.mono ?_
 rintro e w' ⟨rfl,rfl⟩
 exact ⟨_,m,rfl,St.refl r,.c (.str _)⟩
theorem Z51 (m : ByteArray) (n : Nat) (hm : m.size ≤ 1000000) (hn : n < 100) : Pr 57 [sC m,iC n] (sC (ownK m n)) := by
 have hi := Zoo n hn
 have hz : (digD n).size ≤ 3 := Zor n
 have e1 : digS (n : Int) = digD n := by unfold digS; rw [Int.toNat_natCast]
 have hd : Pr 152 [sC Zgc,sC m,sC (ownW ++ digD n),iC 32] (sC (ownK m n)) := by
  unfold ownK
  rw [e1]
  exact Zp1 Zgc m (ownW ++ digD n) (by decide) hm (by rw [ByteArray.size_append]; show 4 + _ ≤ _; omega)
 have c1 : ∀ H : Heap,vBin .add (.c (.str ⟨#[32]⟩)) (sC (digD n)) H = some (sC (⟨#[32]⟩ ++ digD n),H) := fun H => Zc0 (by show 1 + _ ≤ _; omega)
 have c2 : ∀ H : Heap,vBin .add (.c (.str ⟨#[111,119,110]⟩)) (sC (⟨#[32]⟩ ++ digD n)) H = some (sC (ownW ++ digD n),H) := fun H => by
  rw [Zc0 (by rw [ByteArray.size_append]; show 3 + (1 + _) ≤ _; omega),← ByteArray.append_assoc]
  rfl
 have hder : Pr 103 [sC m,iC 0,iC n] (sC (ownK m n)) := by
  refine Zl mixed Zjn rfl fun hl T => ?_
  unfold Zh7
  generalize ownK m n = K at hd ⊢
  have hx : ∀ (a b c d : List Cell) (H : Heap),vIx 1 (.c (.lst 1 [a,b,c,d])) (iC 0) H = some (.c (.fp a 0),H) := fun _ _ _ _ _ => rfl
  simp only [go_sem,simprocAttr,hx]
  refine Za hi ?_
  simp only [go_sem,simprocAttr,c1,c2]
  refine Za hd ?_
  simp only [go_sem,simprocAttr]
  simp [Zf,Ze,Zk,Zg,Zh,Zd,Zc,Zb]
 refine Zl mixed Z5n rfl fun hl T => ?_
 unfold Zx6
 simp only [go_sem,simprocAttr]
 refine Za hder ?_
 simp only [go_sem,simprocAttr]
 simp [Zf,Ze,Zk,Zg,Zh,Zd,Zc,Zb]
theorem Zxs (m : ByteArray) (n : Nat) (hm : m.size ≤ 1000000) (hn : n < 256) : Pr 24 [sC m,iC n] (sC (ownK m n)) := by
 have hi := Ztl n hn
 have hz : (digD n).size ≤ 3 := Zor n
 have e1 : digS (n : Int) = digD n := by unfold digS; rw [Int.toNat_natCast]
 have hd : Pr 65 [sC Zgc,sC m,sC (ownW ++ digD n),iC 32] (sC (ownK m n)) := by
  unfold ownK
  rw [e1]
  exact Zsc Zgc m (ownW ++ digD n) (by decide) hm (by rw [ByteArray.size_append]; show 4 + _ ≤ _; omega)
 have c1 : ∀ H : Heap,vBin .add (.c (.str ⟨#[111,119,110,32]⟩)) (sC (digD n)) H = some (sC (ownW ++ digD n),H) := fun H => Zc0 (by show 4 + _ ≤ _; omega)
 refine Zl mixed Z7k rfl fun hl T => ?_
 unfold Z0w
 generalize ownK m n = K at hd ⊢
 simp only [go_sem,simprocAttr]
 refine Za hi ?_
 simp only [go_sem,simprocAttr,c1]
 refine Za hd ?_
 simp only [go_sem,simprocAttr]
 simp [Zf,Ze,Zk,Zg,Zh,Zd,Zc,Zb]
theorem Zrt (m : ByteArray) (n : Nat) (hm : m.size ≤ 1000000) (hn : n < 100) : Pr 60 [sC m,iC n] (sC (Zbu m n)) := by
 have hi := Zoo n hn
 have hz : (digD n).size ≤ 3 := Zor n
 have e1 : digS (n : Int) = digD n := by unfold digS; rw [Int.toNat_natCast]
 have hd : Pr 152 [sC Zgc,sC m,sC (Znh ++ digD n),iC 32] (sC (Zbu m n)) := by
  unfold Zbu
  rw [e1]
  exact Zp1 Zgc m (Znh ++ digD n) (by decide) hm (by rw [ByteArray.size_append]; show 6 + _ ≤ _; omega)
 have c1 : ∀ H : Heap,vBin .add (.c (.str ⟨#[32]⟩)) (sC (digD n)) H = some (sC (⟨#[32]⟩ ++ digD n),H) := fun H => Zc0 (by show 1 + _ ≤ _; omega)
 have c2 : ∀ H : Heap,vBin .add (.c (.str ⟨#[101,112,111,99,104]⟩)) (sC (⟨#[32]⟩ ++ digD n)) H = some (sC (Znh ++ digD n),H) := fun H => by
  rw [Zc0 (by rw [ByteArray.size_append]; show 5 + (1 + _) ≤ _; omega),← ByteArray.append_assoc]
  rfl
 have hder : Pr 103 [sC m,iC 1,iC n] (sC (Zbu m n)) := by
  refine Zl mixed Zjn rfl fun hl T => ?_
  unfold Zh7
  generalize Zbu m n = K at hd ⊢
  have hx : ∀ (a b c d : List Cell) (H : Heap),vIx 1 (.c (.lst 1 [a,b,c,d])) (iC 1) H = some (.c (.fp b 0),H) := fun _ _ _ _ _ => rfl
  simp only [go_sem,simprocAttr,hx]
  refine Za hi ?_
  simp only [go_sem,simprocAttr,c1,c2]
  refine Za hd ?_
  simp only [go_sem,simprocAttr]
  simp [Zf,Ze,Zk,Zg,Zh,Zd,Zc,Zb]
 refine Zl mixed Z2f rfl fun hl T => ?_
 unfold Zsm
 simp only [go_sem,simprocAttr]
 refine Za hder ?_
 simp only [go_sem,simprocAttr]
 simp [Zf,Ze,Zk,Zg,Zh,Zd,Zc,Zb]
theorem Zka (m : ByteArray) (n : Nat) (hm : m.size ≤ 1000000) (hn : n < 256) : Pr 25 [sC m,iC n] (sC (Zbu m n)) := by
 have hi := Ztl n hn
 have hz : (digD n).size ≤ 3 := Zor n
 have e1 : digS (n : Int) = digD n := by unfold digS; rw [Int.toNat_natCast]
 have hd : Pr 65 [sC Zgc,sC m,sC (Znh ++ digD n),iC 32] (sC (Zbu m n)) := by
  unfold Zbu
  rw [e1]
  exact Zsc Zgc m (Znh ++ digD n) (by decide) hm (by rw [ByteArray.size_append]; show 6 + _ ≤ _; omega)
 have c1 : ∀ H : Heap,vBin .add (.c (.str ⟨#[101,112,111,99,104,32]⟩)) (sC (digD n)) H = some (sC (Znh ++ digD n),H) := fun H => Zc0 (by show 6 + _ ≤ _; omega)
 refine Zl mixed Z4h rfl fun hl T => ?_
 unfold Zvs
 generalize Zbu m n = K at hd ⊢
 simp only [go_sem,simprocAttr]
 refine Za hi ?_
 simp only [go_sem,simprocAttr,c1]
 refine Za hd ?_
 simp only [go_sem,simprocAttr]
 simp [Zf,Ze,Zk,Zg,Zh,Zd,Zc,Zb]
theorem Zsa (o : ByteArray) (ho : o.size ≤ 1000000) : Pr 56 [sC o] (sC (Zdc o)) := by
 have hd : Pr 152 [sC Zgc,sC o,sC Zxm,iC 64] (sC (Zdc o)) := Zz6 Zgc o Zxm (by decide) ho (by decide)
 have hder : Pr 103 [sC o,iC 3,iC 0] (sC (Zdc o)) := by
  refine Zl mixed Zjn rfl fun hl T => ?_
  unfold Zh7
  generalize Zdc o = K at hd ⊢
  have hx : ∀ (a b c d : List Cell) (H : Heap),vIx 1 (.c (.lst 1 [a,b,c,d])) (iC 3) H = some (.c (.fp d 0),H) := fun _ _ _ _ _ => rfl
  simp only [go_sem,simprocAttr,hx]
  refine Za hd ?_
  simp only [go_sem,simprocAttr]
  simp [Zf,Ze,Zk,Zg,Zh,Zd,Zc,Zb]
 refine Zl mixed Z48 rfl fun hl T => ?_
 unfold Zwo
 simp only [go_sem,simprocAttr]
 refine Za hder ?_
 simp only [go_sem,simprocAttr]
 simp [Zf,Ze,Zk,Zg,Zh,Zd,Zc,Zb]
theorem Z62 (o : ByteArray) (ho : o.size ≤ 1000000) : Pr 73 [sC o] (sC (Zdc o)) := by
 have hd : Pr 65 [sC Zgc,sC o,sC Zxm,iC 64] (sC (Zdc o)) := Z35 Zgc o Zxm (by decide) ho (by decide)
 refine Zl mixed Z6q rfl fun hl T => ?_
 unfold Zzb
 generalize Zdc o = K at hd ⊢
 simp only [go_sem,simprocAttr]
 refine Za hd ?_
 simp only [go_sem,simprocAttr]
 simp [Zf,Ze,Zk,Zg,Zh,Zd,Zc,Zb]
theorem Z42 (n : Int) : Pr 74 [iC n] (sC (Zc6 n)) := by
 have h8 := Zio n
 have c1 : ∀ H : Heap,vBin .add (.c (.str ⟨#[0,0,0,0]⟩)) (sC (baL (Zcx (IntKind.wrap .u64 n)))) H = some (sC (Zc6 n),H) := fun H => by
  rw [Zc0 (by rw [Zc9,Zcx,Zc8]; decide)]
  unfold Zc6 Zfa
  rw [Zq1]
  rfl
 refine Zl mixed Z4p rfl fun hl T => ?_
 unfold Zvi
 simp only [go_sem,simprocAttr]
 refine Za h8 ?_
 simp only [go_sem,simprocAttr,c1]
 simp [Zf,Ze,Zk,Zg,Zh,Zd,Zc,Zb]
theorem Zbco (n : Int) (k : Nat) (hk : k < 8) : b8 (n.fdiv (2 ^ (8 * k))) = b8 ((IntKind.wrap .u64 n).fdiv (2 ^ (8 * k))) := by
 have hw : IntKind.wrap .u64 n = n % 18446744073709551616 := by simp [IntKind.wrap,IntKind.bits,IntKind.signed]
 have hb : ∀ x : Int,b8 x = UInt8.ofNat (x % 256).toNat := fun x => by
  unfold b8
  have h : IntKind.wrap .u8 x = x % 256 := by simp [IntKind.wrap,IntKind.bits,IntKind.signed]
  rw [h]
 rw [hb,hb,hw]
 have key : n.fdiv (2 ^ (8 * k)) % 256 = (n % 18446744073709551616).fdiv (2 ^ (8 * k)) % 256 := by
  match k,hk with
  | 0,_ => simp only [Int.fdiv_eq_ediv_of_nonneg _ (show (0 : Int) ≤ 2 ^ (8 * 0) by decide)]; omega
  | 1,_ => simp only [Int.fdiv_eq_ediv_of_nonneg _ (show (0 : Int) ≤ 2 ^ (8 * 1) by decide)]; omega
  | 2,_ => simp only [Int.fdiv_eq_ediv_of_nonneg _ (show (0 : Int) ≤ 2 ^ (8 * 2) by decide)]; omega
  | 3,_ => simp only [Int.fdiv_eq_ediv_of_nonneg _ (show (0 : Int) ≤ 2 ^ (8 * 3) by decide)]; omega
  | 4,_ => simp only [Int.fdiv_eq_ediv_of_nonneg _ (show (0 : Int) ≤ 2 ^ (8 * 4) by decide)]; omega
  | 5,_ => simp only [Int.fdiv_eq_ediv_of_nonneg _ (show (0 : Int) ≤ 2 ^ (8 * 5) by decide)]; omega
  | 6,_ => simp only [Int.fdiv_eq_ediv_of_nonneg _ (show (0 : Int) ≤ 2 ^ (8 * 6) by decide)]; omega
  | 7,_ => simp only [Int.fdiv_eq_ediv_of_nonneg _ (show (0 : Int) ≤ 2 ^ (8 * 7) by decide)]; omega
 rw [key]
theorem Zbea {s : ByteArray} {i : Nat} {x : UInt8} {ik : IntKind} {H : Heap} (h : s.data.toList[i]? = some x) : vIxS (sC s) (.c (.int ik (i : Int))) H = some (.c (.int .u8 (x.toNat : Int)),H) := by
 obtain ⟨h1,h2⟩ := List.getElem?_eq_some_iff.1 h
 have h3 : i < s.size := h1
 have h4 : s[i]'h3 = x := h2
 simp [vIxS,h3,h4]
set_option maxHeartbeats 4000000 in
theorem Zbcz (key nonce s : ByteArray) (hk : key.size = 32) (hn : nonce.size = 12) (hs : s.size ≤ 1048576) : Pr 120 [sC key,sC nonce,iC 1,sC s] (sC (xorS key nonce 1 s)) := by
 refine Zl mixed Zba7 rfl fun hl T => ?_
 obtain ⟨l,hl0⟩ : ∃ l,l = s.data.toList := ⟨_,rfl⟩
 have hN : l.length = s.size := by rw [hl0]; rfl
 obtain ⟨X,hX⟩ : ∃ X,X = Zi1 (Zh8 key nonce 1) 0 l := ⟨_,rfl⟩
 have hXl : X.length = l.length := by rw [hX,Zn9]
 have hXat : ∀ p x,l[p]? = some x → X[p]? = some (x ^^^ Zh8 key nonce 1 p) := fun p x h => by rw [hX,Zsh _ _ _ _ _ h,Nat.zero_add]
 have hblk := fun (c : Nat) (hc : c < 4294967296) => Z6w key nonce (c : Int) hk hn (by omega) (by omega)
 have hbll := fun c => Zl9 key nonce c
 have hst := fun (j i : Nat) (hi : i < 64) => Z07 (key := key) (nonce := nonce) (ctr := 1) (j := j) hi
 have hres : xorS key nonce 1 s = baL X := by rw [hX,hl0]; rfl
 rw [hres]
 unfold Z4v
 by_cases h0 : s.size = 0
 ·have hXn : X = [] := List.eq_nil_of_length_eq_zero (by omega)
  have hc : ((s.size : Int) = 0) := by omega
  subst hXn
  simp only [go_sem,reduceCtorEq,Nat.reduceEqDiff,Nat.reduceAdd,Nat.reduceSub,Nat.reduceMul,Nat.reduceLeDiff,Int.reduceEq,Int.reduceLT,Int.reduceLE,Int.reduceAdd,Int.reduceMul,Int.reduceSub,Int.reduceNeg,Int.reduceToNat,reduceIte,Nat.reduceLT,hc]
  simp [Zf,Ze,Zk,Zg,Zh,Zd,Zc,Zb,baL]
 ·have hc : ¬ ((s.size : Int) = 0) := by omega
  have hb1 := hblk 1 (by omega)
  have hb2 := hbll ((1 : Nat) : Int)
  have hne : ¬ (baL (Zht key nonce ((1 : Nat) : Int)) = ⟨#[]⟩) := fun h => by
   have := congrArg ByteArray.size h
   rw [Zc9,hb2] at this
   cases this
  have w1 : IntKind.wrap .i64 ((s.size : Int) - 1) = ((s.size - 1 : Nat) : Int) := by rw [Zn (by omega)]; omega
  have w2 : IntKind.wrap .i64 (Int.tdiv ((s.size - 1 : Nat) : Int) 64) = (((s.size - 1) / 64 : Nat) : Int) := by rw [Int.tdiv_eq_ediv_of_nonneg (by omega),Zn (by omega)]; omega
  have w3 : IntKind.wrap .i64 (1 + (((s.size - 1) / 64 : Nat) : Int)) = ((1 + (s.size - 1) / 64 : Nat) : Int) := by rw [Zn (by omega)]; omega
  have c3 : ¬ ((4294967296 : Int) ≤ ((1 + (s.size - 1) / 64 : Nat) : Int)) := by omega
  have hbytes : (Zcu s).map (fun c => [c]) = l.map Zs := by rw [Zjd,hl0]
  have hs2b : ∀ H : Heap,vS2b (sC s) H = some (.c (.slc H.length 0 l.length 1 false),H ++ [uBlk l]) := fun H => by
   simp only [vS2b]
   rw [if_pos (by omega),hbytes,hN]
  simp only [go_sem,reduceCtorEq,Nat.reduceEqDiff,Nat.reduceAdd,Nat.reduceSub,Nat.reduceMul,Nat.reduceLeDiff,Int.reduceEq,Int.reduceLT,Int.reduceLE,Int.reduceAdd,Int.reduceMul,Int.reduceSub,Int.reduceNeg,Int.reduceToNat,reduceIte,Nat.reduceLT,hc]
  refine Za hb1 ?_
  have outer : ∀ (d j : Nat) (e : Env) (H : Heap),j + d = (l.length + 63) / 64 → e 0 = sC key → e 1 = sC nonce → e 2 = iC 1 → e 9 = .c (.slc 0 0 l.length 1 false) → e 10 = iC ((64 * j : Nat) : Int) → H[0]? = some (uBlk (mixL X l (64 * j))) →
    Run (Zt Tryz.prog T) ⟨[.tmp 8],fun u E => Zf E u = some (sC (baL X))⟩ [.loop Zhn,.blk 0,.code Zjk] e H := by
   intro d
   induction d with
   | zero =>
    intro j e H hj h0' h1 h2 h9 h10 hH
    have hc : ¬ (((64 * j : Nat) : Int) < (l.length : Int)) := by omega
    rw [Zkn hXl (by omega)] at hH
    have hb := Zug hH hXl (by omega)
    refine Zi ?_
    conv => enter [3,1]; unfold Zhn
    simp only [go_sem,reduceCtorEq,Nat.reduceEqDiff,Nat.reduceAdd,Nat.reduceSub,Nat.reduceMul,Nat.reduceLeDiff,Int.reduceEq,Int.reduceLT,Int.reduceLE,Int.reduceAdd,Int.reduceMul,Int.reduceSub,Int.reduceNeg,Int.reduceToNat,reduceIte,Nat.reduceLT,h9,h10,hc]
    unfold Zjk
    simp only [go_sem,reduceCtorEq,Nat.reduceEqDiff,Nat.reduceAdd,Nat.reduceSub,Nat.reduceMul,Nat.reduceLeDiff,Int.reduceEq,Int.reduceLT,Int.reduceLE,Int.reduceAdd,Int.reduceMul,Int.reduceSub,Int.reduceNeg,Int.reduceToNat,reduceIte,Nat.reduceLT,h9,hb]
    simp [Zf,Ze,Zk,Zg,Zh,Zd,Zc,Zb]
   | succ d ih =>
    intro j e H hj h0' h1 h2 h9 h10 hH
    have hc : (((64 * j : Nat) : Int) < (l.length : Int)) := by omega
    have wq : IntKind.wrap .i64 (Int.tdiv ((64 * j : Nat) : Int) 64) = (j : Int) := by rw [Int.tdiv_eq_ediv_of_nonneg (by omega),Zn (by omega)]; omega
    have wj : IntKind.wrap .i64 (1 + (j : Int)) = ((1 + j : Nat) : Int) := by rw [Zn (by omega)]; omega
    have wn : IntKind.wrap .i64 (((64 * j : Nat) : Int) + 64) = ((64 * (j + 1) : Nat) : Int) := by rw [Zn (by omega)]; omega
    have hb1 := hblk (1 + j) (by omega)
    have hb2 := hbll ((1 + j : Nat) : Int)
    obtain ⟨bk,hbk⟩ : ∃ bk,bk = Zht key nonce ((1 + j : Nat) : Int) := ⟨_,rfl⟩
    rw [← hbk] at hb1 hb2
    have hb4 : ∀ i,i < 64 → Zh8 key nonce 1 (64 * j + i) = bk.getD i 0 := fun i hi => by rw [hst j i hi,hbk]
    refine Zi ?_
    conv => enter [3,1]; unfold Zhn
    simp only [go_sem,reduceCtorEq,Nat.reduceEqDiff,Nat.reduceAdd,Nat.reduceSub,Nat.reduceMul,Nat.reduceLeDiff,Int.reduceEq,Int.reduceLT,Int.reduceLE,Int.reduceAdd,Int.reduceMul,Int.reduceSub,Int.reduceNeg,Int.reduceToNat,reduceIte,Nat.reduceLT,h0',h1,h2,h9,h10,hc,wq,wj]
    refine Za hb1 ?_
    simp only [go_sem,reduceCtorEq,Nat.reduceEqDiff,Nat.reduceAdd,Nat.reduceSub,Nat.reduceMul,Nat.reduceLeDiff,Int.reduceEq,Int.reduceLT,Int.reduceLE,Int.reduceAdd,Int.reduceMul,Int.reduceSub,Int.reduceNeg,Int.reduceToNat,reduceIte,Nat.reduceLT,h10]
    have inner : ∀ (k i : Nat) (e : Env) (H : Heap),i + k = min 64 (l.length - 64 * j) → e 0 = sC key → e 1 = sC nonce → e 2 = iC 1 → e 9 = .c (.slc 0 0 l.length 1 false) → e 10 = iC ((64 * j : Nat) : Int) → e 11 = sC (baL bk) → e 12 = iC ((64 * j + i : Nat) : Int) → H[0]? = some (uBlk (mixL X l (64 * j + i))) →
      Run (Zt Tryz.prog T) ⟨[.tmp 8],fun u E => Zf E u = some (sC (baL X))⟩ [.loop Zk8,.blk 2,.blk 1,.code Zla,.loop Zhn,.blk 0,.code Zjk] e H := by
     intro k
     induction k with
     | zero =>
      intro i e H hi h0' h1 h2 h9 h10 h11 h12 hH
      have fin : Run (Zt Tryz.prog T) ⟨[.tmp 8],fun u E => Zf E u = some (sC (baL X))⟩ [.loop Zk8,.blk 2,.blk 1,.code Zla,.loop Zhn,.blk 0,.code Zjk] e H := by
       refine Zi ?_
       conv => enter [3,1]; unfold Zk8
       have done : ∀ e : Env,e 0 = sC key → e 1 = sC nonce → e 2 = iC 1 → e 9 = .c (.slc 0 0 l.length 1 false) → e 10 = iC ((64 * (j + 1) : Nat) : Int) →
         Run (Zt Tryz.prog T) ⟨[.tmp 8],fun u E => Zf E u = some (sC (baL X))⟩ [.loop Zhn,.blk 0,.code Zjk] e H := fun e g0 g1 g2 g9 g10 => by
        refine ih (j + 1) e H (by omega) g0 g1 g2 g9 g10 ?_
        rw [hH]
        by_cases hlast : 64 * j + 64 ≤ l.length
        ·have : 64 * j + i = 64 * (j + 1) := by omega
         rw [this]
        ·rw [Zkn hXl (by omega),Zkn hXl (by omega)]
       by_cases hlt : 64 * j + i < l.length
       ·have hc1 : ((64 * j + i : Nat) : Int) < (l.length : Int) := by omega
        have hc2 : ¬ (((64 * j + i : Nat) : Int) < ((64 * (j + 1) : Nat) : Int)) := by omega
        simp only [go_sem,reduceCtorEq,Nat.reduceEqDiff,Nat.reduceAdd,Nat.reduceSub,Nat.reduceMul,Nat.reduceLeDiff,Int.reduceEq,Int.reduceLT,Int.reduceLE,Int.reduceAdd,Int.reduceMul,Int.reduceSub,Int.reduceNeg,Int.reduceToNat,reduceIte,Nat.reduceLT,h9,h10,h12,hc1,wn,hc2]
        unfold Zla
        simp only [go_sem,reduceCtorEq,Nat.reduceEqDiff,Nat.reduceAdd,Nat.reduceSub,Nat.reduceMul,Nat.reduceLeDiff,Int.reduceEq,Int.reduceLT,Int.reduceLE,Int.reduceAdd,Int.reduceMul,Int.reduceSub,Int.reduceNeg,Int.reduceToNat,reduceIte,Nat.reduceLT,h10,wn]
        refine done _ ?_ ?_ ?_ ?_ ?_
        ·simp only [go_sem,reduceCtorEq,Nat.reduceEqDiff,Nat.reduceAdd,Nat.reduceSub,Nat.reduceMul,Nat.reduceLeDiff,Int.reduceEq,Int.reduceLT,Int.reduceLE,Int.reduceAdd,Int.reduceMul,Int.reduceSub,Int.reduceNeg,Int.reduceToNat,reduceIte,Nat.reduceLT,h0']
        ·simp only [go_sem,reduceCtorEq,Nat.reduceEqDiff,Nat.reduceAdd,Nat.reduceSub,Nat.reduceMul,Nat.reduceLeDiff,Int.reduceEq,Int.reduceLT,Int.reduceLE,Int.reduceAdd,Int.reduceMul,Int.reduceSub,Int.reduceNeg,Int.reduceToNat,reduceIte,Nat.reduceLT,h1]
        ·simp only [go_sem,reduceCtorEq,Nat.reduceEqDiff,Nat.reduceAdd,Nat.reduceSub,Nat.reduceMul,Nat.reduceLeDiff,Int.reduceEq,Int.reduceLT,Int.reduceLE,Int.reduceAdd,Int.reduceMul,Int.reduceSub,Int.reduceNeg,Int.reduceToNat,reduceIte,Nat.reduceLT,h2]
        ·simp only [go_sem,reduceCtorEq,Nat.reduceEqDiff,Nat.reduceAdd,Nat.reduceSub,Nat.reduceMul,Nat.reduceLeDiff,Int.reduceEq,Int.reduceLT,Int.reduceLE,Int.reduceAdd,Int.reduceMul,Int.reduceSub,Int.reduceNeg,Int.reduceToNat,reduceIte,Nat.reduceLT,h9]
        ·simp only [go_sem,reduceCtorEq,Nat.reduceEqDiff,Nat.reduceAdd,Nat.reduceSub,Nat.reduceMul,Nat.reduceLeDiff,Int.reduceEq,Int.reduceLT,Int.reduceLE,Int.reduceAdd,Int.reduceMul,Int.reduceSub,Int.reduceNeg,Int.reduceToNat,reduceIte,Nat.reduceLT,wn]
       ·have hc1 : ¬ ((64 * j + i : Nat) : Int) < (l.length : Int) := by omega
        simp only [go_sem,reduceCtorEq,Nat.reduceEqDiff,Nat.reduceAdd,Nat.reduceSub,Nat.reduceMul,Nat.reduceLeDiff,Int.reduceEq,Int.reduceLT,Int.reduceLE,Int.reduceAdd,Int.reduceMul,Int.reduceSub,Int.reduceNeg,Int.reduceToNat,reduceIte,Nat.reduceLT,h9,h10,h12,hc1]
        unfold Zla
        simp only [go_sem,reduceCtorEq,Nat.reduceEqDiff,Nat.reduceAdd,Nat.reduceSub,Nat.reduceMul,Nat.reduceLeDiff,Int.reduceEq,Int.reduceLT,Int.reduceLE,Int.reduceAdd,Int.reduceMul,Int.reduceSub,Int.reduceNeg,Int.reduceToNat,reduceIte,Nat.reduceLT,h10,wn]
        refine done _ ?_ ?_ ?_ ?_ ?_
        ·simp only [go_sem,reduceCtorEq,Nat.reduceEqDiff,Nat.reduceAdd,Nat.reduceSub,Nat.reduceMul,Nat.reduceLeDiff,Int.reduceEq,Int.reduceLT,Int.reduceLE,Int.reduceAdd,Int.reduceMul,Int.reduceSub,Int.reduceNeg,Int.reduceToNat,reduceIte,Nat.reduceLT,h0']
        ·simp only [go_sem,reduceCtorEq,Nat.reduceEqDiff,Nat.reduceAdd,Nat.reduceSub,Nat.reduceMul,Nat.reduceLeDiff,Int.reduceEq,Int.reduceLT,Int.reduceLE,Int.reduceAdd,Int.reduceMul,Int.reduceSub,Int.reduceNeg,Int.reduceToNat,reduceIte,Nat.reduceLT,h1]
        ·simp only [go_sem,reduceCtorEq,Nat.reduceEqDiff,Nat.reduceAdd,Nat.reduceSub,Nat.reduceMul,Nat.reduceLeDiff,Int.reduceEq,Int.reduceLT,Int.reduceLE,Int.reduceAdd,Int.reduceMul,Int.reduceSub,Int.reduceNeg,Int.reduceToNat,reduceIte,Nat.reduceLT,h2]
        ·simp only [go_sem,reduceCtorEq,Nat.reduceEqDiff,Nat.reduceAdd,Nat.reduceSub,Nat.reduceMul,Nat.reduceLeDiff,Int.reduceEq,Int.reduceLT,Int.reduceLE,Int.reduceAdd,Int.reduceMul,Int.reduceSub,Int.reduceNeg,Int.reduceToNat,reduceIte,Nat.reduceLT,h9]
        ·simp only [go_sem,reduceCtorEq,Nat.reduceEqDiff,Nat.reduceAdd,Nat.reduceSub,Nat.reduceMul,Nat.reduceLeDiff,Int.reduceEq,Int.reduceLT,Int.reduceLE,Int.reduceAdd,Int.reduceMul,Int.reduceSub,Int.reduceNeg,Int.reduceToNat,reduceIte,Nat.reduceLT,wn]
      exact fin
     | succ k ihk =>
      intro i e H hi h0' h1 h2 h9 h10 h11 h12 hH
      have hp : 64 * j + i < l.length := by omega
      have hc1 : ((64 * j + i : Nat) : Int) < (l.length : Int) := by omega
      have hc2 : ((64 * j + i : Nat) : Int) < ((64 * (j + 1) : Nat) : Int) := by omega
      have wi : IntKind.wrap .i64 (((64 * j + i : Nat) : Int) + 1) = ((64 * j + (i + 1) : Nat) : Int) := by rw [Zn (by omega)]; omega
      have wsub : IntKind.wrap .i64 (((64 * j + i : Nat) : Int) - ((64 * j : Nat) : Int)) = (i : Int) := by rw [Zn (by omega)]; omega
      obtain ⟨x,hx⟩ : ∃ x,l[64 * j + i]? = some x := ⟨l[64 * j + i],by simp [hp]⟩
      have hx2 : ∀ H : Heap,vIx 1 (.c (.slc 0 0 l.length 1 false)) (iC ((64 * j + i : Nat) : Int)) H = some (.c (.ptr 0 (64 * j + i) 0),H) := fun H => Zei hp
      have hbi : (baL bk).data.toList[i]? = some (bk.getD i 0) := by
       have : i < bk.length := by omega
       rw [Zgm]
       simp [this]
      have hxs := fun H => Zbea (ik := .i64) (H := H) hbi
      have hXp := hXat _ _ hx
      rw [hb4 i (by omega)] at hXp
      have hput := Zwz hH (i := 64 * j + i) (x := x ^^^ bk.getD i 0)
      rw [Z4m hXl hXp] at hput
      have hmine : Heap.mine H 0 = true := Zb7 hH rfl rfl
      have hz : (mixL X l (64 * j + i))[64 * j + i]? = some x := by rw [Zbgb hXl hp]; exact hx
      have hrow0 := Zw4 hH hz
      refine Zi ?_
      conv => enter [3,1]; unfold Zk8
      simp only [go_sem,reduceCtorEq,Nat.reduceEqDiff,Nat.reduceAdd,Nat.reduceSub,Nat.reduceMul,Nat.reduceLeDiff,Int.reduceEq,Int.reduceLT,Int.reduceLE,Int.reduceAdd,Int.reduceMul,Int.reduceSub,Int.reduceNeg,Int.reduceToNat,reduceIte,Nat.reduceLT,h9,h10,h11,h12,hc1,hc2,wn,wi,wsub,hx2,hrow0,hxs,Zlm,hmine,hput]
      refine ihk (i + 1) _ _ (by omega) ?_ ?_ ?_ ?_ ?_ ?_ ?_ ?_
      ·simp only [go_sem,reduceCtorEq,Nat.reduceEqDiff,Nat.reduceAdd,Nat.reduceSub,Nat.reduceMul,Nat.reduceLeDiff,Int.reduceEq,Int.reduceLT,Int.reduceLE,Int.reduceAdd,Int.reduceMul,Int.reduceSub,Int.reduceNeg,Int.reduceToNat,reduceIte,Nat.reduceLT,h0']
      ·simp only [go_sem,reduceCtorEq,Nat.reduceEqDiff,Nat.reduceAdd,Nat.reduceSub,Nat.reduceMul,Nat.reduceLeDiff,Int.reduceEq,Int.reduceLT,Int.reduceLE,Int.reduceAdd,Int.reduceMul,Int.reduceSub,Int.reduceNeg,Int.reduceToNat,reduceIte,Nat.reduceLT,h1]
      ·simp only [go_sem,reduceCtorEq,Nat.reduceEqDiff,Nat.reduceAdd,Nat.reduceSub,Nat.reduceMul,Nat.reduceLeDiff,Int.reduceEq,Int.reduceLT,Int.reduceLE,Int.reduceAdd,Int.reduceMul,Int.reduceSub,Int.reduceNeg,Int.reduceToNat,reduceIte,Nat.reduceLT,h2]
      ·simp only [go_sem,reduceCtorEq,Nat.reduceEqDiff,Nat.reduceAdd,Nat.reduceSub,Nat.reduceMul,Nat.reduceLeDiff,Int.reduceEq,Int.reduceLT,Int.reduceLE,Int.reduceAdd,Int.reduceMul,Int.reduceSub,Int.reduceNeg,Int.reduceToNat,reduceIte,Nat.reduceLT,h9]
      ·simp only [go_sem,reduceCtorEq,Nat.reduceEqDiff,Nat.reduceAdd,Nat.reduceSub,Nat.reduceMul,Nat.reduceLeDiff,Int.reduceEq,Int.reduceLT,Int.reduceLE,Int.reduceAdd,Int.reduceMul,Int.reduceSub,Int.reduceNeg,Int.reduceToNat,reduceIte,Nat.reduceLT,h10]
      ·simp only [go_sem,reduceCtorEq,Nat.reduceEqDiff,Nat.reduceAdd,Nat.reduceSub,Nat.reduceMul,Nat.reduceLeDiff,Int.reduceEq,Int.reduceLT,Int.reduceLE,Int.reduceAdd,Int.reduceMul,Int.reduceSub,Int.reduceNeg,Int.reduceToNat,reduceIte,Nat.reduceLT,h11]
      ·simp only [go_sem,reduceCtorEq,Nat.reduceEqDiff,Nat.reduceAdd,Nat.reduceSub,Nat.reduceMul,Nat.reduceLeDiff,Int.reduceEq,Int.reduceLT,Int.reduceLE,Int.reduceAdd,Int.reduceMul,Int.reduceSub,Int.reduceNeg,Int.reduceToNat,reduceIte,Nat.reduceLT,wi]
      ·exact Zw hH
    refine inner (min 64 (l.length - 64 * j)) 0 _ _ (by omega) ?_ ?_ ?_ ?_ ?_ ?_ ?_ ?_
    ·simp only [go_sem,reduceCtorEq,Nat.reduceEqDiff,Nat.reduceAdd,Nat.reduceSub,Nat.reduceMul,Nat.reduceLeDiff,Int.reduceEq,Int.reduceLT,Int.reduceLE,Int.reduceAdd,Int.reduceMul,Int.reduceSub,Int.reduceNeg,Int.reduceToNat,reduceIte,Nat.reduceLT,h0']
    ·simp only [go_sem,reduceCtorEq,Nat.reduceEqDiff,Nat.reduceAdd,Nat.reduceSub,Nat.reduceMul,Nat.reduceLeDiff,Int.reduceEq,Int.reduceLT,Int.reduceLE,Int.reduceAdd,Int.reduceMul,Int.reduceSub,Int.reduceNeg,Int.reduceToNat,reduceIte,Nat.reduceLT,h1]
    ·simp only [go_sem,reduceCtorEq,Nat.reduceEqDiff,Nat.reduceAdd,Nat.reduceSub,Nat.reduceMul,Nat.reduceLeDiff,Int.reduceEq,Int.reduceLT,Int.reduceLE,Int.reduceAdd,Int.reduceMul,Int.reduceSub,Int.reduceNeg,Int.reduceToNat,reduceIte,Nat.reduceLT,h2]
    ·simp only [go_sem,reduceCtorEq,Nat.reduceEqDiff,Nat.reduceAdd,Nat.reduceSub,Nat.reduceMul,Nat.reduceLeDiff,Int.reduceEq,Int.reduceLT,Int.reduceLE,Int.reduceAdd,Int.reduceMul,Int.reduceSub,Int.reduceNeg,Int.reduceToNat,reduceIte,Nat.reduceLT,h9]
    ·simp only [go_sem,reduceCtorEq,Nat.reduceEqDiff,Nat.reduceAdd,Nat.reduceSub,Nat.reduceMul,Nat.reduceLeDiff,Int.reduceEq,Int.reduceLT,Int.reduceLE,Int.reduceAdd,Int.reduceMul,Int.reduceSub,Int.reduceNeg,Int.reduceToNat,reduceIte,Nat.reduceLT,h10]
    ·simp only [go_sem,reduceCtorEq,Nat.reduceEqDiff,Nat.reduceAdd,Nat.reduceSub,Nat.reduceMul,Nat.reduceLeDiff,Int.reduceEq,Int.reduceLT,Int.reduceLE,Int.reduceAdd,Int.reduceMul,Int.reduceSub,Int.reduceNeg,Int.reduceToNat,reduceIte,Nat.reduceLT]
    ·simp only [go_sem,reduceCtorEq,Nat.reduceEqDiff,Nat.reduceAdd,Nat.reduceSub,Nat.reduceMul,Nat.reduceLeDiff,Int.reduceEq,Int.reduceLT,Int.reduceLE,Int.reduceAdd,Int.reduceMul,Int.reduceSub,Int.reduceNeg,Int.reduceToNat,reduceIte,Nat.reduceLT,Nat.add_zero]
    ·exact hH
  simp only [go_sem,reduceCtorEq,Nat.reduceEqDiff,Nat.reduceAdd,Nat.reduceSub,Nat.reduceMul,Nat.reduceLeDiff,Int.reduceEq,Int.reduceLT,Int.reduceLE,Int.reduceAdd,Int.reduceMul,Int.reduceSub,Int.reduceNeg,Int.reduceToNat,reduceIte,Nat.reduceLT,hne,w1,w2,w3,c3,hs2b]
  refine outer ((l.length + 63) / 64) 0 _ _ (by omega) ?_ ?_ ?_ ?_ ?_ ?_
  all_goals first | (simp only [go_sem,reduceCtorEq,Nat.reduceEqDiff,Nat.reduceAdd,Nat.reduceSub,Nat.reduceMul,Nat.reduceLeDiff,Int.reduceEq,Int.reduceLT,Int.reduceLE,Int.reduceAdd,Int.reduceMul,Int.reduceSub,Int.reduceNeg,Int.reduceToNat,reduceIte,Nat.reduceLT,Nat.mul_zero,Int.natCast_zero]; done) | rfl
theorem Z5a (n : Int) (i : Nat) (hi : i < 8) : (Zfa n)[7 - i]? = some (b8 (n.fdiv (2 ^ (8 * i)))) := by
 rw [Zbco n i hi]
 unfold Zfa
 match i,hi with
 | 0,_ => rfl
 | 1,_ => rfl
 | 2,_ => rfl
 | 3,_ => rfl
 | 4,_ => rfl
 | 5,_ => rfl
 | 6,_ => rfl
 | 7,_ => rfl
def Zk5 (n : Int) (i : Nat) : List UInt8 := List.replicate (12 - i) 0 ++ (Zfa n).drop (8 - i)
theorem Z9j (n : Int) : Zk5 n 0 = List.replicate 12 0 := by
 unfold Zk5
 rw [List.drop_eq_nil_of_le (by rw [Zty]; omega),List.append_nil]
theorem Z0r (n : Int) {i : Nat} (hi : i ≤ 8) : (Zk5 n i).length = 12 := by
 unfold Zk5
 rw [List.length_append,List.length_replicate,List.length_drop,Zty]
 omega
theorem Zbam (n : Int) : baL (Zk5 n 8) = Zc6 n := rfl
theorem Zban (n : Int) {i : Nat} (hi : i < 8) : (Zk5 n i).set (11 - i) (b8 (n.fdiv (2 ^ (8 * i)))) = Zk5 n (i + 1) := by
 unfold Zk5
 have h1 : 12 - i = (11 - i) + 1 := by omega
 have h2 : 8 - i = (7 - i) + 1 := by omega
 have h3 : 12 - (i + 1) = 11 - i := by omega
 have h4 : 8 - (i + 1) = 7 - i := by omega
 have he := Z5a n i hi
 obtain ⟨hl,hv⟩ := List.getElem?_eq_some_iff.1 he
 rw [h1,h3,h4,List.replicate_succ',List.append_assoc,List.set_append_right _ _ (by simp),List.length_replicate,Nat.sub_self]
 simp only [List.singleton_append,List.set_cons_zero]
 rw [h2,List.drop_eq_getElem_cons hl,hv]
theorem Zbgm {n : Int} {k : Nat} {H : Heap} (hk : k ≤ 64) : vBin .shr (iC n) (iC ((k : Nat) : Int)) H = some (iC (n.fdiv (2 ^ k)),H) := by
 have h0 : (0 : Int) ≤ ((k : Nat) : Int) := by omega
 have e1 : Nat.min k 64 = k := Nat.min_eq_left hk
 simp only [vBin,Zch,Zca,h0,if_true,Int.toNat_natCast,IntKind.bits,e1]
theorem Zr9 (n : Int) : Pr 59 [iC n] (sC (Zc6 n)) := by
 refine Zl mixed Z15 rfl fun hl T => ?_
 unfold Zsg
 have hmk := mkN 12 (by omega) (by omega)
 have e12 : (12 : Int) = ((12 : Nat) : Int) := rfl
 rw [← Z9j n] at hmk
 have loop : ∀ (k i : Nat) (e : Env) (H : Heap),i + k = 8 → e 0 = iC n → e 3 = .c (.slc 0 0 12 1 false) → e 6 = iC i → H[0]? = some (uBlk (Zk5 n i)) →
   Run (Zt Tryz.prog T) ⟨[.tmp 2],fun u E => Zf E u = some (sC (Zc6 n))⟩ [.loop Zis,.blk 0,.code Zl1] e H := by
  intro k
  induction k with
  | zero =>
   intro i e H hk h0 h3 h6 hH
   have hi : i = 8 := by omega
   subst hi
   have hc : ¬ (((8 : Nat) : Int) < 8) := by omega
   have hb := Zug hH (Z0r n (Nat.le_refl 8)) (by omega)
   refine Zi ?_
   conv => enter [3,1]; unfold Zis
   simp only [go_sem,reduceCtorEq,Nat.reduceEqDiff,Nat.reduceAdd,Nat.reduceSub,Nat.reduceMul,Nat.reduceLeDiff,Int.reduceEq,Int.reduceLT,Int.reduceLE,Int.reduceAdd,Int.reduceMul,Int.reduceSub,Int.reduceNeg,Int.reduceToNat,reduceIte,Nat.reduceLT,h6,hc]
   unfold Zl1
   simp only [go_sem,reduceCtorEq,Nat.reduceEqDiff,Nat.reduceAdd,Nat.reduceSub,Nat.reduceMul,Nat.reduceLeDiff,Int.reduceEq,Int.reduceLT,Int.reduceLE,Int.reduceAdd,Int.reduceMul,Int.reduceSub,Int.reduceNeg,Int.reduceToNat,reduceIte,Nat.reduceLT,h3,hb,Zbam]
   simp [Zf,Ze,Zk,Zg,Zh,Zd,Zc,Zb]
  | succ k ih =>
   intro i e H hk h0 h3 h6 hH
   have hc : ((i : Int) < 8) := by omega
   have w1 : IntKind.wrap .i64 (11 - (i : Int)) = ((11 - i : Nat) : Int) := by rw [Zn (by omega)]; omega
   have w2 : IntKind.wrap .i64 (8 * (i : Int)) = ((8 * i : Nat) : Int) := by rw [Zn (by omega)]; omega
   have wi : IntKind.wrap .i64 ((i : Int) + 1) = ((i + 1 : Nat) : Int) := by rw [Zn (by omega)]; omega
   have hsh : ∀ H : Heap,vBin .shr (iC n) (iC ((8 * i : Nat) : Int)) H = some (iC (n.fdiv (2 ^ (8 * i))),H) := fun H => Zbgm (by omega)
   have hx : ∀ H : Heap,vIx 1 (.c (.slc 0 0 12 1 false)) (iC ((11 - i : Nat) : Int)) H = some (.c (.ptr 0 (11 - i) 0),H) := fun H => Zei (by omega)
   have hput := Zwz hH (i := 11 - i) (x := b8 (n.fdiv (2 ^ (8 * i))))
   rw [Zban n (by omega)] at hput
   have hmine : Heap.mine H 0 = true := Zb7 hH rfl rfl
   obtain ⟨z,hz⟩ : ∃ z,(Zk5 n i)[11 - i]? = some z := ⟨_,List.getElem?_eq_getElem (by rw [Z0r n (by omega)]; omega)⟩
   have hrow := Zw4 hH hz
   refine Zi ?_
   conv => enter [3,1]; unfold Zis
   simp only [go_sem,reduceCtorEq,Nat.reduceEqDiff,Nat.reduceAdd,Nat.reduceSub,Nat.reduceMul,Nat.reduceLeDiff,Int.reduceEq,Int.reduceLT,Int.reduceLE,Int.reduceAdd,Int.reduceMul,Int.reduceSub,Int.reduceNeg,Int.reduceToNat,reduceIte,Nat.reduceLT,h0,h3,h6,hc,w1,w2,wi,hsh,Zeh,hx,hrow,hmine,hput]
   refine ih (i + 1) _ _ (by omega) ?_ ?_ ?_ ?_
   ·simp only [go_sem,reduceCtorEq,Nat.reduceEqDiff,Nat.reduceAdd,Nat.reduceSub,Nat.reduceMul,Nat.reduceLeDiff,Int.reduceEq,Int.reduceLT,Int.reduceLE,Int.reduceAdd,Int.reduceMul,Int.reduceSub,Int.reduceNeg,Int.reduceToNat,reduceIte,Nat.reduceLT,h0]
   ·simp only [go_sem,reduceCtorEq,Nat.reduceEqDiff,Nat.reduceAdd,Nat.reduceSub,Nat.reduceMul,Nat.reduceLeDiff,Int.reduceEq,Int.reduceLT,Int.reduceLE,Int.reduceAdd,Int.reduceMul,Int.reduceSub,Int.reduceNeg,Int.reduceToNat,reduceIte,Nat.reduceLT,h3]
   ·simp only [go_sem,reduceCtorEq,Nat.reduceEqDiff,Nat.reduceAdd,Nat.reduceSub,Nat.reduceMul,Nat.reduceLeDiff,Int.reduceEq,Int.reduceLT,Int.reduceLE,Int.reduceAdd,Int.reduceMul,Int.reduceSub,Int.reduceNeg,Int.reduceToNat,reduceIte,Nat.reduceLT,wi]
   ·exact Zw hH
 simp only [go_sem,reduceCtorEq,Nat.reduceEqDiff,Nat.reduceAdd,Nat.reduceSub,Nat.reduceMul,Nat.reduceLeDiff,Int.reduceEq,Int.reduceLT,Int.reduceLE,Int.reduceAdd,Int.reduceMul,Int.reduceSub,Int.reduceNeg,Int.reduceToNat,reduceIte,Nat.reduceLT]
 rw [e12]
 simp only [hmk,go_sem,reduceCtorEq,Nat.reduceEqDiff,Nat.reduceAdd,Nat.reduceSub,Nat.reduceMul,Nat.reduceLeDiff,Int.reduceEq,Int.reduceLT,Int.reduceLE,Int.reduceAdd,Int.reduceMul,Int.reduceSub,Int.reduceNeg,Int.reduceToNat,reduceIte,Nat.reduceLT]
 refine loop 8 0 _ _ (by omega) ?_ ?_ ?_ rfl
 all_goals simp only [go_sem,reduceCtorEq,Nat.reduceEqDiff,Nat.reduceAdd,Nat.reduceSub,Nat.reduceMul,Nat.reduceLeDiff,Int.reduceEq,Int.reduceLT,Int.reduceLE,Int.reduceAdd,Int.reduceMul,Int.reduceSub,Int.reduceNeg,Int.reduceToNat,reduceIte,Nat.reduceLT,Int.natCast_zero,List.length_nil]
theorem Z6x (n : Int) : Pr 154 [iC n] (sC (baL (Zfa n))) := by
 refine Zl mixed Z6e rfl fun hl T => ?_
 unfold Zx1
 have loop : ∀ (k : Nat) (acc : List UInt8) (e : Env) (H : Heap),k ≤ 8 → acc.length = 8 - k → acc ++ (Zfa n).drop (8 - k) = Zfa n → e 0 = iC n → e 4 = iC ((k : Int) - 1) → Acc 1 (acc.map Zs) (e 3) H →
   Run (Zt Tryz.prog T) ⟨[.tmp 2],fun u E => Zf E u = some (sC (baL (Zfa n)))⟩ [.loop Zk2,.blk 0,.code Zpn] e H := by
  intro k
  induction k with
  | zero =>
   intro acc e H hk hl ha h0 h4 hacc
   have h4 : e 4 = iC (-1) := h4
   rw [List.drop_eq_nil_of_le (by rw [Zty]; omega),List.append_nil] at ha
   subst ha
   have hb := hacc.b2sL
   refine Zi ?_
   conv => enter [3,1]; unfold Zk2
   simp only [go_sem,reduceCtorEq,Nat.reduceEqDiff,Nat.reduceAdd,Nat.reduceSub,Nat.reduceMul,Nat.reduceLeDiff,Int.reduceEq,Int.reduceLT,Int.reduceLE,Int.reduceAdd,Int.reduceMul,Int.reduceSub,Int.reduceNeg,Int.reduceToNat,reduceIte,Nat.reduceLT,h4]
   unfold Zpn
   simp only [go_sem,reduceCtorEq,Nat.reduceEqDiff,Nat.reduceAdd,Nat.reduceSub,Nat.reduceMul,Nat.reduceLeDiff,Int.reduceEq,Int.reduceLT,Int.reduceLE,Int.reduceAdd,Int.reduceMul,Int.reduceSub,Int.reduceNeg,Int.reduceToNat,reduceIte,Nat.reduceLT,hb]
   simp [Zf,Ze,Zk,Zg,Zh,Zd,Zc,Zb]
  | succ k ih =>
   intro acc e H hk hl ha h0 h4 hacc
   have h4 : e 4 = iC (k : Int) := by rw [h4]; congr 2; omega
   have hc : (0 : Int) ≤ (k : Int) := by omega
   have w2 : IntKind.wrap .i64 (8 * (k : Int)) = ((8 * k : Nat) : Int) := by rw [Zn (by omega)]; omega
   have wk : IntKind.wrap .i64 ((k : Int) - 1) = (k : Int) - 1 := Zn (by omega)
   have hsh : ∀ H : Heap,vBin .shr (iC n) (iC ((8 * k : Nat) : Int)) H = some (iC (n.fdiv (2 ^ (8 * k))),H) := fun H => Zbgm (by omega)
   have he := Z5a n k (by omega)
   obtain ⟨hl7,hv⟩ := List.getElem?_eq_some_iff.1 he
   have hd : (Zfa n).drop (8 - (k + 1)) = b8 (n.fdiv (2 ^ (8 * k))) :: (Zfa n).drop (8 - k) := by
    have e1 : 8 - (k + 1) = 7 - k := by omega
    rw [e1,List.drop_eq_getElem_cons hl7,hv]
    congr 2
    omega
   refine Zi ?_
   conv => enter [3,1]; unfold Zk2
   simp only [go_sem,reduceCtorEq,Nat.reduceEqDiff,Nat.reduceAdd,Nat.reduceSub,Nat.reduceMul,Nat.reduceLeDiff,Int.reduceEq,Int.reduceLT,Int.reduceLE,Int.reduceAdd,Int.reduceMul,Int.reduceSub,Int.reduceNeg,Int.reduceToNat,reduceIte,Nat.reduceLT,h0,h4,hc,w2,hsh,Zeh]
   refine Acc.app_step hacc (by simp; omega) fun v' H' ha' => ?_
   simp only [go_sem,reduceCtorEq,Nat.reduceEqDiff,Nat.reduceAdd,Nat.reduceSub,Nat.reduceMul,Nat.reduceLeDiff,Int.reduceEq,Int.reduceLT,Int.reduceLE,Int.reduceAdd,Int.reduceMul,Int.reduceSub,Int.reduceNeg,Int.reduceToNat,reduceIte,Nat.reduceLT,h4,wk]
   refine ih (acc ++ [b8 (n.fdiv (2 ^ (8 * k)))]) _ _ (by omega) (by simp; omega) ?_ ?_ ?_ ?_
   ·rw [hd] at ha; rw [List.append_assoc]; exact ha
   ·simp only [go_sem,reduceCtorEq,Nat.reduceEqDiff,Nat.reduceAdd,Nat.reduceSub,Nat.reduceMul,Nat.reduceLeDiff,Int.reduceEq,Int.reduceLT,Int.reduceLE,Int.reduceAdd,Int.reduceMul,Int.reduceSub,Int.reduceNeg,Int.reduceToNat,reduceIte,Nat.reduceLT,h0]
   ·simp only [go_sem,reduceCtorEq,Nat.reduceEqDiff,Nat.reduceAdd,Nat.reduceSub,Nat.reduceMul,Nat.reduceLeDiff,Int.reduceEq,Int.reduceLT,Int.reduceLE,Int.reduceAdd,Int.reduceMul,Int.reduceSub,Int.reduceNeg,Int.reduceToNat,reduceIte,Nat.reduceLT,wk]
   ·simp only [go_sem,reduceCtorEq,Nat.reduceEqDiff,Nat.reduceAdd,Nat.reduceSub,Nat.reduceMul,Nat.reduceLeDiff,Int.reduceEq,Int.reduceLT,Int.reduceLE,Int.reduceAdd,Int.reduceMul,Int.reduceSub,Int.reduceNeg,Int.reduceToNat,reduceIte,Nat.reduceLT]; rw [List.map_append]; exact ha'
 simp only [go_sem,reduceCtorEq,Nat.reduceEqDiff,Nat.reduceAdd,Nat.reduceSub,Nat.reduceMul,Nat.reduceLeDiff,Int.reduceEq,Int.reduceLT,Int.reduceLE,Int.reduceAdd,Int.reduceMul,Int.reduceSub,Int.reduceNeg,Int.reduceToNat,reduceIte,Nat.reduceLT]
 refine loop 8 [] _ _ (Nat.le_refl _) rfl rfl ?_ ?_ ?_
 ·simp only [go_sem,reduceCtorEq,Nat.reduceEqDiff,Nat.reduceAdd,Nat.reduceSub,Nat.reduceMul,Nat.reduceLeDiff,Int.reduceEq,Int.reduceLT,Int.reduceLE,Int.reduceAdd,Int.reduceMul,Int.reduceSub,Int.reduceNeg,Int.reduceToNat,reduceIte,Nat.reduceLT]
 ·simp only [go_sem,reduceCtorEq,Nat.reduceEqDiff,Nat.reduceAdd,Nat.reduceSub,Nat.reduceMul,Nat.reduceLeDiff,Int.reduceEq,Int.reduceLT,Int.reduceLE,Int.reduceAdd,Int.reduceMul,Int.reduceSub,Int.reduceNeg,Int.reduceToNat,reduceIte,Nat.reduceLT]; rfl
 ·simp only [go_sem,reduceCtorEq,Nat.reduceEqDiff,Nat.reduceAdd,Nat.reduceSub,Nat.reduceMul,Nat.reduceLeDiff,Int.reduceEq,Int.reduceLT,Int.reduceLE,Int.reduceAdd,Int.reduceMul,Int.reduceSub,Int.reduceNeg,Int.reduceToNat,reduceIte,Nat.reduceLT]; exact .nil
theorem Zna (key nonce : ByteArray) (n : Int) (h : key.size = 64 ∧ nonce.size = 12 ∧ n ≤ 1048576) : Pr 104 [sC key,sC nonce,iC n] (.c .nilI) := by
 obtain ⟨h1,h2,h3⟩ := h
 refine Zl mixed Zt8 rfl fun hl T => ?_
 unfold Zpa
 have c1 : ((key.size : Int) = 64) := by omega
 have c2 : ((nonce.size : Int) = 12) := by omega
 have c3 : ¬ ((1048576 : Int) < n) := by omega
 simp only [go_sem,reduceCtorEq,Nat.reduceEqDiff,Nat.reduceAdd,Nat.reduceSub,Nat.reduceMul,Nat.reduceLeDiff,Int.reduceEq,Int.reduceLT,Int.reduceLE,Int.reduceAdd,Int.reduceMul,Int.reduceSub,Int.reduceNeg,Int.reduceToNat,reduceIte,Nat.reduceLT,c1,c2,c3]
 simp [Zf,Ze,Zk,Zg,Zh,Zd,Zc,Zb]
def Zf2 : ByteArray := ⟨#[115,105,122,101]⟩
def Zta : ByteArray := ⟨#[115,105,122,101,115]⟩
def tagS : ByteArray := ⟨#[116,97,103]⟩
def Zit : ByteArray := ⟨#[111,112,101,110]⟩
theorem Zsf (key nonce : ByteArray) (n : Int) (h : ¬ (key.size = 64 ∧ nonce.size = 12 ∧ n ≤ 1048576)) : Pr 104 [sC key,sC nonce,iC n] (.c (Zmn Zta Zf2)) := by
 refine Zl mixed Zt8 rfl fun hl T => ?_
 unfold Zpa
 by_cases h1 : key.size = 64
 ·have c1 : ((key.size : Int) = 64) := by omega
  by_cases h2 : nonce.size = 12
  ·have c2 : ((nonce.size : Int) = 12) := by omega
   have c3 : ((1048576 : Int) < n) := by omega
   simp only [go_sem,reduceCtorEq,Nat.reduceEqDiff,Nat.reduceAdd,Nat.reduceSub,Nat.reduceMul,Nat.reduceLeDiff,Int.reduceEq,Int.reduceLT,Int.reduceLE,Int.reduceAdd,Int.reduceMul,Int.reduceSub,Int.reduceNeg,Int.reduceToNat,reduceIte,Nat.reduceLT,c1,c2,c3,vMkI,Zca]
   simp [Zf,Ze,Zk,Zg,Zh,Zd,Zc,Zb,Zta,Zf2]
  ·have c2 : ¬ ((nonce.size : Int) = 12) := by omega
   simp only [go_sem,reduceCtorEq,Nat.reduceEqDiff,Nat.reduceAdd,Nat.reduceSub,Nat.reduceMul,Nat.reduceLeDiff,Int.reduceEq,Int.reduceLT,Int.reduceLE,Int.reduceAdd,Int.reduceMul,Int.reduceSub,Int.reduceNeg,Int.reduceToNat,reduceIte,Nat.reduceLT,c1,c2,vMkI,Zca]
   simp [Zf,Ze,Zk,Zg,Zh,Zd,Zc,Zb,Zta,Zf2]
 ·have c1 : ¬ ((key.size : Int) = 64) := by omega
  simp only [go_sem,reduceCtorEq,Nat.reduceEqDiff,Nat.reduceAdd,Nat.reduceSub,Nat.reduceMul,Nat.reduceLeDiff,Int.reduceEq,Int.reduceLT,Int.reduceLE,Int.reduceAdd,Int.reduceMul,Int.reduceSub,Int.reduceNeg,Int.reduceToNat,reduceIte,Nat.reduceLT,c1,vMkI,Zca]
  simp [Zf,Ze,Zk,Zg,Zh,Zd,Zc,Zb,Zta,Zf2]
theorem cat4 (a b c d : ByteArray) : catS [a,b,c,d] = a ++ b ++ c ++ d := by
 rw [Zdy,Zdy,Zdy,Zd3,ByteArray.append_assoc,ByteArray.append_assoc]
theorem Zy6 (key nonce ad c : ByteArray) (hk : key.size = 64) (hn : nonce.size = 12) (ha : ad.size ≤ 1000000) (hc : c.size ≤ 2000000) : Pr 106 [sC key,sC nonce,sC ad,sC c] (sC (Zd2 key nonce ad c)) := by
 have hsz := Z6x (ad.size : Int)
 have he : (baL (Zfa (ad.size : Int))).size = 8 := rfl
 have hm := Zpk (key.extract 32 key.size) [baL (Zfa (ad.size : Int)),ad,nonce,c] (by rw [ByteArray.size_extract]; omega) (by simp) (by rw [cat4]; simp only [ByteArray.size_append]; omega)
 rw [cat4] at hm
 have hms := Zeb (key.extract 32 key.size) (baL (Zfa (ad.size : Int)) ++ ad ++ nonce ++ c)
 unfold Zd2
 generalize macD (key.extract 32 key.size) (baL (Zfa (ad.size : Int)) ++ ad ++ nonce ++ c) = M at hm hms ⊢
 generalize baL (Zfa (ad.size : Int)) = E at hsz hm
 refine Zl mixed Z9d rfl fun hl T => ?_
 unfold Z1f
 have h32 : ∀ (e : Env) (H : Heap),vSlS (sC key) e (some (.k (.c (.int .i64 32)))) none H = some (sC (key.extract 32 key.size),H) := fun e H => Zqg (k := 32) rfl (by omega)
 have h16 : ∀ (e : Env) (H : Heap),vSlS (sC M) e none (some (.k (.c (.int .i64 16)))) H = some (sC (M.extract 0 16),H) := fun e H => Zh5 (k := 16) rfl (by omega)
 simp only [go_sem,reduceCtorEq,Nat.reduceEqDiff,Nat.reduceAdd,Nat.reduceSub,Nat.reduceMul,Nat.reduceLeDiff,Int.reduceEq,Int.reduceLT,Int.reduceLE,Int.reduceAdd,Int.reduceMul,Int.reduceSub,Int.reduceNeg,Int.reduceToNat,reduceIte,Nat.reduceLT,h32]
 refine Za hsz ?_
 simp only [go_sem,reduceCtorEq,Nat.reduceEqDiff,Nat.reduceAdd,Nat.reduceSub,Nat.reduceMul,Nat.reduceLeDiff,Int.reduceEq,Int.reduceLT,Int.reduceLE,Int.reduceAdd,Int.reduceMul,Int.reduceSub,Int.reduceNeg,Int.reduceToNat,reduceIte,Nat.reduceLT]
 refine Za hm ?_
 simp only [go_sem,reduceCtorEq,Nat.reduceEqDiff,Nat.reduceAdd,Nat.reduceSub,Nat.reduceMul,Nat.reduceLeDiff,Int.reduceEq,Int.reduceLT,Int.reduceLE,Int.reduceAdd,Int.reduceMul,Int.reduceSub,Int.reduceNeg,Int.reduceToNat,reduceIte,Nat.reduceLT,h16]
 simp [Zf,Ze,Zk,Zg,Zh,Zd,Zc,Zb]
end Go.Proofs.YticmfblfghdkbaaGreatDoor.Eng
