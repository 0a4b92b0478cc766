/- Parts of this claim's proof, joined. No statement of the seat is proved here. -/
import Derived.Test.YticmfblfghdkbaaGreatDoorV24
set_option linter.unusedVariables false
set_option linter.unusedSimpArgs false
namespace Go.Proofs.YticmfblfghdkbaaGreatDoor.Eng
open Go
theorem Zx8 {key : ByteArray} (h : key.size = 64) : (key.extract 0 32).size = 32 := by rw [ByteArray.size_extract]; omega
theorem Zv6 (key nonce s : ByteArray) (hk : key.size = 64) (hn : nonce.size = 12) (hs : s.size ≤ 1048576) : Pr 105 [sC key,sC nonce,sC s] (sC (Zcz key nonce s)) := by
 have hx := Z1q (key.extract 0 32) nonce s (Zx8 hk) hn hs
 refine Zl mixed Z68 rfl fun hl T => ?_
 unfold Zyj
 have h32 : ∀ (e : Env) (H : Heap),vSlS (sC key) e none (some (.k (.c (.int .i64 32)))) H = some (sC (key.extract 0 32),H) := fun e H => Zic (k := 32) rfl (by omega)
 have hb : ∀ (H : Heap),vB2s (ubC (xorS (key.extract 0 32) nonce 1 s)) H = some (sC (Zcz key nonce s),H) := fun H => by
  simp only [vB2s,Zbh,beq_self_eq_true,if_true,Heap.rowsOf,Zhi]
  rfl
 have hsb : ∀ H : Heap,mkF H (vS2b (sC s) H) = some (ubC s) := fun H => by rw [Zbh2 (by omega),Zja]
 simp only [go_sem,simprocAttr,h32,hsb]
 refine Za hx ?_
 simp only [go_sem,simprocAttr,hb]
 simp [Zf,Ze,Zk,Zg,Zh,Zd,Zc,Zb]
theorem Z53 (key nonce ad plain : ByteArray) (ha : ad.size ≤ 1000000) : Pr 58 [sC key,sC nonce,sC ad,sC plain] (sC (Zc2 key nonce ad plain)) := by
 refine Zl mixed Z63 rfl fun hl T => ?_
 unfold Zx5
 by_cases h : Zld key nonce plain.size
 ·obtain ⟨h1,h2,h3⟩ := h
  have e1 := Zne key nonce (plain.size : Int) ⟨h1,h2,by omega⟩
  have e2 := Zrg Zf1
  have e3 := Zv6 key nonce plain h1 h2 h3
  have hs := Zj3 key nonce plain
  have e4 := Zzg key nonce ad (Zcz key nonce plain) h1 h2 ha (by omega)
  have ts := Zpf key nonce ad (Zcz key nonce plain)
  have hv : Zc2 key nonce ad plain = Zcz key nonce plain ++ Zd5 key nonce ad (Zcz key nonce plain) := by unfold Zc2; rw [if_pos ⟨h1,h2,h3⟩]
  rw [hv]
  generalize Zd5 key nonce ad (Zcz key nonce plain) = tg at e4 ts ⊢
  generalize Zcz key nonce plain = hd at e3 e4 hs ⊢
  have c1 : ∀ H : Heap,vBin .add (sC hd) (sC tg) H = some (sC (hd ++ tg),H) := fun H => Zc0 (by omega)
  simp only [go_sem,simprocAttr]
  refine Za e1 ?_
  simp only [go_sem,simprocAttr]
  refine Za e2 ?_
  simp only [go_sem,simprocAttr]
  refine Za e3 ?_
  simp only [go_sem,simprocAttr]
  refine Za e4 ?_
  simp only [go_sem,simprocAttr,c1]
  simp [Zf,Ze,Zk,Zg,Zh,Zd,Zc,Zb]
 ·have hv : Zc2 key nonce ad plain = Zz := by unfold Zc2; rw [if_neg h]
  rw [hv]
  have e1 := Zs2 key nonce (plain.size : Int) (fun ⟨h1,h2,h3⟩ => h ⟨h1,h2,by omega⟩)
  have e2 := Zx9 Zt2 Zf1 Zf1
  rw [decide_eq_true rfl] at e2
  simp only [go_sem,simprocAttr]
  refine Za e1 ?_
  simp only [go_sem,simprocAttr]
  refine Za e2 ?_
  simp only [go_sem,simprocAttr]
  simp [Zf,Ze,Zk,Zg,Zh,Zd,Zc,Zb]
def optS (o : Option ByteArray) : ByteArray := o.getD Zz
theorem Z66 (key nonce ad s : ByteArray) (ha : ad.size ≤ 1000000) (hs0 : s.size ≤ 4611686018427387904) : ∃ err : Cell,Pr 107 [sC key,sC nonce,sC ad,sC s] (.tup [sC (optS (Zfs key nonce ad s)),.c err]) ∧ (match Zfs key nonce ad s with | some _ => err = .nilI | none => err = Zmt Zi1 Zf1 ∨ err = Zmt Zi1 tagS) := by
 by_cases h : key.size = 64 ∧ nonce.size = 12 ∧ 16 ≤ s.size ∧ s.size ≤ 1048592
 ·obtain ⟨h1,h2,h3,h4⟩ := h
  have w1 : IntKind.wrap .i64 ((s.size : Int) - 16) = ((s.size - 16 : Nat) : Int) := by rw [Zn (by omega)]; omega
  have e1 := Zne key nonce ((s.size - 16 : Nat) : Int) ⟨h1,h2,by omega⟩
  have hl1 : ∀ (e : Env) (H : Heap),e 30 = iC ((s.size - 16 : Nat) : Int) → vSlS (sC s) e none (some (.t 30)) H = some (sC (s.extract 0 (s.size - 16)),H) := fun e H ht => Zic (k := s.size - 16) (ik := .i64) (by simpa [Opd.ev] using ht) (by omega)
  have hl2 : ∀ (e : Env) (H : Heap),e 33 = iC ((s.size - 16 : Nat) : Int) → vSlS (sC s) e (some (.t 33)) none H = some (sC (s.extract (s.size - 16) s.size),H) := fun e H ht => Zp7 (k := s.size - 16) (ik := .i64) (by simpa [Opd.ev] using ht) (by omega)
  have hds : (s.extract 0 (s.size - 16)).size = s.size - 16 := by rw [ByteArray.size_extract]; omega
  have hts : (s.extract (s.size - 16) s.size).size = 16 := by rw [ByteArray.size_extract]; omega
  have e3 := Zzg key nonce ad (s.extract 0 (s.size - 16)) h1 h2 ha (by omega)
  have e4 := Z1y (s.extract (s.size - 16) s.size) (Zd5 key nonce ad (s.extract 0 (s.size - 16))) (by omega)
  have e5 := Zv6 key nonce (s.extract 0 (s.size - 16)) h1 h2 (by omega)
  have c0 : ¬ (((s.size - 16 : Nat) : Int) < 0) := by omega
  by_cases ht : s.extract (s.size - 16) s.size = Zd5 key nonce ad (s.extract 0 (s.size - 16))
  ·have hv : Zfs key nonce ad s = some (Zcz key nonce (s.extract 0 (s.size - 16))) := by unfold Zfs; rw [if_pos ⟨h1,h2,h3,h4,ht.symm⟩]
   rw [decide_eq_true ht] at e4
   refine ⟨.nilI,?_,by rw [hv]⟩
   rw [hv]
   refine Zl mixed Zpv rfl fun hl T => ?_
   unfold Zmm
   show Run _ ⟨_,fun u E => Zf E u = some (.tup [sC (Zcz key nonce (s.extract 0 (s.size - 16))),.c .nilI])⟩ _ _ _
   generalize Zcz key nonce (s.extract 0 (s.size - 16)) = hd at e5 ⊢
   generalize Zd5 key nonce ad (s.extract 0 (s.size - 16)) = tg at e3 e4
   generalize s.extract 0 (s.size - 16) = c at hl1 e3 e5 hds
   generalize s.extract (s.size - 16) s.size = g at hl2 e4 hts
   generalize hnn : ((s.size - 16 : Nat) : Int) = nn at *
   simp only [go_sem,simprocAttr,w1]
   refine Za e1 ?_
   simp only [go_sem,simprocAttr,bne_self_eq_false,c0,hl1,hl2]
   refine Za e3 ?_
   simp only [go_sem,simprocAttr]
   refine Za e4 ?_
   simp only [go_sem,simprocAttr]
   refine Za e5 ?_
   simp only [go_sem,simprocAttr]
   simp [Zf,Ze,Zk,Zg,Zh,Zd,Zc,Zb]
  ·have hv : Zfs key nonce ad s = none := by unfold Zfs; rw [if_neg (fun h => ht h.2.2.2.2.symm)]
   rw [decide_eq_false ht] at e4
   refine ⟨Zmt Zi1 tagS,?_,by rw [hv]; exact .inr rfl⟩
   rw [hv]
   refine Zl mixed Zpv rfl fun hl T => ?_
   unfold Zmm
   generalize Zd5 key nonce ad (s.extract 0 (s.size - 16)) = tg at e3 e4
   generalize s.extract 0 (s.size - 16) = c at hl1 e3 hds
   generalize s.extract (s.size - 16) s.size = g at hl2 e4 hts
   generalize hnn : ((s.size - 16 : Nat) : Int) = nn at *
   simp only [go_sem,simprocAttr,w1]
   refine Za e1 ?_
   simp only [go_sem,simprocAttr,bne_self_eq_false,c0,hl1,hl2]
   refine Za e3 ?_
   simp only [go_sem,simprocAttr]
   refine Za e4 ?_
   simp only [go_sem,simprocAttr]
   simp [Zf,Ze,Zk,Zg,Zh,Zd,Zc,Zb,optS,Zi1,tagS]
 ·have hv : Zfs key nonce ad s = none := by unfold Zfs; rw [if_neg (fun h' => h ⟨h'.1,h'.2.1,h'.2.2.1,h'.2.2.2.1⟩)]
  have w1 : IntKind.wrap .i64 ((s.size : Int) - 16) = (s.size : Int) - 16 := Zn (by omega)
  refine ⟨Zmt Zi1 Zf1,?_,by rw [hv]; exact .inl rfl⟩
  rw [hv]
  refine Zl mixed Zpv rfl fun hl T => ?_
  unfold Zmm
  by_cases h' : key.size = 64 ∧ nonce.size = 12 ∧ (s.size : Int) - 16 ≤ 1048576
  ·have e1 := Zne key nonce ((s.size : Int) - 16) h'
   have c0 : ((s.size : Int) - 16 < 0) := by omega
   simp only [go_sem,simprocAttr,w1]
   refine Za e1 ?_
   simp only [go_sem,simprocAttr,bne_self_eq_false,c0]
   simp [Zf,Ze,Zk,Zg,Zh,Zd,Zc,Zb,optS,Zi1,Zf1]
  ·have e1 := Zs2 key nonce ((s.size : Int) - 16) h'
   simp only [go_sem,simprocAttr,w1]
   refine Za e1 ?_
   have tb : (true != false) = true := rfl
   simp only [go_sem,simprocAttr,tb]
   simp [Zf,Ze,Zk,Zg,Zh,Zd,Zc,Zb,optS,Zi1,Zf1]
theorem Z56 (key nonce ad s : ByteArray) (ha : ad.size ≤ 1000000) (hs0 : s.size ≤ 4611686018427387904) : Pr 64 [sC key,sC nonce,sC ad,sC s] (.tup [sC (optS (Zfs key nonce ad s)),bC (Zfs key nonce ad s).isSome]) := by
 obtain ⟨err,h1,h2⟩ := Z66 key nonce ad s ha hs0
 cases hv : Zfs key nonce ad s with
 | some x =>
  rw [hv] at h1 h2
  have h2 : err = .nilI := h2
  subst h2
  have e1 := Zrg Zf1
  have e2 := Zrg tagS
  refine Zl mixed Zpj rfl fun hl T => ?_
  unfold Zmk
  simp only [go_sem,simprocAttr]
  refine Za h1 ?_
  simp only [go_sem,simprocAttr]
  refine Za e1 ?_
  simp only [go_sem,simprocAttr]
  refine Za e2 ?_
  simp only [go_sem,simprocAttr]
  simp [Zf,Ze,Zk,Zg,Zh,Zd,Zc,Zb]
 | none =>
  rw [hv] at h1 h2
  have h2 : err = Zmt Zi1 Zf1 ∨ err = Zmt Zi1 tagS := h2
  rcases h2 with rfl | rfl
  ·have e1 := Zx9 Zi1 Zf1 Zf1
   rw [decide_eq_true rfl] at e1
   refine Zl mixed Zpj rfl fun hl T => ?_
   unfold Zmk
   simp only [go_sem,simprocAttr]
   refine Za h1 ?_
   simp only [go_sem,simprocAttr]
   refine Za e1 ?_
   simp only [go_sem,simprocAttr]
   simp [Zf,Ze,Zk,Zg,Zh,Zd,Zc,Zb]
  ·have e1 := Zx9 Zi1 tagS Zf1
   have e2 := Zx9 Zi1 tagS tagS
   rw [decide_eq_false (by decide)] at e1
   rw [decide_eq_true rfl] at e2
   refine Zl mixed Zpj rfl fun hl T => ?_
   unfold Zmk
   simp only [go_sem,simprocAttr]
   refine Za h1 ?_
   simp only [go_sem,simprocAttr]
   refine Za e1 ?_
   simp only [go_sem,simprocAttr]
   refine Za e2 ?_
   simp only [go_sem,simprocAttr]
   simp [Zf,Ze,Zk,Zg,Zh,Zd,Zc,Zb]
theorem Zbcp (key nonce ad c : ByteArray) (hk : key.size = 64) (hn : nonce.size = 12) (ha : ad.size ≤ 1000000) (hc : c.size ≤ 2000000) : Pr 121 [sC key,sC nonce,sC ad,sC c] (sC (Zd5 key nonce ad c)) := by
 have hsz := Zil (ad.size : Int)
 have he : (baL (Zcx (IntKind.wrap .u64 (ad.size : Int)))).size = 8 := rfl
 have hm := Zho (key.extract 32 key.size) (baL (Zcx (IntKind.wrap .u64 (ad.size : Int))) ++ ad ++ nonce ++ c) (by rw [ByteArray.size_extract]; omega) (by simp only [ByteArray.size_append]; omega)
 have hms := Zee (key.extract 32 key.size) (baL (Zcx (IntKind.wrap .u64 (ad.size : Int))) ++ ad ++ nonce ++ c)
 have hv : Zd5 key nonce ad c = (macD (key.extract 32 key.size) (baL (Zcx (IntKind.wrap .u64 (ad.size : Int))) ++ ad ++ nonce ++ c)).extract 0 16 := rfl
 rw [hv]
 generalize macD (key.extract 32 key.size) (baL (Zcx (IntKind.wrap .u64 (ad.size : Int))) ++ ad ++ nonce ++ c) = M at hm hms ⊢
 generalize baL (Zcx (IntKind.wrap .u64 (ad.size : Int))) = E at hsz hm he
 refine Zl mixed Zbae rfl fun hl T => ?_
 unfold Z4t
 have h32 : ∀ (e : Env) (H : Heap),vSlS (sC key) e (some (.k (.c (.int .i64 32)))) none H = some (sC (key.extract 32 key.size),H) := fun e H => Zp7 (k := 32) rfl (by omega)
 have h16 : ∀ (e : Env) (H : Heap),vSlS (sC M) e none (some (.k (.c (.int .i64 16)))) H = some (sC (M.extract 0 16),H) := fun e H => Zic (k := 16) rfl (by omega)
 have c1 : ∀ H : Heap,vBin .add (sC E) (sC ad) H = some (sC (E ++ ad),H) := fun H => Zc0 (by omega)
 have c2 : ∀ H : Heap,vBin .add (sC (E ++ ad)) (sC nonce) H = some (sC (E ++ ad ++ nonce),H) := fun H => Zc0 (by rw [ByteArray.size_append]; omega)
 have c3 : ∀ H : Heap,vBin .add (sC (E ++ ad ++ nonce)) (sC c) H = some (sC (E ++ ad ++ nonce ++ c),H) := fun H => Zc0 (by rw [ByteArray.size_append,ByteArray.size_append]; omega)
 simp only [go_sem,simprocAttr,h32]
 refine Za hsz ?_
 simp only [go_sem,simprocAttr,c1,c2,c3]
 refine Za hm ?_
 simp only [go_sem,simprocAttr,h16]
 simp [Zf,Ze,Zk,Zg,Zh,Zd,Zc,Zb]
theorem Z8i (key nonce ad plain : ByteArray) (ha : ad.size ≤ 1000000) : Pr 72 [sC key,sC nonce,sC ad,sC plain] (sC (Zc2 key nonce ad plain)) := by
 refine Zl mixed Z9z rfl fun hl T => ?_
 unfold Z07
 by_cases h : Zld key nonce plain.size
 ·obtain ⟨h1,h2,h3⟩ := h
  have e3 := Zbb9 (key.extract 0 32) nonce plain (Zx8 h1) h2 h3
  have hx : xorS (key.extract 0 32) nonce 1 plain = Zcz key nonce plain := rfl
  rw [hx] at e3
  have hs := Zj3 key nonce plain
  have e4 := Zbcp key nonce ad (Zcz key nonce plain) h1 h2 ha (by omega)
  have ts := Zpf key nonce ad (Zcz key nonce plain)
  have hv : Zc2 key nonce ad plain = Zcz key nonce plain ++ Zd5 key nonce ad (Zcz key nonce plain) := by unfold Zc2; rw [if_pos ⟨h1,h2,h3⟩]
  rw [hv]
  generalize Zd5 key nonce ad (Zcz key nonce plain) = tg at e4 ts ⊢
  generalize Zcz key nonce plain = hd at e3 e4 hs ⊢
  have d1 : ((key.size : Int) = 64) := by omega
  have d2 : ((nonce.size : Int) = 12) := by omega
  have d3 : ¬ ((1048576 : Int) < (plain.size : Int)) := by omega
  have c1 : ∀ H : Heap,vBin .add (sC hd) (sC tg) H = some (sC (hd ++ tg),H) := fun H => Zc0 (by omega)
  have h32 : ∀ (e : Env) (H : Heap),vSlS (sC key) e none (some (.k (.c (.int .i64 32)))) H = some (sC (key.extract 0 32),H) := fun e H => Zic (k := 32) rfl (by omega)
  simp only [go_sem,simprocAttr,d1,d2,d3,h32]
  refine Za e3 ?_
  simp only [go_sem,simprocAttr]
  refine Za e4 ?_
  simp only [go_sem,simprocAttr,c1]
  simp [Zf,Ze,Zk,Zg,Zh,Zd,Zc,Zb]
 ·have hv : Zc2 key nonce ad plain = Zz := by unfold Zc2; rw [if_neg h]
  rw [hv]
  by_cases h1 : key.size = 64
  ·have d1 : ((key.size : Int) = 64) := by omega
   by_cases h2 : nonce.size = 12
   ·have d2 : ((nonce.size : Int) = 12) := by omega
    have d3 : ((1048576 : Int) < (plain.size : Int)) := by
     refine Int.not_le.1 fun hle => h ⟨h1,h2,by omega⟩
    simp only [go_sem,simprocAttr,d1,d2,d3]
    simp [Zf,Ze,Zk,Zg,Zh,Zd,Zc,Zb]
   ·have d2 : ¬ ((nonce.size : Int) = 12) := by omega
    simp only [go_sem,simprocAttr,d1,d2]
    simp [Zf,Ze,Zk,Zg,Zh,Zd,Zc,Zb]
  ·have d1 : ¬ ((key.size : Int) = 64) := by omega
   simp only [go_sem,simprocAttr,d1]
   simp [Zf,Ze,Zk,Zg,Zh,Zd,Zc,Zb]
def Zxf : AFun := ⟨[.tmp 4],.seq (.region [ii 3 (.box (.t 1)),ii 4 (.mv (.k (.c (.str ⟨#[]⟩))))] false) (.seq (.seq (.region [ii 5 (.load true 6 (.t 3)),icl 6 67 [.t 5],ii 7 (.un .not (.t 6))] false) (.cond (.t 7) (.seq (.region [ii 4 (.mv (.k (.c (.str ⟨#[]⟩))))] false) .ret) .skip)) (.seq (.region [ifl 8 5 3,ie (.store 1 (.t 8) (.k (.c (.str ⟨#[]⟩))))] false) (.seq (.region [im 9 0,ii 10 (.load true 6 (.t 3)),icl 11 69 [.t 10],iz 12 (.lit 1 [.str ⟨#[]⟩] 1 [(0,.t 11)]),icl 13 68 [.t 9,.t 12],ii 14 (.slS (.t 13) none (some (ki 16))),im 4 14] false) .ret)))⟩
theorem Z6y : Zm Tryz.prog 26 = some Zxf.erase := by kernel_rfl
def Zwh : AFun := ⟨[.cell 6 true 6],.seq (.region [ii 6 (.new [.int .i64 0,.str ⟨#[]⟩,.int .i64 0,.int .i64 0,.nilS,.str ⟨#[]⟩])] false) (.seq (.region [im 8 0,ii 9 (.len (.t 8)),ii 10 (.bin .add (.t 9) (ki 1)),im 11 1,im 12 2,ii 13 (.build [.int .i64 0,.str ⟨#[]⟩,.int .i64 0,.int .i64 0,.nilS,.str ⟨#[]⟩] [(0,1,.t 10),(2,1,.t 11),(3,1,.t 12)]),ii 7 (.new [.int .i64 0,.str ⟨#[]⟩,.int .i64 0,.int .i64 0,.nilS,.str ⟨#[]⟩]),ie (.store 6 (.t 7) (.t 13))] false) (.seq (.seq (.region [im 14 0,ii 15 (.len (.t 14)),ii 16 (.bin .gtr (.t 15) (ki 0))] false) (.cond (.t 16) (.region [im 17 0,im 18 0,ii 19 (.len (.t 18)),ii 20 (.bin .sub (.t 19) (ki 1)),ixx 21 6 17 20,ii 22 (.load true 6 (.t 21)),icl 23 98 [.t 22],ifl 24 1 7,ie (.store 1 (.t 24) (.t 23))] false) .skip)) (.seq (.region [ii 25 (.load true 6 (.t 7)),ie (.store 6 (.t 6) (.t 25))] false) .ret)))⟩
theorem Z4j : Zm Tryz.prog 52 = some Zwh.erase := by kernel_rfl
def Ztt : AFun := ⟨[.tmp 6],.seq (.region [ii 6 (.mv (.k (.c .nilI)))] false) (.seq (.region [im 9 0,im 10 0,ii 11 (.len (.t 10)),im 12 2,icl 13 80 [.t 9,.t 11,.t 12],im 7 13] false) (.seq (.region [im 14 1,ii 15 (.bin .eql (.t 14) (ki 1)),im 16 15,ig 17 (.mv (.t 2)) 16 true,ig 18 (.bin .eql (.t 17) (ki 0)) 16 true,ii 19 (.pick (.t 16) (.t 18) (.k (.c (.bool false)))),im 8 19] false) (.seq (.block 0 (.seq (.region [im 21 1,ii 22 (.bin .neq (.t 21) (ki 1)),im 23 22,ig 24 (.mv (.t 1)) 23 true,ig 25 (.bin .neq (.t 24) (ki 2)) 23 true,ii 26 (.pick (.t 23) (.t 25) (.k (.c (.bool false)))),im 27 26,ig 28 (.mv (.t 2)) 27 false,ig 29 (.bin .lss (.t 28) (ki 0)) 27 false,ii 30 (.pick (.t 27) (.k (.c (.bool true))) (.t 29)),im 31 30,ig 32 (.mv (.t 2)) 31 false,ig 33 (.bin .geq (.t 32) (ki 8)) 31 false,ii 34 (.pick (.t 31) (.k (.c (.bool true))) (.t 33)),im 35 34,ig 36 (.mv (.t 0)) 35 false,ig 37 (.call (.f 96) [.t 36]) 35 false,ig 38 (.un .not (.t 37)) 35 false,ii 39 (.pick (.t 35) (.k (.c (.bool true))) (.t 38)),im 20 39] false) (.cond (.t 20) (.seq (.region [ii 40 (.build [.int .i64 0] [(0,1,.k (.c (.int .i64 1)))]),ii 41 (.mkI 136 (.t 40)),ii 42 (.build [.str ⟨#[]⟩,.nilI] [(0,1,.k (.c (.str ⟨#[109,97,107,101]⟩))),(1,1,.t 41)]),ii 43 (.mkI 138 (.t 42)),im 6 43] false) .ret) (.seq (.region [im 45 0,ii 46 (.len (.t 45)),ii 47 (.bin .eql (.t 46) (ki 0)),im 48 47,ig 49 (.mv (.t 8)) 48 true,ig 50 (.un .not (.t 49)) 48 true,ii 51 (.pick (.t 48) (.t 50) (.k (.c (.bool false)))),im 52 51,ig 53 (.mv (.t 1)) 52 false,ig 54 (.bin .eql (.t 53) (ki 2)) 52 false,ig 55 (.mv (.t 54)) 52 false,ig 56 (.mv (.t 2)) 55 true,ig 57 (.bin .eql (.t 56) (ki 0)) 55 true,ig 58 (.pick (.t 55) (.t 57) (.k (.c (.bool false)))) 52 false,ii 59 (.pick (.t 52) (.k (.c (.bool true))) (.t 58)),im 44 59] false) (.cond (.t 44) (.seq (.region [ii 60 (.build [.int .i64 0] [(0,1,.k (.c (.int .i64 1)))]),ii 61 (.mkI 136 (.t 60)),ii 62 (.build [.str ⟨#[]⟩,.nilI] [(0,1,.k (.c (.str ⟨#[109,97,107,101]⟩))),(1,1,.t 61)]),ii 63 (.mkI 138 (.t 62)),im 6 63] false) .ret) (.seq (.region [im 65 1,ii 66 (.bin .eql (.t 65) (ki 1)),im 67 66,ig 68 (.mv (.t 7)) 67 true,ii 69 (.pick (.t 67) (.t 68) (.k (.c (.bool false)))),im 64 69] false) (.cond (.t 64) (.seq (.region [ii 70 (.build [.int .i64 0] [(0,1,.k (.c (.int .i64 3)))]),ii 71 (.mkI 136 (.t 70)),ii 72 (.build [.str ⟨#[]⟩,.nilI] [(0,1,.k (.c (.str ⟨#[109,97,107,101]⟩))),(1,1,.t 71)]),ii 73 (.mkI 138 (.t 72)),im 6 73] false) .ret) (.seq (.region [im 75 1,ii 76 (.bin .eql (.t 75) (ki 2)),im 77 76,ig 78 (.mv (.t 7)) 77 true,ig 79 (.un .not (.t 78)) 77 true,ii 80 (.pick (.t 77) (.t 79) (.k (.c (.bool false)))),im 74 80] false) (.cond (.t 74) (.seq (.region [ii 81 (.build [.int .i64 0] [(0,1,.k (.c (.int .i64 2)))]),ii 82 (.mkI 136 (.t 81)),ii 83 (.build [.str ⟨#[]⟩,.nilI] [(0,1,.k (.c (.str ⟨#[109,97,107,101]⟩))),(1,1,.t 82)]),ii 84 (.mkI 138 (.t 83)),im 6 84] false) .ret) (.seq (.region [im 86 0,ii 87 (.len (.t 86)),ii 88 (.bin .geq (.t 87) (ki 40)),im 85 88] false) (.cond (.t 85) (.seq (.region [ii 89 (.build [.int .i64 0] [(0,1,.k (.c (.int .i64 12)))]),ii 90 (.mkI 136 (.t 89)),ii 91 (.build [.str ⟨#[]⟩,.nilI] [(0,1,.k (.c (.str ⟨#[109,97,107,101]⟩))),(1,1,.t 90)]),ii 92 (.mkI 138 (.t 91)),im 6 92] false) .ret) .skip))))))))))) (.seq (.region [ii 6 (.mv (.k (.c .nilI)))] false) .ret))))⟩
theorem Z2h : Zm Tryz.prog 50 = some Ztt.erase := by kernel_rfl
def Zr5 : AFun := ⟨[.tmp 3],.seq (.region [iz 2 (.box (.t 0)),ii 3 (.mv (.k (.c (.bool false))))] false) (.seq (.region [ifl 4 0 2,il 5 4,il 6 1,ibt 7 .eql 5 6,im 3 7] false) .ret)⟩
theorem Zzy : Zm Tryz.prog 63 = some Zr5.erase := by kernel_rfl
def Zpg : AFun := ⟨[.tmp 6,.tmp 7],.seq (.region [iz 4 (.box (.t 1)),iz 5 (.box (.t 2)),ii 6 (.mv (.k (.c (.str ⟨#[]⟩)))),ii 7 (.mv (.k (.c (.bool false))))] false) (.seq (.region [ifl 11 4 4,il 12 11,ii 13 (.mkF 63 [.t 5]),icl 14 62 [.t 12,.t 13],im 8 14] false) (.seq (.seq (.region [im 15 8,ii 16 (.bin .lss (.t 15) (ki 0))] false) (.cond (.t 16) (.seq (.region [ii 6 (.mv (.k (.c (.str ⟨#[]⟩)))),ii 7 (.mv (.k (.c (.bool false))))] false) .ret) .skip)) (.seq (.region [im 18 0,icl 19 56 [.t 18],ifl 20 0 4,il 21 20,icl 22 59 [.t 21],ii 23 (.load true 6 (.t 4)),icl 24 53 [.t 23],ifl 25 4 4,il 26 25,im 27 8,ixx 28 2 26 27,ifl 29 1 28,il 30 29,icl 31 64 [.t 19,.t 22,.t 24,.t 30],im 17 31,ii 32 (.ext (.t 17) 0),ii 33 (.ext (.t 17) 1),im 9 32,im 10 33] true) (.seq (.seq (.region [im 34 10,ii 35 (.un .not (.t 34)),im 36 35,ig 37 (.mv (.t 9)) 36 false,ig 38 (.lenS (.t 37)) 36 false,ig 39 (.bin .neq (.t 38) (ki 32)) 36 false,ii 40 (.pick (.t 36) (.k (.c (.bool true))) (.t 39))] false) (.cond (.t 40) (.seq (.region [ii 6 (.mv (.k (.c (.str ⟨#[]⟩)))),ii 7 (.mv (.k (.c (.bool false))))] false) .ret) .skip)) (.seq (.region [im 41 9,im 6 41,ii 7 (.mv (.k (.c (.bool true))))] false) .ret)))))⟩
theorem Zub : Zm Tryz.prog 23 = some Zpg.erase := by kernel_rfl
def Zds : ACode := .seq (.region [ibt 9 .lss 8 7] false) (.seq (.cond (.t 9) .skip (.exit 0)) (.seq (.block 1 (.seq (.region [im 10 8,im 5 10] false) (.seq (.region [im 11 1,im 12 0,im 13 5,ixx 14 2 12 13,ii 15 (.load true 2 (.t 14)),ii 16 (.call (.t 11) [.t 15])] false) (.cond (.t 16) (.seq (.region [im 17 5,im 4 17] false) .ret) .skip)))) (.region [ii 18 (.bin .add (.t 8) (ki 1)),im 8 18] false)))
def Ze5 : ACode := .seq (.region [ii 4 (.mv (ki (-1)))] false) .ret
def Zig : AFun := ⟨[.tmp 4],.seq (.region [ii 4 (.mv (ki 0))] false) (.seq (.seq (.region [im 6 0,ii 7 (.len (.t 6)),ii 8 (.mv (ki 0))] false) (.block 0 (.loop Zds))) Ze5)⟩
theorem Znp : Zm Tryz.prog 62 = some Zig.erase := by kernel_rfl
def Z03 : AFun := ⟨[.tmp 4],.seq (.region [ii 3 (.box (.t 1)),ii 4 (.mv (.k (.c (.str ⟨#[]⟩))))] false) (.seq (.seq (.region [ii 5 (.load true 6 (.t 3)),icl 6 61 [.t 5],ii 7 (.un .not (.t 6))] false) (.cond (.t 7) (.seq (.region [ii 4 (.mv (.k (.c (.str ⟨#[]⟩))))] false) .ret) .skip)) (.seq (.region [ifl 8 5 3,ie (.store 1 (.t 8) (.k (.c (.str ⟨#[]⟩))))] false) (.seq (.region [im 9 0,ii 10 (.load true 6 (.t 3)),icl 11 71 [.t 10],icl 12 82 [.t 9,.t 11],ii 13 (.slS (.t 12) none (some (ki 16))),im 4 13] false) .ret)))⟩
theorem Z9o : Zm Tryz.prog 35 = some Z03.erase := by kernel_rfl
theorem Zbdh {s : ByteArray} (h : 16 ≤ s.size) (e : Env) (H : Heap) : vSlS (.c (.str s)) e none (some (.k (.c (.int .i64 16)))) H = some (.c (.str (s.extract 0 16)),H) := Zic (k := 16) rfl h
theorem Z8g (key : ByteArray) (r : Rec) (hk : key.size ≤ 1000000) : Pr 35 [sC key,.agg r.cells] (sC (tagR key r)) := by
 have hm := Zgm r
 have hput := Znb { r with tag := Zz }
 have hz := Zta { r with tag := Zz }
 have hmac := Zho key (putR { r with tag := Zz }) (by omega) (by omega)
 have hsz := Zee key (putR { r with tag := Zz })
 have hcl := Rec.closed r
 unfold tagR
 generalize macD key (putR { r with tag := Zz }) = T16 at hmac hsz ⊢
 generalize putR { r with tag := Zz } = P at hput hmac
 have hsl := Zbdh (s := T16) (by omega)
 refine Zl mixed Z9o (by simp [Zq,Zp,Zc,hcl]) fun hl T => ?_
 unfold Z03
 generalize Z5 r = mb at hm ⊢
 obtain ⟨seq,prev,kind,dev,wraps,tag⟩ := r
 simp only [Rec.cells] at hm hcl hput ⊢
 simp only [go_sem,simprocAttr,Zq3]
 refine Za hm ?_
 cases mb with
 | false =>
  simp only [go_sem,simprocAttr]
  simp [Zf,Ze,Zk,Zg,Zh,Zd,Zc,Zb]
 | true =>
  simp only [go_sem,simprocAttr]
  refine Za hput ?_
  simp only [go_sem,simprocAttr]
  refine Za hmac ?_
  simp only [go_sem,simprocAttr,hsl]
  simp [Zf,Ze,Zk,Zg,Zh,Zd,Zc,Zb]
theorem Z60 (key : ByteArray) (r : Rec) (hk : key.size ≤ 1000000) : Pr 26 [sC key,.agg r.cells] (sC (tagR key r)) := by
 have hm := Zi2 r
 have hput := Zsb { r with tag := Zz }
 have hz := Zta { r with tag := Zz }
 have hcat : catS [putR { r with tag := Zz }] = putR { r with tag := Zz } := Zd6 _
 have hmac := Zpc key [putR { r with tag := Zz }] (by omega) (by simp) (by rw [hcat]; omega)
 rw [hcat] at hmac
 have hsz := Zee key (putR { r with tag := Zz })
 have hcl := Rec.closed r
 unfold tagR
 generalize macD key (putR { r with tag := Zz }) = T16 at hmac hsz ⊢
 generalize putR { r with tag := Zz } = P at hput hmac
 have hsl := Zbdh (s := T16) (by omega)
 refine Zl mixed Z6y (by simp [Zq,Zp,Zc,hcl]) fun hl T => ?_
 unfold Zxf
 generalize Z5 r = mb at hm ⊢
 obtain ⟨seq,prev,kind,dev,wraps,tag⟩ := r
 simp only [Rec.cells] at hm hcl hput ⊢
 simp only [go_sem,simprocAttr,Zq3]
 refine Za hm ?_
 cases mb with
 | false =>
  simp only [go_sem,simprocAttr]
  simp [Zf,Ze,Zk,Zg,Zh,Zd,Zc,Zb]
 | true =>
  simp only [go_sem,simprocAttr]
  refine Za hput ?_
  simp only [go_sem,simprocAttr]
  refine Za hmac ?_
  simp only [go_sem,simprocAttr,hsl]
  simp [Zf,Ze,Zk,Zg,Zh,Zd,Zc,Zb]
theorem Z39 {log : List Rec} (h : log ≠ []) : ∃ l : Rec,(log.map Rec.cells)[log.length - 1]? = some l.cells ∧ Zjv l = Zbe log := by
 have hl : 0 < log.length := List.length_pos_iff.2 h
 refine ⟨log[log.length - 1]'(by omega),?_,?_⟩
 ·rw [List.getElem?_map,List.getElem?_eq_getElem (by omega)]
  rfl
 ·unfold Zbe
  rw [List.getLast?_eq_getElem?,List.getElem?_eq_getElem (by omega)]
theorem Z2e (log : List Rec) (kind dev : Int) (h40 : log.length ≤ 40) : Pr 52 [.c (Z2 log),iC kind,iC dev] (.agg [.int .i64 ((log.length : Int) + 1),.str (Zbe log),.int .i64 kind,.int .i64 dev,.nilS,.str ⟨#[]⟩]) := by
 refine Zl mixed Z4j (by simp [Zq,Zp,Zc,Z2,Zb5]) fun hl T => ?_
 unfold Zwh
 have hml : (log.map Rec.cells).length = log.length := by simp
 have hw1 : IntKind.wrap .i64 ((log.length : Int) + 1) = (log.length : Int) + 1 := Zn (by omega)
 have hw2 : IntKind.wrap .i64 ((log.length : Int) - 1) = (log.length : Int) - 1 := Zn (by omega)
 simp only [Z2]
 by_cases hz : log = []
 ·have hpos : ¬ ((0 : Int) < (log.length : Int)) := by rw [hz]; simp
  have hp0 : Zbe log = ⟨#[]⟩ := by rw [hz]; rfl
  rw [hp0]
  simp only [go_sem,simprocAttr,hml,hw1,hpos]
  simp [Zf,Ze,Zk,Zg,Zh,Zd,Zc,Zb]
 ·obtain ⟨l,hl1,hl2⟩ := Z39 hz
  have hpos : (0 : Int) < (log.length : Int) := by have := List.length_pos_iff.2 hz; omega
  have hti : ((log.length : Int) - 1).toNat = log.length - 1 := by omega
  have hge : (0 : Int) ≤ (log.length : Int) - 1 := by omega
  have hhash := Zqi l
  rw [hl2] at hhash
  have hlen6 : ∀ l : Rec,l.cells.length = 6 := fun _ => rfl
  have htk6 : ∀ l : Rec,l.cells.take 6 = l.cells := fun _ => rfl
  have hix : ∀ H : Heap,vIx 6 (.c (.lst 6 (log.map Rec.cells))) (iC ((log.length : Int) - 1)) H = some (.c (.fp l.cells 0),H) := fun H => by
   simp only [vIx]
   rw [if_pos ⟨trivial,hge⟩,hti,hl1]
  simp only [go_sem,simprocAttr,hml,hw1,hw2,hpos,hix,hlen6,htk6]
  refine Za hhash ?_
  simp only [go_sem,simprocAttr]
  simp [Zf,Ze,Zk,Zg,Zh,Zd,Zc,Zb]
abbrev Zbft (n : Int) : Cell := .iface 136 true [.int .i64 n]
abbrev Z21 (s : ByteArray) (n : Int) : Cell := .iface 138 true [.str s,Zbft n]
abbrev Zxo : ByteArray := ⟨#[109,97,107,101]⟩
def Zbf (s : ByteArray) (n : Int) : AVal := if n = 0 then .c .nilI else .c (Z21 s n)
set_option maxHeartbeats 4000000 in
theorem Z2g (log : List Rec) (kind dev : Int) : Pr 50 [.c (Z2 log),iC kind,iC dev] (Zbf Zxo (Zbm log kind dev)) := by
 have hin := Z5h log log.length dev
 have hck := Zzd log
 obtain ⟨E,hE⟩ : ∃ E,E = Zbm log kind dev := ⟨_,rfl⟩
 rw [← hE]
 unfold Zbm at hE
 refine Zl mixed Z2h (by simp [Zq,Zp,Zc,Z2,Zb5]) fun hl T => ?_
 have hlen : log.length ≤ maxLen := by simp [Zgh,lenA,lenC,Z2] at hl; exact hl
 unfold Ztt
 have hml : ((log.map Rec.cells).length : Int) = (log.length : Int) := by simp
 simp only [Z2] at hin hck ⊢
 generalize memL log log.length dev = m at hin hE
 generalize Zdj log = ck at hck hE
 have n0 : (log.length = 0) = ((log.length : Int) = 0) := by rw [Int.natCast_eq_zero]
 have n40 : (40 ≤ log.length) = ((40 : Int) ≤ (log.length : Int)) := by apply propext; omega
 simp only [n0,n40] at hE
 clear n0 n40 hl
 generalize (log.length : Int) = N at hin hE hml ⊢
 simp only [go_sem,simprocAttr,hml]
 refine Za hin ?_
 have q21 : ¬ ((2 : Int) = 1) := by omega
 have q12 : ¬ ((1 : Int) = 2) := by omega
 by_cases k1 : kind = 1
 ·subst k1
  by_cases d1 : dev < 0
  ·have d0 : ¬ dev = 0 := by omega
   simp only [go_sem,simprocAttr,hml,q21,q12,eq_self,d1,d0]
   simp [Zf,Ze,Zk,Zg,Zh,Zd,Zc,Zb,hE,Zbf,q21,q12,eq_self,d1,d0]
  by_cases d2 : 8 ≤ dev
  ·have d0 : ¬ dev = 0 := by omega
   simp only [go_sem,simprocAttr,hml,q21,q12,eq_self,d1,d2,d0]
   simp [Zf,Ze,Zk,Zg,Zh,Zd,Zc,Zb,hE,Zbf,q21,q12,eq_self,d1,d2,d0]
  cases ck with
  | false =>
   by_cases d0 : dev = 0
   ·simp only [go_sem,simprocAttr,hml,q21,q12,eq_self,d1,d2,d0]
    refine Za hck ?_
    simp only [go_sem,simprocAttr,hml,q21,q12,eq_self,d1,d2,d0]
    simp [Zf,Ze,Zk,Zg,Zh,Zd,Zc,Zb,hE,Zbf,q21,q12,eq_self,d1,d2,d0]
   ·simp only [go_sem,simprocAttr,hml,q21,q12,eq_self,d1,d2,d0]
    refine Za hck ?_
    simp only [go_sem,simprocAttr,hml,q21,q12,eq_self,d1,d2,d0]
    simp [Zf,Ze,Zk,Zg,Zh,Zd,Zc,Zb,hE,Zbf,q21,q12,eq_self,d1,d2,d0]
  | true =>
   by_cases d0 : dev = 0
   ·by_cases l0 : N = 0
    ·by_cases l40 : 40 ≤ N
     ·cases m with
      | false =>
       simp only [go_sem,simprocAttr,hml,q21,q12,eq_self,d1,d2,d0,l0,l40]
       refine Za hck ?_
       simp only [go_sem,simprocAttr,hml,q21,q12,eq_self,d1,d2,d0,l0,l40]
       simp [Zf,Ze,Zk,Zg,Zh,Zd,Zc,Zb,hE,Zbf,q21,q12,eq_self,d1,d2,d0,l0,l40]
      | true =>
       simp only [go_sem,simprocAttr,hml,q21,q12,eq_self,d1,d2,d0,l0,l40]
       refine Za hck ?_
       simp only [go_sem,simprocAttr,hml,q21,q12,eq_self,d1,d2,d0,l0,l40]
       simp [Zf,Ze,Zk,Zg,Zh,Zd,Zc,Zb,hE,Zbf,q21,q12,eq_self,d1,d2,d0,l0,l40]
     ·cases m with
      | false =>
       simp only [go_sem,simprocAttr,hml,q21,q12,eq_self,d1,d2,d0,l0,l40]
       refine Za hck ?_
       simp only [go_sem,simprocAttr,hml,q21,q12,eq_self,d1,d2,d0,l0,l40]
       simp [Zf,Ze,Zk,Zg,Zh,Zd,Zc,Zb,hE,Zbf,q21,q12,eq_self,d1,d2,d0,l0,l40]
      | true =>
       simp only [go_sem,simprocAttr,hml,q21,q12,eq_self,d1,d2,d0,l0,l40]
       refine Za hck ?_
       simp only [go_sem,simprocAttr,hml,q21,q12,eq_self,d1,d2,d0,l0,l40]
       simp [Zf,Ze,Zk,Zg,Zh,Zd,Zc,Zb,hE,Zbf,q21,q12,eq_self,d1,d2,d0,l0,l40]
    ·by_cases l40 : 40 ≤ N
     ·cases m with
      | false =>
       simp only [go_sem,simprocAttr,hml,q21,q12,eq_self,d1,d2,d0,l0,l40]
       refine Za hck ?_
       simp only [go_sem,simprocAttr,hml,q21,q12,eq_self,d1,d2,d0,l0,l40]
       simp [Zf,Ze,Zk,Zg,Zh,Zd,Zc,Zb,hE,Zbf,q21,q12,eq_self,d1,d2,d0,l0,l40]
      | true =>
       simp only [go_sem,simprocAttr,hml,q21,q12,eq_self,d1,d2,d0,l0,l40]
       refine Za hck ?_
       simp only [go_sem,simprocAttr,hml,q21,q12,eq_self,d1,d2,d0,l0,l40]
       simp [Zf,Ze,Zk,Zg,Zh,Zd,Zc,Zb,hE,Zbf,q21,q12,eq_self,d1,d2,d0,l0,l40]
     ·cases m with
      | false =>
       simp only [go_sem,simprocAttr,hml,q21,q12,eq_self,d1,d2,d0,l0,l40]
       refine Za hck ?_
       simp only [go_sem,simprocAttr,hml,q21,q12,eq_self,d1,d2,d0,l0,l40]
       simp [Zf,Ze,Zk,Zg,Zh,Zd,Zc,Zb,hE,Zbf,q21,q12,eq_self,d1,d2,d0,l0,l40]
      | true =>
       simp only [go_sem,simprocAttr,hml,q21,q12,eq_self,d1,d2,d0,l0,l40]
       refine Za hck ?_
       simp only [go_sem,simprocAttr,hml,q21,q12,eq_self,d1,d2,d0,l0,l40]
       simp [Zf,Ze,Zk,Zg,Zh,Zd,Zc,Zb,hE,Zbf,q21,q12,eq_self,d1,d2,d0,l0,l40]
   ·by_cases l0 : N = 0
    ·by_cases l40 : 40 ≤ N
     ·cases m with
      | false =>
       simp only [go_sem,simprocAttr,hml,q21,q12,eq_self,d1,d2,d0,l0,l40]
       refine Za hck ?_
       simp only [go_sem,simprocAttr,hml,q21,q12,eq_self,d1,d2,d0,l0,l40]
       simp [Zf,Ze,Zk,Zg,Zh,Zd,Zc,Zb,hE,Zbf,q21,q12,eq_self,d1,d2,d0,l0,l40]
      | true =>
       simp only [go_sem,simprocAttr,hml,q21,q12,eq_self,d1,d2,d0,l0,l40]
       refine Za hck ?_
       simp only [go_sem,simprocAttr,hml,q21,q12,eq_self,d1,d2,d0,l0,l40]
       simp [Zf,Ze,Zk,Zg,Zh,Zd,Zc,Zb,hE,Zbf,q21,q12,eq_self,d1,d2,d0,l0,l40]
     ·cases m with
      | false =>
       simp only [go_sem,simprocAttr,hml,q21,q12,eq_self,d1,d2,d0,l0,l40]
       refine Za hck ?_
       simp only [go_sem,simprocAttr,hml,q21,q12,eq_self,d1,d2,d0,l0,l40]
       simp [Zf,Ze,Zk,Zg,Zh,Zd,Zc,Zb,hE,Zbf,q21,q12,eq_self,d1,d2,d0,l0,l40]
      | true =>
       simp only [go_sem,simprocAttr,hml,q21,q12,eq_self,d1,d2,d0,l0,l40]
       refine Za hck ?_
       simp only [go_sem,simprocAttr,hml,q21,q12,eq_self,d1,d2,d0,l0,l40]
       simp [Zf,Ze,Zk,Zg,Zh,Zd,Zc,Zb,hE,Zbf,q21,q12,eq_self,d1,d2,d0,l0,l40]
    ·by_cases l40 : 40 ≤ N
     ·cases m with
      | false =>
       simp only [go_sem,simprocAttr,hml,q21,q12,eq_self,d1,d2,d0,l0,l40]
       refine Za hck ?_
       simp only [go_sem,simprocAttr,hml,q21,q12,eq_self,d1,d2,d0,l0,l40]
       simp [Zf,Ze,Zk,Zg,Zh,Zd,Zc,Zb,hE,Zbf,q21,q12,eq_self,d1,d2,d0,l0,l40]
      | true =>
       simp only [go_sem,simprocAttr,hml,q21,q12,eq_self,d1,d2,d0,l0,l40]
       refine Za hck ?_
       simp only [go_sem,simprocAttr,hml,q21,q12,eq_self,d1,d2,d0,l0,l40]
       simp [Zf,Ze,Zk,Zg,Zh,Zd,Zc,Zb,hE,Zbf,q21,q12,eq_self,d1,d2,d0,l0,l40]
     ·cases m with
      | false =>
       simp only [go_sem,simprocAttr,hml,q21,q12,eq_self,d1,d2,d0,l0,l40]
       refine Za hck ?_
       simp only [go_sem,simprocAttr,hml,q21,q12,eq_self,d1,d2,d0,l0,l40]
       simp [Zf,Ze,Zk,Zg,Zh,Zd,Zc,Zb,hE,Zbf,q21,q12,eq_self,d1,d2,d0,l0,l40]
      | true =>
       simp only [go_sem,simprocAttr,hml,q21,q12,eq_self,d1,d2,d0,l0,l40]
       refine Za hck ?_
       simp only [go_sem,simprocAttr,hml,q21,q12,eq_self,d1,d2,d0,l0,l40]
       simp [Zf,Ze,Zk,Zg,Zh,Zd,Zc,Zb,hE,Zbf,q21,q12,eq_self,d1,d2,d0,l0,l40]
 ·by_cases k2 : kind = 2
  ·subst k2
   by_cases d1 : dev < 0
   ·have d0 : ¬ dev = 0 := by omega
    simp only [go_sem,simprocAttr,hml,q21,q12,k1,d1,d0]
    simp [Zf,Ze,Zk,Zg,Zh,Zd,Zc,Zb,hE,Zbf,q21,q12,k1,d1,d0]
   by_cases d2 : 8 ≤ dev
   ·have d0 : ¬ dev = 0 := by omega
    simp only [go_sem,simprocAttr,hml,q21,q12,k1,d1,d2,d0]
    simp [Zf,Ze,Zk,Zg,Zh,Zd,Zc,Zb,hE,Zbf,q21,q12,k1,d1,d2,d0]
   cases ck with
   | false =>
    by_cases d0 : dev = 0
    ·simp only [go_sem,simprocAttr,hml,q21,q12,k1,d1,d2,d0]
     refine Za hck ?_
     simp only [go_sem,simprocAttr,hml,q21,q12,k1,d1,d2,d0]
     simp [Zf,Ze,Zk,Zg,Zh,Zd,Zc,Zb,hE,Zbf,q21,q12,k1,d1,d2,d0]
    ·simp only [go_sem,simprocAttr,hml,q21,q12,k1,d1,d2,d0]
     refine Za hck ?_
     simp only [go_sem,simprocAttr,hml,q21,q12,k1,d1,d2,d0]
     simp [Zf,Ze,Zk,Zg,Zh,Zd,Zc,Zb,hE,Zbf,q21,q12,k1,d1,d2,d0]
   | true =>
    by_cases d0 : dev = 0
    ·by_cases l0 : N = 0
     ·by_cases l40 : 40 ≤ N
      ·cases m with
       | false =>
        simp only [go_sem,simprocAttr,hml,q21,q12,k1,d1,d2,d0,l0,l40]
        refine Za hck ?_
        simp only [go_sem,simprocAttr,hml,q21,q12,k1,d1,d2,d0,l0,l40]
        simp [Zf,Ze,Zk,Zg,Zh,Zd,Zc,Zb,hE,Zbf,q21,q12,k1,d1,d2,d0,l0,l40]
       | true =>
        simp only [go_sem,simprocAttr,hml,q21,q12,k1,d1,d2,d0,l0,l40]
        refine Za hck ?_
        simp only [go_sem,simprocAttr,hml,q21,q12,k1,d1,d2,d0,l0,l40]
        simp [Zf,Ze,Zk,Zg,Zh,Zd,Zc,Zb,hE,Zbf,q21,q12,k1,d1,d2,d0,l0,l40]
      ·cases m with
       | false =>
        simp only [go_sem,simprocAttr,hml,q21,q12,k1,d1,d2,d0,l0,l40]
        refine Za hck ?_
        simp only [go_sem,simprocAttr,hml,q21,q12,k1,d1,d2,d0,l0,l40]
        simp [Zf,Ze,Zk,Zg,Zh,Zd,Zc,Zb,hE,Zbf,q21,q12,k1,d1,d2,d0,l0,l40]
       | true =>
        simp only [go_sem,simprocAttr,hml,q21,q12,k1,d1,d2,d0,l0,l40]
        refine Za hck ?_
        simp only [go_sem,simprocAttr,hml,q21,q12,k1,d1,d2,d0,l0,l40]
        simp [Zf,Ze,Zk,Zg,Zh,Zd,Zc,Zb,hE,Zbf,q21,q12,k1,d1,d2,d0,l0,l40]
     ·by_cases l40 : 40 ≤ N
      ·cases m with
       | false =>
        simp only [go_sem,simprocAttr,hml,q21,q12,k1,d1,d2,d0,l0,l40]
        refine Za hck ?_
        simp only [go_sem,simprocAttr,hml,q21,q12,k1,d1,d2,d0,l0,l40]
        simp [Zf,Ze,Zk,Zg,Zh,Zd,Zc,Zb,hE,Zbf,q21,q12,k1,d1,d2,d0,l0,l40]
       | true =>
        simp only [go_sem,simprocAttr,hml,q21,q12,k1,d1,d2,d0,l0,l40]
        refine Za hck ?_
        simp only [go_sem,simprocAttr,hml,q21,q12,k1,d1,d2,d0,l0,l40]
        simp [Zf,Ze,Zk,Zg,Zh,Zd,Zc,Zb,hE,Zbf,q21,q12,k1,d1,d2,d0,l0,l40]
      ·cases m with
       | false =>
        simp only [go_sem,simprocAttr,hml,q21,q12,k1,d1,d2,d0,l0,l40]
        refine Za hck ?_
        simp only [go_sem,simprocAttr,hml,q21,q12,k1,d1,d2,d0,l0,l40]
        simp [Zf,Ze,Zk,Zg,Zh,Zd,Zc,Zb,hE,Zbf,q21,q12,k1,d1,d2,d0,l0,l40]
       | true =>
        simp only [go_sem,simprocAttr,hml,q21,q12,k1,d1,d2,d0,l0,l40]
        refine Za hck ?_
        simp only [go_sem,simprocAttr,hml,q21,q12,k1,d1,d2,d0,l0,l40]
        simp [Zf,Ze,Zk,Zg,Zh,Zd,Zc,Zb,hE,Zbf,q21,q12,k1,d1,d2,d0,l0,l40]
    ·by_cases l0 : N = 0
     ·by_cases l40 : 40 ≤ N
      ·cases m with
       | false =>
        simp only [go_sem,simprocAttr,hml,q21,q12,k1,d1,d2,d0,l0,l40]
        refine Za hck ?_
        simp only [go_sem,simprocAttr,hml,q21,q12,k1,d1,d2,d0,l0,l40]
        simp [Zf,Ze,Zk,Zg,Zh,Zd,Zc,Zb,hE,Zbf,q21,q12,k1,d1,d2,d0,l0,l40]
       | true =>
        simp only [go_sem,simprocAttr,hml,q21,q12,k1,d1,d2,d0,l0,l40]
        refine Za hck ?_
        simp only [go_sem,simprocAttr,hml,q21,q12,k1,d1,d2,d0,l0,l40]
        simp [Zf,Ze,Zk,Zg,Zh,Zd,Zc,Zb,hE,Zbf,q21,q12,k1,d1,d2,d0,l0,l40]
      ·cases m with
       | false =>
        simp only [go_sem,simprocAttr,hml,q21,q12,k1,d1,d2,d0,l0,l40]
        refine Za hck ?_
        simp only [go_sem,simprocAttr,hml,q21,q12,k1,d1,d2,d0,l0,l40]
        simp [Zf,Ze,Zk,Zg,Zh,Zd,Zc,Zb,hE,Zbf,q21,q12,k1,d1,d2,d0,l0,l40]
       | true =>
        simp only [go_sem,simprocAttr,hml,q21,q12,k1,d1,d2,d0,l0,l40]
        refine Za hck ?_
        simp only [go_sem,simprocAttr,hml,q21,q12,k1,d1,d2,d0,l0,l40]
        simp [Zf,Ze,Zk,Zg,Zh,Zd,Zc,Zb,hE,Zbf,q21,q12,k1,d1,d2,d0,l0,l40]
     ·by_cases l40 : 40 ≤ N
      ·cases m with
       | false =>
        simp only [go_sem,simprocAttr,hml,q21,q12,k1,d1,d2,d0,l0,l40]
        refine Za hck ?_
        simp only [go_sem,simprocAttr,hml,q21,q12,k1,d1,d2,d0,l0,l40]
        simp [Zf,Ze,Zk,Zg,Zh,Zd,Zc,Zb,hE,Zbf,q21,q12,k1,d1,d2,d0,l0,l40]
       | true =>
        simp only [go_sem,simprocAttr,hml,q21,q12,k1,d1,d2,d0,l0,l40]
        refine Za hck ?_
        simp only [go_sem,simprocAttr,hml,q21,q12,k1,d1,d2,d0,l0,l40]
        simp [Zf,Ze,Zk,Zg,Zh,Zd,Zc,Zb,hE,Zbf,q21,q12,k1,d1,d2,d0,l0,l40]
      ·cases m with
       | false =>
        simp only [go_sem,simprocAttr,hml,q21,q12,k1,d1,d2,d0,l0,l40]
        refine Za hck ?_
        simp only [go_sem,simprocAttr,hml,q21,q12,k1,d1,d2,d0,l0,l40]
        simp [Zf,Ze,Zk,Zg,Zh,Zd,Zc,Zb,hE,Zbf,q21,q12,k1,d1,d2,d0,l0,l40]
       | true =>
        simp only [go_sem,simprocAttr,hml,q21,q12,k1,d1,d2,d0,l0,l40]
        refine Za hck ?_
        simp only [go_sem,simprocAttr,hml,q21,q12,k1,d1,d2,d0,l0,l40]
        simp [Zf,Ze,Zk,Zg,Zh,Zd,Zc,Zb,hE,Zbf,q21,q12,k1,d1,d2,d0,l0,l40]
  ·by_cases d0 : dev = 0
   ·simp only [go_sem,simprocAttr,hml,q21,q12,k1,k2,d0]
    simp [Zf,Ze,Zk,Zg,Zh,Zd,Zc,Zb,hE,Zbf,q21,q12,k1,k2,d0]
   ·simp only [go_sem,simprocAttr,hml,q21,q12,k1,k2,d0]
    simp [Zf,Ze,Zk,Zg,Zh,Zd,Zc,Zb,hE,Zbf,q21,q12,k1,k2,d0]
theorem Wrp.closed' (w : Wrp) : Zb w.cells = true := rfl
theorem EKey.closed (k : EKey) : Zb k.cells = true := rfl
theorem Zz9 (w : Wrp) (n : Int) : Pr 63 [.agg w.cells,.c (.fp [.int .i64 n] 0)] (bC (decide (w.dev = n))) := by
 have hcl := Wrp.closed' w
 refine Zl mixed Zzy (by simp [Zq,Zp,Zc,Zb,hcl]) fun hl T => ?_
 unfold Zr5
 have hbx : ∀ H : Heap,mkF H (vBox (.agg w.cells) H) = some (.c (.fp w.cells 0)) := fun H => Zc8 hcl
 obtain ⟨d,b⟩ := w
 simp only [Wrp.cells] at hbx hcl ⊢
 by_cases h : d = n
 ·simp only [go_sem,simprocAttr,hbx,h]
  simp [Zf,Ze,Zk,Zg,Zh,Zd,Zc,Zb,h]
 ·simp only [go_sem,simprocAttr,hbx,h]
  simp [Zf,Ze,Zk,Zg,Zh,Zd,Zc,Zb,h]
def Zgw {α : Type} (q : α → Bool) : Nat → List α → Option Nat
 | _,[] => none
 | n,f :: r => if q f then some n else Zgw q (n + 1) r
theorem Zwi {α : Type} {q : α → Bool} : ∀ (l : List α) (n : Nat),(Zgw q n l = none ∧ l.find? q = none) ∨ ∃ k x,Zgw q n l = some (n + k) ∧ l[k]? = some x ∧ l.find? q = some x
 | [],n => .inl ⟨rfl,rfl⟩
 | f :: r,n => by
  cases h : q f with
  | true => exact .inr ⟨0,f,by simp [Zgw,h],rfl,by simp [h]⟩
  | false =>
   rcases Zwi (q := q) r (n + 1) with ⟨h1,h2⟩ | ⟨k,x,h1,h2,h3⟩
   ·exact .inl ⟨by simp [Zgw,h,h1],by simp [h,h2]⟩
   ·exact .inr ⟨k + 1,x,by simp [Zgw,h,h1]; omega,by simpa using h2,by simp [h,h3]⟩
theorem Wrp.closed (w : Wrp) : Zb w.cells = true := rfl
theorem Zn9 (l : List Wrp) (g : Nat) (caps : List Cell) (q : Wrp → Bool) (hcc : Zb caps = true)
  (hg : ∀ f : Wrp,Pr g (.agg f.cells :: caps.map .c) (bC (q f))) : Pr 62 [.c (.lst 2 (l.map Wrp.cells)),.c (.fn g caps)] (iC (idxN (Zgw q 0 l))) := by
 have hcr : closedR (l.map Wrp.cells) = true := Zcf Wrp.closed l
 refine Zl mixed Znp (by simp [Zq,Zp,Zc,hcr,hcc]) fun hl T => ?_
 have hlen : l.length ≤ maxLen := by simp [Zgh,lenA,lenC] at hl; exact hl
 unfold Zig
 generalize hv : Zgw q 0 l = v
 simp only [go_sem,simprocAttr]
 have hlc : ∀ f : Wrp,f.cells.length = 2 := fun _ => rfl
 have htk : ∀ f : Wrp,f.cells.take 2 = f.cells := fun _ => rfl
 have loop : ∀ (rest pre : List Wrp) (e : Env) (H : Heap),l = pre ++ rest → e 0 = .c (.lst 2 (l.map Wrp.cells)) → e 1 = .c (.fn g caps) → e 7 = iC (l.map Wrp.cells).length → e 8 = iC pre.length →
   Zgw q pre.length rest = v → Run (Zt Tryz.prog T) ⟨[.tmp 4],fun u E => Zf E u = some (iC (idxN v))⟩ [.loop Zds,.blk 0,.code Ze5] e H := by
  intro rest
  induction rest with
  | nil =>
   intro pre e H hp h0 h1 h7 h8 hm
   have hc := Zdm (f := Wrp.cells) hp
   refine Zi ?_
   conv => enter [3,1]; unfold Zds
   simp only [go_sem,simprocAttr,h0,h1,h7,h8,hc]
   unfold Ze5
   simp only [go_sem,simprocAttr]
   simp [Zf,Ze,Zk,Zg,Zh,Zd,Zc,Zb,← hm,Zgw,idxN]
  | cons r rest ih =>
   intro pre e H hp h0 h1 h7 h8 hm
   have hc := Zh0 (f := Wrp.cells) hp
   have hr := Zeh (f := Wrp.cells) hp
   have hn := Zcy hp hlen
   refine Zi ?_
   conv => enter [3,1]; unfold Zds
   simp only [go_sem,simprocAttr,h0,h1,h7,h8,hc,hr,hlc,htk]
   refine Za (hg r) ?_
   simp only [go_sem,simprocAttr]
   cases hpr : q r with
   | true =>
    simp only [go_sem,simprocAttr]
    simp [Zf,Ze,Zk,Zg,Zh,Zd,Zc,Zb,← hm,Zgw,hpr,idxN]
   | false =>
    simp only [go_sem,simprocAttr,h8,hn]
    refine ih (pre ++ [r]) _ _ (by simp [hp]) ?_ ?_ ?_ ?_ ?_
    all_goals first | (simp only [go_sem,simprocAttr,h0,h1,h7]; done) | (simp [← hm,Zgw,hpr]; done)
 refine loop l [] _ _ rfl ?_ ?_ ?_ ?_ hv
 all_goals simp only [go_sem,simprocAttr,List.length_nil,Int.natCast_zero]
def Zlu : AFun := ⟨[.tmp 2],.seq (.region [ii 2 (.mv (ki 0))] false) (.seq (.region [ii 3 (.new [.int .i64 0])] false) (.seq (.seq (.region [im 4 0,ii 5 (.mkI 140 (.t 3)),icl 6 97 [.t 4,.t 5]] false) (.cond (.t 6) (.seq (.region [ifl 7 0 3,il 8 7,im 2 8] false) .ret) .skip)) (.seq (.region [ii 2 (.mv (ki 0))] false) .ret)))⟩
theorem Zqg : Zm Tryz.prog 51 = some Zlu.erase := by kernel_rfl
def Zj1 : ACode := .seq (.region [ibt 43 .lss 42 41] false) (.seq (.cond (.t 43) .skip (.exit 0)) (.seq (.block 1 (.seq (.region [ixx 44 1 40 42,il 45 44,im 16 45] false) (.seq (.region [im 46 1,im 47 16,icl 48 57 [.t 46,.t 47],icl 49 56 [.t 48],im 17 49] false) (.region [ifl 50 4 13,il 51 50,im 52 16,im 53 17,ifl 54 0 13,il 55 54,icl 56 59 [.t 55],im 57 14,im 58 0,ifl 59 0 13,il 60 59,icl 61 60 [.t 58,.t 60],icl 62 58 [.t 53,.t 56,.t 57,.t 61],ii 63 (.build [.int .i64 0,.str ⟨#[]⟩] [(0,1,.t 52),(1,1,.t 62)]),iz 64 (.lit 2 [.int .i64 0,.str ⟨#[]⟩] 1 [(0,.t 63)]),ii 65 (.app 2 24 (.t 51) (.t 64)),ifl 66 4 13,ie (.store 1 (.t 66) (.t 65))] true)))) (.region [ii 67 (.bin .add (.t 42) (ki 1)),im 42 67] false)))
def Zny : ACode := .seq (.seq (.region [ifl 68 0 13,il 69 68,ii 70 (.bin .gtr (.t 69) (ki 1))] false) (.cond (.t 70) (.region [im 71 0,ifl 72 0 13,il 73 72,ii 74 (.bin .sub (.t 73) (ki 1)),icl 75 60 [.t 71,.t 74],ii 76 (.load true 6 (.t 13)),icl 77 26 [.t 75,.t 76],ifl 78 5 13,ie (.store 1 (.t 78) (.t 77))] true) .skip)) (.seq (.region [ii 79 (.load true 6 (.t 13)),ie (.store 6 (.t 10) (.t 79)),ii 11 (.mv (ki 0))] false) .ret)
def Zvb : AFun := ⟨[.cell 10 true 6,.tmp 11],.seq (.region [ii 10 (.new [.int .i64 0,.str ⟨#[]⟩,.int .i64 0,.int .i64 0,.nilS,.str ⟨#[]⟩]),ii 11 (.mv (ki 0))] false) (.seq (.seq (.region [im 18 2,im 19 3,im 20 4,icl 21 50 [.t 18,.t 19,.t 20],im 12 21] false) (.seq (.region [im 22 12,ii 23 (.eqNil false true (.t 22) (.k (.c .nilI)))] false) (.cond (.t 23) (.seq (.region [ii 24 (.build [.int .i64 0,.str ⟨#[]⟩,.int .i64 0,.int .i64 0,.nilS,.str ⟨#[]⟩] []),im 25 12,icl 26 51 [.t 25],ie (.store 6 (.t 10) (.t 24)),im 11 26] false) .ret) .skip))) (.seq (.region [im 27 2,im 28 3,im 29 4,icl 30 52 [.t 27,.t 28,.t 29],ii 13 (.new [.int .i64 0,.str ⟨#[]⟩,.int .i64 0,.int .i64 0,.nilS,.str ⟨#[]⟩]),ie (.store 6 (.t 13) (.t 30))] false) (.seq (.region [ii 31 (.load true 6 (.t 13)),icl 32 53 [.t 31],im 14 32] false) (.seq (.seq (.region [im 33 2,icl 34 55 [.t 33],ii 35 (.load true 6 (.t 13)),iz 36 (.lit 6 [.int .i64 0,.str ⟨#[]⟩,.int .i64 0,.int .i64 0,.nilS,.str ⟨#[]⟩] 1 [(0,.t 35)]),ii 37 (.app 6 80 (.t 34) (.t 36)),ifl 38 0 13,il 39 38,icl 40 54 [.t 37,.t 39],ii 41 (.len (.t 40)),ii 42 (.mv (ki 0))] true) (.block 0 (.loop Zj1))) Zny))))⟩
theorem Z3k : Zm Tryz.prog 17 = some Zvb.erase := by kernel_rfl
def Zdl : AFun := ⟨[.tmp 2],.seq (.region [ii 2 (.mv (.k (.c .nilS)))] false) (.seq (.seq (.region [im 3 0,ii 4 (.eqNil true false (.t 3) (.k (.c .nilS)))] false) (.cond (.t 4) (.seq (.region [ii 2 (.mv (.k (.c .nilS)))] false) .ret) .skip)) (.seq (.region [iz 5 (.lit 6 [.int .i64 0,.str ⟨#[]⟩,.int .i64 0,.int .i64 0,.nilS,.str ⟨#[]⟩] 0 []),im 6 0,ii 7 (.appZ 6 80 (.t 5) (.t 6)),im 2 7] false) .ret))⟩
theorem Zeb : Zm Tryz.prog 55 = some Zdl.erase := by kernel_rfl
def Src (sz : Nat) (rows : List (List Cell)) (v : AVal) (H : Heap) : Prop := v = .c (.lst sz rows) ∨ Acc sz rows v H
def Zdd (sz : Nat) (rows : List (List Cell)) (H : Heap) : AVal := if rows = [] then .c (.zer sz) else .c (.slc H.length 0 rows.length sz false)
def Zdw (sz : Nat) (rows : List (List Cell)) (H : Heap) : Heap := if rows = [] then H else H ++ [{ sz := sz,rows := rows,own := true,live := true }]
theorem Zug (sz : Nat) (rows : List (List Cell)) (H : Heap) : Acc sz rows (Zdd sz rows H) (Zdw sz rows H) := by
 unfold Zdd Zdw
 by_cases h0 : rows = []
 ·rw [if_pos h0,if_pos h0,h0]; exact .zer
 ·rw [if_neg h0,if_neg h0]; exact .last
theorem Zol (sz : Nat) (rows : List (List Cell)) (H : Heap) : H <+: Zdw sz rows H := by
 unfold Zdw
 split
 ·exact List.prefix_refl _
 ·exact List.prefix_append _ _
theorem Zn7 (sz : Nat) (rows : List (List Cell)) {H : Heap} {b : Nat} (hb : b < H.length) : NB (Zdd sz rows H) b := by
 unfold Zdd
 split
 ·exact fun _ _ _ _ h => by cases h
 ·intro n s q z h
  injection h with h
  injection h with h1
  omega
theorem Zm8 {H G : Heap} (h : H <+: G) {b : Nat} {B : Blk} (hb : H[b]? = some B) : G[b]? = some B := by
 obtain ⟨E,rfl⟩ := h
 rw [List.getElem?_append_left (List.getElem?_eq_some_iff.1 hb).1]; exact hb
theorem Zin {x : Cell} {rows : List (List Cell)} {H : Heap} (hr : H.rowsOf x = some rows) (hf : Zbh 6 x = true) (hn : Zfl true x .nilS = some false) (h0 : rows ≠ []) (hs : rows.length ≤ 1000000) :
  CallSound Tryz.prog 55 [.c x] H (.c (.slc H.length 0 rows.length 6 false)) (H ++ [{ sz := 6,rows := rows,own := true,live := true }]) := by
 refine Zhm mixed Zeb fun T => ?_
 unfold Zdl
 have ha : Zem 6 80 (.c (.zer 6)) (.c x) H = some (.c (.slc H.length 0 rows.length 6 false),H ++ [{ sz := 6,rows := rows }]) := by
  simp only [Zem,Zc3,hr,hf,if_true]
  rw [if_neg (by intro e; exact h0 (List.eq_nil_of_length_eq_zero e)),if_pos (by omega)]
 cases x with
 | slc b o n sz z => simp only [go_sem,simprocAttr,bne_self_eq_false,ha]
 | lst sz r =>
  cases r with
  | nil => simp [Zfl] at hn
  | cons y r => simp only [go_sem,simprocAttr,bne_self_eq_false,ha]
 | emp sz =>
  simp [Heap.rowsOf] at hr
  exact absurd hr.symm (by simpa using h0)
 | _ => simp [Zfl,Zbh,Heap.rowsOf] at hn hf hr
theorem Zif (H : Heap) : CallSound Tryz.prog 55 [.c .nilS] H (.c (.zer 6)) H := by
 refine CallSound.wkr (v := .c .nilS) (.c (.nilZ _)) (Zhm mixed Zeb fun T => ?_)
 unfold Zdl
 simp only [go_sem,simprocAttr,bne_self_eq_false]
 refine Zxt ?_
 simp only [go_sem,simprocAttr]
theorem Zoc (H : Heap) : CallSound Tryz.prog 55 [.c (.emp 6)] H (.c (.zer 6)) H := by
 refine Zhm mixed Zeb fun T => ?_
 unfold Zdl
 have ha : Zem 6 80 (.c (.zer 6)) (.c (.emp 6)) H = some (.c (.zer 6),H) := rfl
 simp only [go_sem,simprocAttr,bne_self_eq_false,ha]
theorem Znk (b : Nat) (H : Heap) : CallSound Tryz.prog 55 [.c (.slc b 0 0 6 false)] H (.c (.zer 6)) H := by
 refine Zhm mixed Zeb fun T => ?_
 unfold Zdl
 have ha : Zem 6 80 (.c (.zer 6)) (.c (.slc b 0 0 6 false)) H = some (.c (.zer 6),H) := by simp [Zem,Zc3,Heap.rowsOf,Zbh]
 simp only [go_sem,simprocAttr,bne_self_eq_false,ha]
theorem Zoa {v : AVal} {l : List Rec} {H : Heap} (h : Src 6 (l.map Rec.cells) v H) (hs : l.length ≤ 1000000) : CallSound Tryz.prog 55 [v] H (Zdd 6 (l.map Rec.cells) H) (Zdw 6 (l.map Rec.cells) H) := by
 have hlen : (l.map Rec.cells).length ≤ 1000000 := by simpa using hs
 generalize l.map Rec.cells = rows at h hlen
 by_cases h0 : rows = []
 ·subst h0
  have e1 : Zdd 6 [] H = .c (.zer 6) := rfl
  have e2 : Zdw 6 [] H = H := rfl
  rw [e1,e2]
  have hl : CallSound Tryz.prog 55 [.c (.lst 6 [])] H (.c (.zer 6)) H := CallSound.empty (pre := []) (post := []) (Zif H) (Zoc H)
  rcases h with rfl | ⟨_,rfl | rfl⟩ | ⟨b,ext,rfl,hb⟩
  ·exact hl
  ·exact Zif H
  ·exact CallSound.wk (.cons (.c (.zer _)) .nil) hl
  ·exact Znk b H
 ·have e1 : Zdd 6 rows H = .c (.slc H.length 0 rows.length 6 false) := by unfold Zdd; rw [if_neg h0]
  have e2 : Zdw 6 rows H = H ++ [{ sz := 6,rows := rows,own := true,live := true }] := by unfold Zdw; rw [if_neg h0]
  rw [e1,e2]
  rcases h with rfl | h
  ·exact Zin rfl (by simp [Zbh]) (by cases rows with | nil => exact absurd rfl h0 | cons => rfl) h0 hlen
  ·obtain ⟨b,ext,rfl,_,hb⟩ := h.slc h0
   exact Zin (by simp [Heap.rowsOf,hb]) (by simp [Zbh]) rfl h0 hlen
theorem Zrh (r : Rec) : (Zcr r).size ≤ 1000000 := by
 unfold Zcr
 split
 ·rename_i hv
  obtain ⟨z1,_,_⟩ := Ze9 hv
  have := Zjl (Ze6 r)
  rw [Zc7]; omega
 ·exact Nat.zero_le _
theorem Zbec {own : ByteArray} {r : Rec} {dev : Int} {w : Wrp} (h : r.wraps.find? (fun w => decide (w.dev = dev)) = some w) : Zmc own r dev = (match Zfs (Zdf own) (Zc6 r.seq) (Zcr r) w.box with | none => none | some k => if k.size = 32 then some k else none) := by
 unfold Zmc
 rw [h]
 rfl
theorem Z3e (own : ByteArray) (r : Rec) (dev : Int) (hk : own.size ≤ 1000000) (hb : ∀ w ∈ r.wraps,w.box.size ≤ 4611686018427387904) : Pr 23 [sC own,.agg r.cells,iC dev] (.tup [sC (optS (Zmc own r dev)),bC (Zmc own r dev).isSome]) := by
 have hidx := Zn9 r.wraps 63 [.fp [.int .i64 dev] 0] (fun k => decide (k.dev = dev)) rfl (fun f => Zz9 f dev)
 have hf := Zwi (q := fun k : Wrp => decide (k.dev = dev)) r.wraps 0
 have hcl := Rec.closed r
 have hh := Zp6 r
 have hw := Ztj own hk
 have hn := Zr9 r.seq
 have hwz := Zy0 own
 have hhs := Zrh r
 rcases hf with ⟨h1,h2⟩ | ⟨k,x,h1,h2,h3⟩
 ·rw [Zyz h2]
  rw [h1] at hidx
  refine Zl mixed Zub (by simp [Zq,Zp,Zc,hcl]) fun hl T => ?_
  have hbx : ∀ H : Heap,mkF H (vBox (.agg r.cells) H) = some (.c (.fp r.cells 0)) := fun H => Zc8 hcl
  have hbd : ∀ H : Heap,mkF H (vBox (iC dev) H) = some (.c (.fp [.int .i64 dev] 0)) := fun H => Zqx rfl
  unfold Zpg
  obtain ⟨seq,prev,kind,dv,wraps,tag⟩ := r
  simp only [Rec.cells,Zv] at hbx hcl hidx ⊢
  simp only [go_sem,simprocAttr,hbx,hbd]
  refine Za hidx ?_
  simp only [go_sem,simprocAttr,idxN]
  simp [Zf,Ze,Zk,Zg,Zh,Zd,Zc,Zb,optS]
 ·have hop := Z56 (Zdf own) (Zc6 r.seq) (Zcr r) x.box hhs (hb x (List.mem_of_getElem? h2))
  rw [Zbec h3]
  rw [h1,Nat.zero_add] at hidx
  have hk0 : ¬ ((k : Int) < 0) := by omega
  have hr : (r.wraps.map Wrp.cells)[k]? = some x.cells := map_some h2
  refine Zl mixed Zub (by simp [Zq,Zp,Zc,hcl]) fun hl T => ?_
  have hbx : ∀ H : Heap,mkF H (vBox (.agg r.cells) H) = some (.c (.fp r.cells 0)) := fun H => Zc8 hcl
  have hbd : ∀ H : Heap,mkF H (vBox (iC dev) H) = some (.c (.fp [.int .i64 dev] 0)) := fun H => Zqx rfl
  unfold Zpg
  generalize Zfs (Zdf own) (Zc6 r.seq) (Zcr r) x.box = od at hop ⊢
  generalize Zdf own = wk at hw hop
  generalize Zcr r = hd at hh hop
  obtain ⟨seq,prev,kind,dv,wraps,tag⟩ := r
  obtain ⟨xd,xb⟩ := x
  simp only [Rec.cells,Wrp.cells,Zv] at hbx hcl hidx hh hn hr ⊢
  simp only at hop
  generalize Zc6 seq = nd at hn hop
  simp only [go_sem,simprocAttr,hbx,hbd]
  refine Za hidx ?_
  simp only [go_sem,simprocAttr,idxN,hk0]
  refine Za hw ?_
  simp only [go_sem,simprocAttr]
  refine Za hn ?_
  simp only [go_sem,simprocAttr]
  refine Za hh ?_
  simp only [go_sem,simprocAttr,hr]
  refine Za hop ?_
  cases od with
  | none =>
   simp only [go_sem,simprocAttr,optS,Option.isSome]
   simp [Zf,Ze,Zk,Zg,Zh,Zd,Zc,Zb,optS]
  | some key =>
   by_cases hks : key.size = 32
   ·have hks' : (key.size : Int) = 32 := by omega
    simp only [go_sem,simprocAttr,optS,Option.isSome,Option.getD,hks']
    simp [Zf,Ze,Zk,Zg,Zh,Zd,Zc,Zb,optS,hks]
   ·have hks' : ¬ ((key.size : Int) = 32) := by omega
    simp only [go_sem,simprocAttr,optS,Option.isSome,Option.getD,hks']
    simp [Zf,Ze,Zk,Zg,Zh,Zd,Zc,Zb,optS,hks]
end Go.Proofs.YticmfblfghdkbaaGreatDoor.Eng
