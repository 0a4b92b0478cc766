/- Parts of this claim's proof, joined. No statement of the seat is proved here. -/
import Derived.Test.YticmfblfghdkbaaGreatDoorW16
set_option linter.unusedVariables false
set_option linter.unusedSimpArgs false
namespace Go.Proofs.YticmfblfghdkbaaGreatDoor.Eng
open Go
theorem Zbc6 (x : Int) : shrW x 0 = x := by
 unfold shrW
 show x.fdiv 1 = x
 simp
def u8C (b : UInt8) : Cell := .int .u8 (b.toNat : Int)
theorem Z0z {H : Heap} : ∀ l : List UInt8,Zg H (l.map u8C) = some (l.map u8C)
 | [] => rfl
 | x :: l => by
  have h1 : Ze H (u8C x) = some (u8C x) := rfl
  simp only [List.map_cons,Zg,h1,Z0z l]
theorem Zun {pre post : List UInt8} {i : Nat} (h : pre.length = i) (a v : UInt8) : ((pre ++ a :: post).map u8C).take i ++ [.int .u8 (v.toNat : Int)] ++ ((pre ++ a :: post).map u8C).drop (i + 1) = (pre ++ v :: post).map u8C := by
 subst h
 rw [Zmf (by simp)]
 simp [u8C]
theorem Zut {pre post : List UInt8} {i : Nat} (h : pre.length = i) (a : UInt8) : i + 1 ≤ ((pre ++ a :: post).map u8C).length := by subst h; simp
theorem Zbl : IntKind.wrap .i64 0 = 0 := by decide
theorem Zbr : IntKind.wrap .i64 1 = 1 := by decide
theorem Zbs : IntKind.wrap .i64 2 = 2 := by decide
theorem Zbo : IntKind.wrap .i64 3 = 3 := by decide
theorem Zbp : IntKind.wrap .i64 4 = 4 := by decide
theorem Zbz : IntKind.wrap .i64 5 = 5 := by decide
theorem Zbx : IntKind.wrap .i64 6 = 6 := by decide
theorem Zbw : IntKind.wrap .i64 7 = 7 := by decide
theorem Zbq : IntKind.wrap .i64 8 = 8 := by decide
theorem Zby : IntKind.wrap .i64 9 = 9 := by decide
theorem Zbe : IntKind.wrap .i64 10 = 10 := by decide
theorem Zbb : IntKind.wrap .i64 11 = 11 := by decide
theorem Zbd : IntKind.wrap .i64 12 = 12 := by decide
theorem Zba : IntKind.wrap .i64 13 = 13 := by decide
theorem Z7 : IntKind.wrap .i64 14 = 14 := by decide
theorem Zbc : IntKind.wrap .i64 15 = 15 := by decide
theorem Zo1 : Int.tmod 1 4 = 1 := by decide
theorem Zo2 : Int.tmod 2 4 = 2 := by decide
theorem Zog : Int.tmod 3 4 = 3 := by decide
theorem Zoz : Int.tmod 4 4 = 0 := by decide
theorem Zoj : Int.tmod 5 4 = 1 := by decide
theorem Zos : Int.tmod 6 4 = 2 := by decide
set_option maxRecDepth 100000 in
set_option maxHeartbeats 16000000 in
theorem Zxc (key nonce : ByteArray) (ctr : Int) (hk : key.size = 32) (hn : nonce.size = 12) : Pr 185 [sC key,sC nonce,iC ctr] (.agg ((Zht key nonce ctr).map u8C)) := by
 refine Zl mixed Zym rfl fun hl T => ?_
 obtain ⟨res,hres⟩ : ∃ res,res = Zht key nonce ctr := ⟨_,rfl⟩
 have hrl : res.length = 64 := by rw [hres]; exact Zl9 _ _ _
 rw [← hres]
 have hts : (Ztz ++ key).size = 48 := by rw [ByteArray.size_append,hk]; rfl
 obtain ⟨text,htext⟩ : ∃ text,text = Ztz ++ key := ⟨_,rfl⟩
 rw [← htext] at hts
 have loopB : ∀ (rest : List (Int × Int)) (i : Nat) (pre : List UInt8) (w0 w : List Int) (e : Env) (k0 : Blk),(∃ z : List Cell,z.length = 64 ∧ k0 = { sz := 64,rows := [z] }) → i + rest.length = 16 → w0.length = 16 → w.length = 16 → (w0.zip w).drop i = rest → pre.length = 4 * i →
   e 6 = .c (.ptr 0 0 0) → e 7 = .c (.ptr 1 0 0) → e 14 = .c (.ptr 3 0 0) → e 78 = .agg (w0.map wRow) → e 79 = iC i → pre ++ (rest.flatMap fun p => Ze2 (addW p.1 p.2)) = res → ∀ (B2 : Blk) (post : List UInt8),post.length = 64 - 4 * i →
   Run (Zt Tryz.prog T) ⟨[.cell 6 true 64],fun u E => Zf E u = some (.agg (res.map u8C))⟩ [.loop Zg7,.blk 10,.code Zi9] e [k0,aBlk 16 w,B2,{ sz := 64,rows := [(pre ++ post).map u8C] }] := by
  intro rest
  induction rest with
  | nil =>
   intro i pre w0 w e k0 hk0 hi hw0 hw hd hpl h6 h7 h14 h78 h79 hv B2 post hpo
   obtain ⟨z,hz,rfl⟩ := hk0
   have hi : i = 16 := by simpa using hi
   subst hi
   have hpn : post = [] := List.eq_nil_of_length_eq_zero (by omega)
   subst hpn
   have hc : ¬ (((16 : Nat) : Int) < 16) := by omega
   have hpr : pre = res := by simpa using hv
   subst hpr
   have hll : (pre.map u8C).length = 64 := by simp [hrl]
   have htk : (pre.map u8C).take 64 = pre.map u8C := List.take_of_length_le (by omega)
   have hdz : z.drop 64 = [] := List.drop_eq_nil_of_le (by omega)
   refine Zi ?_
   conv => enter [3,1]; unfold Zg7
   simp only [go_sem,simprocAttr,h79,hc]
   unfold Zi9
   simp only [go_sem,simprocAttr,h6,h14,hll,htk,hz,hdz]
   simp only [Zf,Z0z]
  | cons p rest ih =>
   intro i pre w0 w e k0 hk0 hi hw0 hw hd hpl h6 h7 h14 h78 h79 hv B2 post hpo
   have hi16 : i < 16 := by simp at hi; omega
   have hc : ((i : Int) < 16) := by omega
   obtain ⟨q0,q1,q2,q3,post',rfl⟩ : ∃ q0 q1 q2 q3 post',post = q0 :: q1 :: q2 :: q3 :: post' := by
    match post,hpo with
    | q0 :: q1 :: q2 :: q3 :: post',_ => exact ⟨q0,q1,q2,q3,post',rfl⟩
    | [],h => simp at h; omega
    | [_],h => simp at h; omega
    | [_,_],h => simp at h; omega
    | [_,_,_],h => simp at h; omega
   obtain ⟨x0,x1⟩ := p
   have hzl : i < (w0.zip w).length := by rw [List.length_zip,hw0,hw]; omega
   have hdd := List.drop_eq_getElem_cons hzl
   rw [hd] at hdd
   injection hdd with hd1 hd2
   rw [List.getElem_zip] at hd1
   injection hd1 with hx0 hx1
   have g0 : w0[i]? = some x0 := by rw [List.getElem?_eq_getElem (by omega),← hx0]
   have g1 : (w.map wRow)[i]? = some (.int .u32 x1) := by rw [List.getElem?_map,List.getElem?_eq_getElem (by omega),← hx1]; rfl
   have hxv := fun H => Zs3 (n := 16) (l := w0) (ik := .i64) (H := H) hi16 g0
   have hxa : ∀ H : Heap,vIxA 16 1 (.c (.ptr 1 0 0)) (iC (i : Int)) H = some (.c (.ptr 1 0 (0 + i)),H) := fun H => Zcb hi16
   have hn1 : IntKind.wrap .i64 ((i : Int) + 1) = ((i + 1 : Nat) : Int) := by rw [Zn (by omega)]; omega
   have w4 : IntKind.wrap .i64 (4 * (i : Int)) = ((4 * i : Nat) : Int) := by rw [Zn (by omega)]; omega
   have wk0 : IntKind.wrap .i64 (((4 * i : Nat) : Int) + 0) = ((4 * i : Nat) : Int) := by rw [Zn (by omega)]; omega
   have wk1 : IntKind.wrap .i64 (((4 * i : Nat) : Int) + 1) = ((4 * i + 1 : Nat) : Int) := by rw [Zn (by omega)]; omega
   have wk2 : IntKind.wrap .i64 (((4 * i : Nat) : Int) + 2) = ((4 * i + 2 : Nat) : Int) := by rw [Zn (by omega)]; omega
   have wk3 : IntKind.wrap .i64 (((4 * i : Nat) : Int) + 3) = ((4 * i + 3 : Nat) : Int) := by rw [Zn (by omega)]; omega
   have a0 : ∀ H : Heap,vIxA 64 1 (.c (.ptr 3 0 0)) (iC ((4 * i : Nat) : Int)) H = some (.c (.ptr 3 0 (0 + 4 * i)),H) := fun H => Zcb (by omega)
   have a1 : ∀ H : Heap,vIxA 64 1 (.c (.ptr 3 0 0)) (iC ((4 * i + 1 : Nat) : Int)) H = some (.c (.ptr 3 0 (0 + (4 * i + 1))),H) := fun H => Zcb (by omega)
   have a2 : ∀ H : Heap,vIxA 64 1 (.c (.ptr 3 0 0)) (iC ((4 * i + 2 : Nat) : Int)) H = some (.c (.ptr 3 0 (0 + (4 * i + 2))),H) := fun H => Zcb (by omega)
   have a3 : ∀ H : Heap,vIxA 64 1 (.c (.ptr 3 0 0)) (iC ((4 * i + 3 : Nat) : Int)) H = some (.c (.ptr 3 0 (0 + (4 * i + 3))),H) := fun H => Zcb (by omega)
   have s0 : ∀ (a : Int) (ik : IntKind) (H : Heap),vBin .shr (.c (.int .u32 a)) (.c (.int ik 0)) H = some (.c (.int .u32 a),H) := fun a ik H => by have := Zci (a := a) (b := 0) (ik := ik) (H := H) (by decide); rw [Zbc6] at this; exact this
   have s8 : ∀ (a : Int) (ik : IntKind) (H : Heap),vBin .shr (.c (.int .u32 a)) (.c (.int ik 8)) H = some (.c (.int .u32 (shrW a 8)),H) := fun a ik H => Zci (by decide)
   have s16 : ∀ (a : Int) (ik : IntKind) (H : Heap),vBin .shr (.c (.int .u32 a)) (.c (.int ik 16)) H = some (.c (.int .u32 (shrW a 16)),H) := fun a ik H => Zci (by decide)
   have s24 : ∀ (a : Int) (ik : IntKind) (H : Heap),vBin .shr (.c (.int .u32 a)) (.c (.int ik 24)) H = some (.c (.int .u32 (shrW a 24)),H) := fun a ik H => Zci (by decide)
   have w16 : IntKind.wrap .i64 16 = 16 := by decide
   have w24 : IntKind.wrap .i64 24 = 24 := by decide
   obtain ⟨X,hX⟩ : ∃ X,X = addW x0 x1 := ⟨_,rfl⟩
   have p0 := Zun (pre := pre) (post := q1 :: q2 :: q3 :: post') hpl q0 (b8 X)
   have l0 := Zut (pre := pre) (post := q1 :: q2 :: q3 :: post') hpl q0
   have e1 : pre ++ b8 X :: q1 :: q2 :: q3 :: post' = (pre ++ [b8 X]) ++ q1 :: q2 :: q3 :: post' := by simp
   have p1 := Zun (pre := pre ++ [b8 X]) (post := q2 :: q3 :: post') (i := 4 * i + 1) (by simp; omega) q1 (b8 (shrW X 8))
   have l1 := Zut (pre := pre ++ [b8 X]) (post := q2 :: q3 :: post') (i := 4 * i + 1) (by simp; omega) q1
   have e2 : (pre ++ [b8 X]) ++ b8 (shrW X 8) :: q2 :: q3 :: post' = (pre ++ [b8 X,b8 (shrW X 8)]) ++ q2 :: q3 :: post' := by simp
   have p2 := Zun (pre := pre ++ [b8 X,b8 (shrW X 8)]) (post := q3 :: post') (i := 4 * i + 2) (by simp; omega) q2 (b8 (shrW X 16))
   have l2 := Zut (pre := pre ++ [b8 X,b8 (shrW X 8)]) (post := q3 :: post') (i := 4 * i + 2) (by simp; omega) q2
   have e3 : (pre ++ [b8 X,b8 (shrW X 8)]) ++ b8 (shrW X 16) :: q3 :: post' = (pre ++ [b8 X,b8 (shrW X 8),b8 (shrW X 16)]) ++ q3 :: post' := by simp
   have p3 := Zun (pre := pre ++ [b8 X,b8 (shrW X 8),b8 (shrW X 16)]) (post := post') (i := 4 * i + 3) (by simp; omega) q3 (b8 (shrW X 24))
   have l3 := Zut (pre := pre ++ [b8 X,b8 (shrW X 8),b8 (shrW X 16)]) (post := post') (i := 4 * i + 3) (by simp; omega) q3
   have e4 : (pre ++ [b8 X,b8 (shrW X 8),b8 (shrW X 16)]) ++ b8 (shrW X 24) :: post' = (pre ++ Ze2 X) ++ post' := by simp [Ze2]
   rw [e1] at p0
   rw [e2] at p1
   rw [e3] at p2
   rw [e4] at p3
   refine Zi ?_
   conv => enter [3,1]; unfold Zg7
   simp only [go_sem,simprocAttr,h7,h78,h79,hc,hxv,hxa,g1,← hX]
   refine Zi ?_
   conv => enter [3,1]; unfold Zef
   simp only [go_sem,simprocAttr,h14,w4,wk0,Zbl,w16,w24,s0,Zeh,a0,l0,p0,Zbr]
   refine Zi ?_
   conv => enter [3,1]; unfold Zef
   simp only [go_sem,simprocAttr,h14,w4,wk1,Zbq,w16,w24,s8,Zeh,a1,l1,p1,Zbs]
   refine Zi ?_
   conv => enter [3,1]; unfold Zef
   simp only [go_sem,simprocAttr,h14,w4,wk2,Zbl,w16,w24,s16,Zeh,a2,l2,p2,Zbo]
   refine Zi ?_
   conv => enter [3,1]; unfold Zef
   simp only [go_sem,simprocAttr,h14,w4,wk3,Zbl,w16,w24,s24,Zeh,a3,l3,p3,Zbp]
   refine Zi ?_
   conv => enter [3,1]; unfold Zef
   simp only [go_sem,simprocAttr]
   unfold Zo3
   simp only [go_sem,simprocAttr,h79,hn1]
   refine ih (i + 1) (pre ++ Ze2 X) w0 w _ k0 hk0 (by simp at hi; omega) hw0 hw hd2.symm (by simp [Ze2]; omega) ?_ ?_ ?_ ?_ ?_ ?_ B2 post' (by simp at hpo; omega)
   ·simp only [go_sem,simprocAttr,h6]
   ·simp only [go_sem,simprocAttr,h7]
   ·simp only [go_sem,simprocAttr,h14]
   ·simp only [go_sem,simprocAttr,h78]
   ·simp only [go_sem,simprocAttr,hn1]
   ·rw [← hv,hX]; simp
 have loopR : ∀ (n i : Nat) (l w0 : List Int) (e : Env) (k0 : Blk),(∃ z : List Cell,z.length = 64 ∧ k0 = { sz := 64,rows := [z] }) → i + n = 10 → l.length = 16 → w0.length = 16 → (Zoc w0 (Zfe n l)).flatMap Ze2 = res →
   e 6 = .c (.ptr 0 0 0) → e 7 = .c (.ptr 1 0 0) → e 11 = .c (.ptr 2 0 0) → e 45 = iC i →
   Run (Zt Tryz.prog T) ⟨[.cell 6 true 64],fun u E => Zf E u = some (.agg (res.map u8C))⟩ [.loop Zg9,.blk 4,.code Zjb] e [k0,aBlk 16 l,aBlk 16 w0] := by
  intro n
  induction n with
  | zero =>
   intro i l w0 e k0 hk0 hi hl16 hw0 hv h6 h7 h11 h45
   have hc : ¬ ((i : Int) < 10) := by omega
   have hll : (w0.map wRow).length = 16 := by simp [hw0]
   have htk : (w0.map wRow).take 16 = w0.map wRow := List.take_of_length_le (by omega)
   refine Zi ?_
   conv => enter [3,1]; unfold Zg9
   simp only [go_sem,simprocAttr,h45,hc]
   unfold Zjb
   simp only [go_sem,simprocAttr,h11,hll,htk]
   refine loopB (w0.zip l) 0 [] w0 l _ k0 hk0 (by rw [List.length_zip,hw0,hl16]; rfl) hw0 hl16 (by rw [List.drop_zero]) rfl ?_ ?_ ?_ ?_ ?_ ?_ (aBlk 16 w0) (List.replicate 64 0) (by simp)
   ·simp only [go_sem,simprocAttr,h6]
   ·simp only [go_sem,simprocAttr,h7]
   ·simp only [go_sem,simprocAttr]
   ·simp only [go_sem,simprocAttr]
   ·first | (simp only [go_sem,simprocAttr]; done) | (simp only [go_sem,simprocAttr]; rfl)
   ·rw [← hv]
    unfold Zoc Zfe
    rw [List.nil_append,List.flatMap_map]
  | succ n ih =>
   intro i l w0 e k0 hk0 hi hl16 hw0 hv h6 h7 h11 h45
   have hc : ((i : Int) < 10) := by omega
   have hn1 : IntKind.wrap .i64 ((i : Int) + 1) = ((i + 1 : Nat) : Int) := by rw [Zn (by omega)]; omega
   obtain ⟨l1,hl1⟩ : ∃ m,m = Zbj l 0 4 8 12 := ⟨_,rfl⟩
   have n1 : l1.length = 16 := by rw [hl1,Zb2]; exact hl16
   have q1 := Zcv (H := [k0,aBlk 16 l,aBlk 16 w0]) (bl := 1) (l := l) (a := 0) (b := 4) (c := 8) (d := 12) rfl hl16 (by omega) (by omega) (by omega) (by omega)
   rw [← hl1] at q1
   obtain ⟨l2,hl2⟩ : ∃ m,m = Zbj l1 1 5 9 13 := ⟨_,rfl⟩
   have n2 : l2.length = 16 := by rw [hl2,Zb2]; exact n1
   have q2 := Zcv (H := [k0,aBlk 16 l1,aBlk 16 w0]) (bl := 1) (l := l1) (a := 1) (b := 5) (c := 9) (d := 13) rfl n1 (by omega) (by omega) (by omega) (by omega)
   rw [← hl2] at q2
   obtain ⟨l3,hl3⟩ : ∃ m,m = Zbj l2 2 6 10 14 := ⟨_,rfl⟩
   have n3 : l3.length = 16 := by rw [hl3,Zb2]; exact n2
   have q3 := Zcv (H := [k0,aBlk 16 l2,aBlk 16 w0]) (bl := 1) (l := l2) (a := 2) (b := 6) (c := 10) (d := 14) rfl n2 (by omega) (by omega) (by omega) (by omega)
   rw [← hl3] at q3
   obtain ⟨l4,hl4⟩ : ∃ m,m = Zbj l3 3 7 11 15 := ⟨_,rfl⟩
   have n4 : l4.length = 16 := by rw [hl4,Zb2]; exact n3
   have q4 := Zcv (H := [k0,aBlk 16 l3,aBlk 16 w0]) (bl := 1) (l := l3) (a := 3) (b := 7) (c := 11) (d := 15) rfl n3 (by omega) (by omega) (by omega) (by omega)
   rw [← hl4] at q4
   obtain ⟨l5,hl5⟩ : ∃ m,m = Zbj l4 0 5 10 15 := ⟨_,rfl⟩
   have n5 : l5.length = 16 := by rw [hl5,Zb2]; exact n4
   have q5 := Zcv (H := [k0,aBlk 16 l4,aBlk 16 w0]) (bl := 1) (l := l4) (a := 0) (b := 5) (c := 10) (d := 15) rfl n4 (by omega) (by omega) (by omega) (by omega)
   rw [← hl5] at q5
   obtain ⟨l6,hl6⟩ : ∃ m,m = Zbj l5 1 6 11 12 := ⟨_,rfl⟩
   have n6 : l6.length = 16 := by rw [hl6,Zb2]; exact n5
   have q6 := Zcv (H := [k0,aBlk 16 l5,aBlk 16 w0]) (bl := 1) (l := l5) (a := 1) (b := 6) (c := 11) (d := 12) rfl n5 (by omega) (by omega) (by omega) (by omega)
   rw [← hl6] at q6
   obtain ⟨l7,hl7⟩ : ∃ m,m = Zbj l6 2 7 8 13 := ⟨_,rfl⟩
   have n7 : l7.length = 16 := by rw [hl7,Zb2]; exact n6
   have q7 := Zcv (H := [k0,aBlk 16 l6,aBlk 16 w0]) (bl := 1) (l := l6) (a := 2) (b := 7) (c := 8) (d := 13) rfl n6 (by omega) (by omega) (by omega) (by omega)
   rw [← hl7] at q7
   obtain ⟨l8,hl8⟩ : ∃ m,m = Zbj l7 3 4 9 14 := ⟨_,rfl⟩
   have n8 : l8.length = 16 := by rw [hl8,Zb2]; exact n7
   have q8 := Zcv (H := [k0,aBlk 16 l7,aBlk 16 w0]) (bl := 1) (l := l7) (a := 3) (b := 4) (c := 9) (d := 14) rfl n7 (by omega) (by omega) (by omega) (by omega)
   rw [← hl8] at q8
   have hround : Znj l = l8 := by
    unfold Znj
    rw [← hl1,← hl2,← hl3,← hl4,← hl5,← hl6,← hl7,← hl8]
   rw [Zfe,hround] at hv
   clear hl1 hl2 hl3 hl4 hl5 hl6 hl7 hl8 hround
   refine Zi ?_
   conv => enter [3,1]; unfold Zg9
   simp only [go_sem,simprocAttr,h45,hc]
   refine Zi ?_
   conv => enter [3,1]; unfold Zed
   simp only [go_sem,simprocAttr,h7,Zbl,Zbr,Zbs,Zbo,Zbp,Zbz,Zbx,Zbw,Zbq,Zby,Zbe,Zbb,Zbd,Zba,Z7,Zbc]
   refine Z3 q1 (fun h => by cases h) ?_
   simp only [go_sem,simprocAttr,Zbl,Zbr,Zbs,Zbo,Zbp,Zbz,Zbx,Zbw,Zbq,Zby,Zbe,Zbb,Zbd,Zba,Z7,Zbc]
   refine Zi ?_
   conv => enter [3,1]; unfold Zed
   simp only [go_sem,simprocAttr,h7,Zbl,Zbr,Zbs,Zbo,Zbp,Zbz,Zbx,Zbw,Zbq,Zby,Zbe,Zbb,Zbd,Zba,Z7,Zbc]
   refine Z3 q2 (fun h => by cases h) ?_
   simp only [go_sem,simprocAttr,Zbl,Zbr,Zbs,Zbo,Zbp,Zbz,Zbx,Zbw,Zbq,Zby,Zbe,Zbb,Zbd,Zba,Z7,Zbc]
   refine Zi ?_
   conv => enter [3,1]; unfold Zed
   simp only [go_sem,simprocAttr,h7,Zbl,Zbr,Zbs,Zbo,Zbp,Zbz,Zbx,Zbw,Zbq,Zby,Zbe,Zbb,Zbd,Zba,Z7,Zbc]
   refine Z3 q3 (fun h => by cases h) ?_
   simp only [go_sem,simprocAttr,Zbl,Zbr,Zbs,Zbo,Zbp,Zbz,Zbx,Zbw,Zbq,Zby,Zbe,Zbb,Zbd,Zba,Z7,Zbc]
   refine Zi ?_
   conv => enter [3,1]; unfold Zed
   simp only [go_sem,simprocAttr,h7,Zbl,Zbr,Zbs,Zbo,Zbp,Zbz,Zbx,Zbw,Zbq,Zby,Zbe,Zbb,Zbd,Zba,Z7,Zbc]
   refine Z3 q4 (fun h => by cases h) ?_
   simp only [go_sem,simprocAttr,Zbl,Zbr,Zbs,Zbo,Zbp,Zbz,Zbx,Zbw,Zbq,Zby,Zbe,Zbb,Zbd,Zba,Z7,Zbc]
   refine Zi ?_
   conv => enter [3,1]; unfold Zed
   simp only [go_sem,simprocAttr]
   unfold Zod
   simp only [go_sem,simprocAttr]
   refine Zi ?_
   conv => enter [3,1]; unfold Zej
   simp only [go_sem,simprocAttr,h7,Zdf,Zbl,Zbr,Zbs,Zbo,Zbp,Zbz,Zbx,Zbw,Zbq,Zby,Zbe,Zbb,Zbd,Zba,Z7,Zbc,Zo1,Zo2,Zog,Zoz,Zoj,Zos]
   refine Z3 q5 (fun h => by cases h) ?_
   simp only [go_sem,simprocAttr,Zbl,Zbr,Zbs,Zbo,Zbp,Zbz,Zbx,Zbw,Zbq,Zby,Zbe,Zbb,Zbd,Zba,Z7,Zbc]
   refine Zi ?_
   conv => enter [3,1]; unfold Zej
   simp only [go_sem,simprocAttr,h7,Zdf,Zbl,Zbr,Zbs,Zbo,Zbp,Zbz,Zbx,Zbw,Zbq,Zby,Zbe,Zbb,Zbd,Zba,Z7,Zbc,Zo1,Zo2,Zog,Zoz,Zoj,Zos]
   refine Z3 q6 (fun h => by cases h) ?_
   simp only [go_sem,simprocAttr,Zbl,Zbr,Zbs,Zbo,Zbp,Zbz,Zbx,Zbw,Zbq,Zby,Zbe,Zbb,Zbd,Zba,Z7,Zbc]
   refine Zi ?_
   conv => enter [3,1]; unfold Zej
   simp only [go_sem,simprocAttr,h7,Zdf,Zbl,Zbr,Zbs,Zbo,Zbp,Zbz,Zbx,Zbw,Zbq,Zby,Zbe,Zbb,Zbd,Zba,Z7,Zbc,Zo1,Zo2,Zog,Zoz,Zoj,Zos]
   refine Z3 q7 (fun h => by cases h) ?_
   simp only [go_sem,simprocAttr,Zbl,Zbr,Zbs,Zbo,Zbp,Zbz,Zbx,Zbw,Zbq,Zby,Zbe,Zbb,Zbd,Zba,Z7,Zbc]
   refine Zi ?_
   conv => enter [3,1]; unfold Zej
   simp only [go_sem,simprocAttr,h7,Zdf,Zbl,Zbr,Zbs,Zbo,Zbp,Zbz,Zbx,Zbw,Zbq,Zby,Zbe,Zbb,Zbd,Zba,Z7,Zbc,Zo1,Zo2,Zog,Zoz,Zoj,Zos]
   refine Z3 q8 (fun h => by cases h) ?_
   simp only [go_sem,simprocAttr,Zbl,Zbr,Zbs,Zbo,Zbp,Zbz,Zbx,Zbw,Zbq,Zby,Zbe,Zbb,Zbd,Zba,Z7,Zbc]
   refine Zi ?_
   conv => enter [3,1]; unfold Zej
   simp only [go_sem,simprocAttr]
   unfold Zov
   simp only [go_sem,simprocAttr,h45,hn1]
   refine ih (i + 1) l8 w0 _ k0 hk0 (by omega) n8 hw0 hv ?_ ?_ ?_ ?_
   ·simp only [go_sem,simprocAttr,h6]
   ·simp only [go_sem,simprocAttr,h7]
   ·simp only [go_sem,simprocAttr,h11]
   ·simp only [go_sem,simprocAttr,hn1]
 have loop0 : ∀ (m i : Nat) (R : List Int) (e : Env) (k0 : Blk),i + m = 12 → R = lesW text i ++ List.replicate (16 - i) 0 → (∃ z : List Cell,z.length = 64 ∧ k0 = { sz := 64,rows := [z] }) → e 1 = sC nonce → e 2 = iC ctr → e 6 = .c (.ptr 0 0 0) → e 7 = .c (.ptr 1 0 0) → e 8 = sC text → e 20 = iC i →
   Run (Zt Tryz.prog T) ⟨[.cell 6 true 64],fun u E => Zf E u = some (.agg (res.map u8C))⟩ [.loop Zg8,.blk 0,.code Zje] e [k0,aBlk 16 R] := by
  intro m
  induction m with
  | zero =>
   intro i R e k0 hi hR hk0 h1 h2 h6 h7 h8 h20
   have hi : i = 12 := by omega
   subst hi
   have hc : ¬ (((12 : Nat) : Int) < 12) := by omega
   have hT := Zm8 text 12
   have hres' : (Zoc (Ziw key nonce ctr) (Zfe 10 (Ziw key nonce ctr))).flatMap Ze2 = res := hres.symm
   have hiw : Ziw key nonce ctr = lesW text 12 ++ [IntKind.wrap .u32 ctr,leW nonce 0,leW nonce 4,leW nonce 8] := by unfold Ziw; rw [← htext]; rfl
   rw [hiw] at hres'
   obtain ⟨T12,hT12⟩ : ∃ T12,T12 = lesW text 12 := ⟨_,rfl⟩
   rw [← hT12] at hT hR hres'
   have hR : R = T12 ++ [0,0,0,0] := hR
   subst hR
   have x12 : ∀ H : Heap,vIxA 16 1 (.c (.ptr 1 0 0)) (iC 12) H = some (.c (.ptr 1 0 12),H) := fun H => rfl
   have x13 : ∀ H : Heap,vIxA 16 1 (.c (.ptr 1 0 0)) (iC 13) H = some (.c (.ptr 1 0 13),H) := fun H => rfl
   have x14 : ∀ H : Heap,vIxA 16 1 (.c (.ptr 1 0 0)) (iC 14) H = some (.c (.ptr 1 0 14),H) := fun H => rfl
   have x15 : ∀ H : Heap,vIxA 16 1 (.c (.ptr 1 0 0)) (iC 15) H = some (.c (.ptr 1 0 15),H) := fun H => rfl
   have p12 := Zfd (pre := T12) (post := [0,0,0]) (i := 12) hT 0 (IntKind.wrap .u32 ctr)
   have l12 := Zf9 (pre := T12) (post := [0,0,0]) (i := 12) hT 0
   have e12 : T12 ++ IntKind.wrap .u32 ctr :: [0,0,0] = (T12 ++ [IntKind.wrap .u32 ctr]) ++ 0 :: [0,0] := by simp
   have p13 := Zfd (pre := T12 ++ [IntKind.wrap .u32 ctr]) (post := [0,0]) (i := 13) (by simp [hT]) 0 (leW nonce 0)
   have l13 := Zf9 (pre := T12 ++ [IntKind.wrap .u32 ctr]) (post := [0,0]) (i := 13) (by simp [hT]) 0
   have e13 : (T12 ++ [IntKind.wrap .u32 ctr]) ++ leW nonce 0 :: [0,0] = (T12 ++ [IntKind.wrap .u32 ctr,leW nonce 0]) ++ 0 :: [0] := by simp
   have p14 := Zfd (pre := T12 ++ [IntKind.wrap .u32 ctr,leW nonce 0]) (post := [0]) (i := 14) (by simp [hT]) 0 (leW nonce 4)
   have l14 := Zf9 (pre := T12 ++ [IntKind.wrap .u32 ctr,leW nonce 0]) (post := [0]) (i := 14) (by simp [hT]) 0
   have e14 : (T12 ++ [IntKind.wrap .u32 ctr,leW nonce 0]) ++ leW nonce 4 :: [0] = (T12 ++ [IntKind.wrap .u32 ctr,leW nonce 0,leW nonce 4]) ++ 0 :: [] := by simp
   have p15 := Zfd (pre := T12 ++ [IntKind.wrap .u32 ctr,leW nonce 0,leW nonce 4]) (post := []) (i := 15) (by simp [hT]) 0 (leW nonce 8)
   have l15 := Zf9 (pre := T12 ++ [IntKind.wrap .u32 ctr,leW nonce 0,leW nonce 4]) (post := []) (i := 15) (by simp [hT]) 0
   have e15 : (T12 ++ [IntKind.wrap .u32 ctr,leW nonce 0,leW nonce 4]) ++ leW nonce 8 :: [] = T12 ++ [IntKind.wrap .u32 ctr,leW nonce 0,leW nonce 4,leW nonce 8] := by simp
   rw [e12] at p12
   rw [e13] at p13
   rw [e14] at p14
   rw [e15] at p15
   have c0 : Pr 206 [sC nonce,iC 0] (wC (leW nonce 0)) := Zhw nonce 0 (by omega) (by omega)
   have c4 : Pr 206 [sC nonce,iC 4] (wC (leW nonce 4)) := Zhw nonce 4 (by omega) (by omega)
   have c8 : Pr 206 [sC nonce,iC 8] (wC (leW nonce 8)) := Zhw nonce 8 (by omega) (by omega)
   have hIl : (T12 ++ [IntKind.wrap .u32 ctr,leW nonce 0,leW nonce 4,leW nonce 8]).length = 16 := by simp [hT]
   have hIm : ((T12 ++ [IntKind.wrap .u32 ctr,leW nonce 0,leW nonce 4,leW nonce 8]).map wRow).length = 16 := by rw [List.length_map]; exact hIl
   have hIt : ((T12 ++ [IntKind.wrap .u32 ctr,leW nonce 0,leW nonce 4,leW nonce 8]).map wRow).take 16 = (T12 ++ [IntKind.wrap .u32 ctr,leW nonce 0,leW nonce 4,leW nonce 8]).map wRow := List.take_of_length_le (by omega)
   generalize leW nonce 0 = n0 at *
   generalize leW nonce 4 = n4 at *
   generalize leW nonce 8 = n8 at *
   generalize hcw : IntKind.wrap .u32 ctr = cw at *
   refine Zi ?_
   conv => enter [3,1]; unfold Zg8
   simp only [go_sem,simprocAttr,h20,hc]
   unfold Zje
   have hr0 : (T12 ++ 0 :: [0,0,0]) = T12 ++ [0,0,0,0] := rfl
   simp only [go_sem,simprocAttr,h2,h7,hcw,x12,l12,p12]
   refine Zi ?_
   conv => enter [3,1]; unfold Zfr
   simp only [go_sem,simprocAttr,h1,h7,Zbl,Zbr,Zbs,Zbo,Zbp,Zbz,Zbx,Zbw,Zbq,Zby,Zbe,Zbb,Zbd,Zba,Z7,Zbc]
   refine Za c0 ?_
   simp only [go_sem,simprocAttr,h7,x13,l13,p13,Zbl,Zbr,Zbs,Zbo,Zbp,Zbz,Zbx,Zbw,Zbq,Zby,Zbe,Zbb,Zbd,Zba,Z7,Zbc]
   refine Zi ?_
   conv => enter [3,1]; unfold Zfr
   simp only [go_sem,simprocAttr,h1,h7,Zbl,Zbr,Zbs,Zbo,Zbp,Zbz,Zbx,Zbw,Zbq,Zby,Zbe,Zbb,Zbd,Zba,Z7,Zbc]
   refine Za c4 ?_
   simp only [go_sem,simprocAttr,h7,x14,l14,p14,Zbl,Zbr,Zbs,Zbo,Zbp,Zbz,Zbx,Zbw,Zbq,Zby,Zbe,Zbb,Zbd,Zba,Z7,Zbc]
   refine Zi ?_
   conv => enter [3,1]; unfold Zfr
   simp only [go_sem,simprocAttr,h1,h7,Zbl,Zbr,Zbs,Zbo,Zbp,Zbz,Zbx,Zbw,Zbq,Zby,Zbe,Zbb,Zbd,Zba,Z7,Zbc]
   refine Za c8 ?_
   simp only [go_sem,simprocAttr,h7,x15,l15,p15,Zbl,Zbr,Zbs,Zbo,Zbp,Zbz,Zbx,Zbw,Zbq,Zby,Zbe,Zbb,Zbd,Zba,Z7,Zbc]
   refine Zi ?_
   conv => enter [3,1]; unfold Zfr
   simp only [go_sem,simprocAttr]
   unfold Znc
   generalize T12 ++ [cw,n0,n4,n8] = I at hIl hIm hIt hres' ⊢
   simp only [go_sem,simprocAttr,h7,hIm,hIt]
   refine loopR 10 0 I I _ k0 hk0 rfl hIl hIl hres' ?_ ?_ ?_ ?_
   ·simp only [go_sem,simprocAttr,h6]
   ·simp only [go_sem,simprocAttr,h7]
   ·simp only [go_sem,simprocAttr]
   ·first | (simp only [go_sem,simprocAttr]; done) | (simp only [go_sem,simprocAttr]; rfl)
  | succ m ih =>
   intro i R e k0 hi hR hk0 h1 h2 h6 h7 h8 h20
   have hc : ((i : Int) < 12) := by omega
   have hR2 : R = lesW text i ++ 0 :: List.replicate (15 - i) 0 := by
    rw [hR,show 16 - i = (15 - i) + 1 by omega]; rfl
   have hpre := Zm8 text i
   have hnext : lesW text i ++ [leW text (4 * i)] = lesW text (i + 1) := (Z0q text i).symm
   have cw := Zhw text (4 * i) (by omega) (by omega)
   obtain ⟨pre,hp⟩ : ∃ pre,pre = lesW text i := ⟨_,rfl⟩
   obtain ⟨post,hpo⟩ : ∃ post : List Int,post = List.replicate (15 - i) 0 := ⟨_,rfl⟩
   rw [← hp] at hpre hnext hR2
   rw [← hpo] at hR2
   subst hR2
   have hput := Zfd (post := post) hpre 0 (leW text (4 * i))
   have hlen := Zf9 (post := post) hpre 0
   have xn : ∀ H : Heap,vIxA 16 1 (.c (.ptr 1 0 0)) (iC (i : Int)) H = some (.c (.ptr 1 0 (0 + i)),H) := fun H => Zcb (by omega)
   have w4 : IntKind.wrap .i64 (4 * (i : Int)) = ((4 * i : Nat) : Int) := by rw [Zn (by omega)]; omega
   have hn1 : IntKind.wrap .i64 ((i : Int) + 1) = ((i + 1 : Nat) : Int) := by rw [Zn (by omega)]; omega
   refine Zi ?_
   conv => enter [3,1]; unfold Zg8
   simp only [go_sem,simprocAttr,h8,h20,hc,w4]
   refine Za cw ?_
   simp only [go_sem,simprocAttr,h7,h20,xn,hlen,hput,hn1]
   refine ih (i + 1) _ _ k0 (by omega) ?_ hk0 ?_ ?_ ?_ ?_ ?_ ?_
   ·rw [show 16 - (i + 1) = 15 - i by omega,← hnext,← hpo,List.append_assoc]; rfl
   ·simp only [go_sem,simprocAttr,h1]
   ·simp only [go_sem,simprocAttr,h2]
   ·simp only [go_sem,simprocAttr,h6]
   ·simp only [go_sem,simprocAttr,h7]
   ·simp only [go_sem,simprocAttr,h8]
   ·simp only [go_sem,simprocAttr,hn1]
 have hcat : ∀ H : Heap,vBin .add (.c (.str ⟨#[101,120,112,97,110,100,32,51,50,45,98,121,116,101,32,107]⟩)) (sC key) H = some (sC text,H) := fun H => by
  rw [htext]
  exact Zgj (by rw [hk]; decide)
 unfold Zqf
 simp only [go_sem,simprocAttr,hcat]
 refine loop0 12 0 (List.replicate 16 0) _ _ rfl rfl ⟨_,?_,rfl⟩ ?_ ?_ ?_ ?_ ?_ ?_
 ·rfl
 all_goals first | (simp only [go_sem,simprocAttr]; done) | (simp only [go_sem,simprocAttr]; rfl)
theorem Zcw {H : Heap} {b i : Nat} {l : List Int} (h : H[b]? = some (wBlk l)) (hi : i < l.length) : Heap.row H b i = some [.int .u32 (l.getD i 0)] :=
 Zq h (by rw [List.getElem?_eq_getElem hi,List.getD_eq_getElem?_getD,List.getElem?_eq_getElem hi]; rfl)
set_option maxRecDepth 100000 in
set_option maxHeartbeats 8000000 in
theorem Zdx {H : Heap} {bl : Nat} {l : List Int} {a b c d : Nat} (hH : H[bl]? = some (wBlk l)) (hl : l.length = 16) (ha : a < 16) (hb : b < 16) (hc : c < 16) (hd : d < 16) :
  CallSound Tryz.prog 192 [.c (.slc bl 0 16 1 false),iC a,iC b,iC c,iC d] H (.tup []) (H.set bl (wBlk (Zbj l a b c d))) := by
 refine Zhq mixed Z2p fun T => ?_
 unfold Ztg
 have hbl : bl < H.length := (List.getElem?_eq_some_iff.1 hH).1
 have x : ∀ (i : Nat) (H : Heap),i < 16 → vIx 1 (.c (.slc bl 0 16 1 false)) (iC (i : Int)) H = some (.c (.ptr bl i 0),H) := fun i H hi => Zei hi
 have xa := fun H => x a H ha
 have xb := fun H => x b H hb
 have xc := fun H => x c H hc
 have xd := fun H => x d H hd
 obtain ⟨L1,hL1⟩ : ∃ m,m = l.set a (addW (l.getD a 0) (l.getD b 0)) := ⟨_,rfl⟩
 have n1 : L1.length = 16 := by rw [hL1,List.length_set]; exact hl
 have rp0 : Heap.row H bl a = some [.int .u32 (l.getD a 0)] := Zcw hH (by omega)
 have rq0 : Heap.row H bl b = some [.int .u32 (l.getD b 0)] := Zcw hH (by omega)
 have m0 : Heap.mine H bl = true := Zb7 hH rfl rfl
 have u0 : Heap.put H bl a [.int .u32 (addW (l.getD a 0) (l.getD b 0))] = H.set bl (wBlk L1) := by rw [Zcs hH,hL1]
 have h1 : (H.set bl (wBlk L1))[bl]? = some (wBlk L1) := Zw hH
 have b1 : bl < (H.set bl (wBlk L1)).length := by simpa using hbl
 obtain ⟨L2,hL2⟩ : ∃ m,m = L1.set d (rotW (xorW (L1.getD d 0) (L1.getD a 0)) 16) := ⟨_,rfl⟩
 have n2 : L2.length = 16 := by rw [hL2,List.length_set]; exact n1
 have rp1 : Heap.row (H.set bl (wBlk L1)) bl d = some [.int .u32 (L1.getD d 0)] := Zcw h1 (by omega)
 have rq1 : Heap.row (H.set bl (wBlk L1)) bl a = some [.int .u32 (L1.getD a 0)] := Zcw h1 (by omega)
 have m1 : Heap.mine (H.set bl (wBlk L1)) bl = true := Zb7 h1 rfl rfl
 have u1 : Heap.put (H.set bl (wBlk L1)) bl d [.int .u32 (rotW (xorW (L1.getD d 0) (L1.getD a 0)) 16)] = H.set bl (wBlk L2) := by rw [Zcs h1,hL2]; exact Zbt
 have h2 : (H.set bl (wBlk L2))[bl]? = some (wBlk L2) := Zw hH
 have b2 : bl < (H.set bl (wBlk L2)).length := by simpa using hbl
 obtain ⟨L3,hL3⟩ : ∃ m,m = L2.set c (addW (L2.getD c 0) (L2.getD d 0)) := ⟨_,rfl⟩
 have n3 : L3.length = 16 := by rw [hL3,List.length_set]; exact n2
 have rp2 : Heap.row (H.set bl (wBlk L2)) bl c = some [.int .u32 (L2.getD c 0)] := Zcw h2 (by omega)
 have rq2 : Heap.row (H.set bl (wBlk L2)) bl d = some [.int .u32 (L2.getD d 0)] := Zcw h2 (by omega)
 have m2 : Heap.mine (H.set bl (wBlk L2)) bl = true := Zb7 h2 rfl rfl
 have u2 : Heap.put (H.set bl (wBlk L2)) bl c [.int .u32 (addW (L2.getD c 0) (L2.getD d 0))] = H.set bl (wBlk L3) := by rw [Zcs h2,hL3]; exact Zbt
 have h3 : (H.set bl (wBlk L3))[bl]? = some (wBlk L3) := Zw hH
 have b3 : bl < (H.set bl (wBlk L3)).length := by simpa using hbl
 obtain ⟨L4,hL4⟩ : ∃ m,m = L3.set b (rotW (xorW (L3.getD b 0) (L3.getD c 0)) 12) := ⟨_,rfl⟩
 have n4 : L4.length = 16 := by rw [hL4,List.length_set]; exact n3
 have rp3 : Heap.row (H.set bl (wBlk L3)) bl b = some [.int .u32 (L3.getD b 0)] := Zcw h3 (by omega)
 have rq3 : Heap.row (H.set bl (wBlk L3)) bl c = some [.int .u32 (L3.getD c 0)] := Zcw h3 (by omega)
 have m3 : Heap.mine (H.set bl (wBlk L3)) bl = true := Zb7 h3 rfl rfl
 have u3 : Heap.put (H.set bl (wBlk L3)) bl b [.int .u32 (rotW (xorW (L3.getD b 0) (L3.getD c 0)) 12)] = H.set bl (wBlk L4) := by rw [Zcs h3,hL4]; exact Zbt
 have h4 : (H.set bl (wBlk L4))[bl]? = some (wBlk L4) := Zw hH
 have b4 : bl < (H.set bl (wBlk L4)).length := by simpa using hbl
 obtain ⟨L5,hL5⟩ : ∃ m,m = L4.set a (addW (L4.getD a 0) (L4.getD b 0)) := ⟨_,rfl⟩
 have n5 : L5.length = 16 := by rw [hL5,List.length_set]; exact n4
 have rp4 : Heap.row (H.set bl (wBlk L4)) bl a = some [.int .u32 (L4.getD a 0)] := Zcw h4 (by omega)
 have rq4 : Heap.row (H.set bl (wBlk L4)) bl b = some [.int .u32 (L4.getD b 0)] := Zcw h4 (by omega)
 have m4 : Heap.mine (H.set bl (wBlk L4)) bl = true := Zb7 h4 rfl rfl
 have u4 : Heap.put (H.set bl (wBlk L4)) bl a [.int .u32 (addW (L4.getD a 0) (L4.getD b 0))] = H.set bl (wBlk L5) := by rw [Zcs h4,hL5]; exact Zbt
 have h5 : (H.set bl (wBlk L5))[bl]? = some (wBlk L5) := Zw hH
 have b5 : bl < (H.set bl (wBlk L5)).length := by simpa using hbl
 obtain ⟨L6,hL6⟩ : ∃ m,m = L5.set d (rotW (xorW (L5.getD d 0) (L5.getD a 0)) 8) := ⟨_,rfl⟩
 have n6 : L6.length = 16 := by rw [hL6,List.length_set]; exact n5
 have rp5 : Heap.row (H.set bl (wBlk L5)) bl d = some [.int .u32 (L5.getD d 0)] := Zcw h5 (by omega)
 have rq5 : Heap.row (H.set bl (wBlk L5)) bl a = some [.int .u32 (L5.getD a 0)] := Zcw h5 (by omega)
 have m5 : Heap.mine (H.set bl (wBlk L5)) bl = true := Zb7 h5 rfl rfl
 have u5 : Heap.put (H.set bl (wBlk L5)) bl d [.int .u32 (rotW (xorW (L5.getD d 0) (L5.getD a 0)) 8)] = H.set bl (wBlk L6) := by rw [Zcs h5,hL6]; exact Zbt
 have h6 : (H.set bl (wBlk L6))[bl]? = some (wBlk L6) := Zw hH
 have b6 : bl < (H.set bl (wBlk L6)).length := by simpa using hbl
 obtain ⟨L7,hL7⟩ : ∃ m,m = L6.set c (addW (L6.getD c 0) (L6.getD d 0)) := ⟨_,rfl⟩
 have n7 : L7.length = 16 := by rw [hL7,List.length_set]; exact n6
 have rp6 : Heap.row (H.set bl (wBlk L6)) bl c = some [.int .u32 (L6.getD c 0)] := Zcw h6 (by omega)
 have rq6 : Heap.row (H.set bl (wBlk L6)) bl d = some [.int .u32 (L6.getD d 0)] := Zcw h6 (by omega)
 have m6 : Heap.mine (H.set bl (wBlk L6)) bl = true := Zb7 h6 rfl rfl
 have u6 : Heap.put (H.set bl (wBlk L6)) bl c [.int .u32 (addW (L6.getD c 0) (L6.getD d 0))] = H.set bl (wBlk L7) := by rw [Zcs h6,hL7]; exact Zbt
 have h7 : (H.set bl (wBlk L7))[bl]? = some (wBlk L7) := Zw hH
 have b7 : bl < (H.set bl (wBlk L7)).length := by simpa using hbl
 obtain ⟨L8,hL8⟩ : ∃ m,m = L7.set b (rotW (xorW (L7.getD b 0) (L7.getD c 0)) 7) := ⟨_,rfl⟩
 have n8 : L8.length = 16 := by rw [hL8,List.length_set]; exact n7
 have rp7 : Heap.row (H.set bl (wBlk L7)) bl b = some [.int .u32 (L7.getD b 0)] := Zcw h7 (by omega)
 have rq7 : Heap.row (H.set bl (wBlk L7)) bl c = some [.int .u32 (L7.getD c 0)] := Zcw h7 (by omega)
 have m7 : Heap.mine (H.set bl (wBlk L7)) bl = true := Zb7 h7 rfl rfl
 have u7 : Heap.put (H.set bl (wBlk L7)) bl b [.int .u32 (rotW (xorW (L7.getD b 0) (L7.getD c 0)) 7)] = H.set bl (wBlk L8) := by rw [Zcs h7,hL8]; exact Zbt
 have h8 : (H.set bl (wBlk L8))[bl]? = some (wBlk L8) := Zw hH
 have b8 : bl < (H.set bl (wBlk L8)).length := by simpa using hbl
 have hq : Zbj l a b c d = L8 := by rw [hL8,hL7,hL6,hL5,hL4,hL3,hL2,hL1]; rfl
 rw [hq]
 clear hq hL1 hL2 hL3 hL4 hL5 hL6 hL7 hL8
 simp only [go_sem,simprocAttr,xa,xb,xc,xd,rp0,rq0,m0,u0,rp1,rq1]
 refine Za (Zdn _ 16 (by decide) (by decide)) ?_
 simp only [go_sem,simprocAttr,xa,xb,xc,xd,rp1,m1,u1,rp2,rq2,m2,u2,rp3,rq3]
 refine Za (Zdn _ 12 (by decide) (by decide)) ?_
 simp only [go_sem,simprocAttr,xa,xb,xc,xd,rp3,m3,u3,rp4,rq4,m4,u4,rp5,rq5]
 refine Za (Zdn _ 8 (by decide) (by decide)) ?_
 simp only [go_sem,simprocAttr,xa,xb,xc,xd,rp5,m5,u5,rp6,rq6,m6,u6,rp7,rq7]
 refine Za (Zdn _ 7 (by decide) (by decide)) ?_
 simp only [go_sem,simprocAttr,xa,xb,xc,xd,rp7,m7,u7]
theorem Zbjr {G : Prog} {p : Post} {k : List Itm} {e : Env} {H : Heap} {c : ACode} {t b sz : Nat} {row : List Cell} (ht : e t = .c (.ptr b 0 0)) (hb : H[b]? = some { sz := sz,rows := [row],own := true,live := true })
  (hw : ∀ e',e' t = .c (.fp row 0) → (∀ s v,e s = v → Zp v = true → e' s = v) → Run G p (.code c :: k) e' (H.kill b)) : Run G p (.code (.fz t c) :: k) e H := by
 refine Zzc ⟨b,_,by rw [ht]; rfl,hb,rfl,rfl,hw _ ?_ fun s v hv hc => ?_⟩
 ·rw [Zea,ht,Zgq,Zqe rfl]
 ·rw [Zea,hv,Zfx hc]
set_option maxRecDepth 100000 in
set_option maxHeartbeats 16000000 in
theorem Z6w (key nonce : ByteArray) (ctr : Int) (hk : key.size = 32) (hn : nonce.size = 12) (hc0 : 0 ≤ ctr) (hc1 : ctr < 4294967296) : Pr 161 [sC key,sC nonce,iC ctr] (sC (baL (Zht key nonce ctr))) := by
 refine Zl mixed Z6f rfl fun hl T => ?_
 obtain ⟨res,hres⟩ : ∃ res,res = Zht key nonce ctr := ⟨_,rfl⟩
 have hrl : res.length = 64 := by rw [hres]; exact Zl9 _ _ _
 rw [← hres]
 have hts : (Ztz ++ key).size = 48 := by rw [ByteArray.size_append,hk]; rfl
 obtain ⟨text,htext⟩ : ∃ text,text = Ztz ++ key := ⟨_,rfl⟩
 rw [← htext] at hts
 have loopB : ∀ (rest : List (Int × Int)) (i : Nat) (pre : List UInt8) (w0 w : List Int) (e : Env) (H : Heap) (bl : Nat),i + rest.length = 16 → w0.length = 16 → w.length = 16 → (w0.zip w).drop i = rest → pre.length = 4 * i →
   e 8 = .c (.fp (w0.map wRow) 0) → e 11 = .c (.slc bl 0 16 1 false) → H[bl]? = some (wBlk w) → NB (e 15) bl → e 16 = iC i → Acc 1 (pre.map Zs) (e 15) H → pre ++ (rest.flatMap fun p => Ze2 (addW p.1 p.2)) = res →
   Run (Zt Tryz.prog T) ⟨[.tmp 6],fun u E => Zf E u = some (sC (baL res))⟩ [.loop Zky,.blk 10,.code Zph] e H := by
  intro rest
  induction rest with
  | nil =>
   intro i pre w0 w e H bl hi hw0 hw hd hpl h8 h11 hbl nb h16 hacc hv
   have hi : i = 16 := by simpa using hi
   subst hi
   have hc : ¬ (((16 : Nat) : Int) < 16) := by omega
   have hpr : pre = res := by simpa using hv
   subst hpr
   refine Zi ?_
   conv => enter [3,1]; unfold Zky
   simp only [go_sem,simprocAttr,h16,hc]
   unfold Zph
   have hb := hacc.b2sL
   simp only [go_sem,simprocAttr,hb]
   simp [Zf,Ze,Zk,Zg,Zh,Zd,Zc,Zb]
  | cons p rest ih =>
   intro i pre w0 w e H bl hi hw0 hw hd hpl h8 h11 hbl nb h16 hacc hv
   have hi16 : i < 16 := by simp at hi; omega
   have hc : ((i : Int) < 16) := by omega
   obtain ⟨x0,x1⟩ := p
   have hzl : i < (w0.zip w).length := by rw [List.length_zip,hw0,hw]; omega
   have hdd := List.drop_eq_getElem_cons hzl
   rw [hd] at hdd
   injection hdd with hd1 hd2
   rw [List.getElem_zip] at hd1
   injection hd1 with hx0 hx1
   have g0 : (w0.map wRow)[i]? = some (.int .u32 x0) := by rw [List.getElem?_map,List.getElem?_eq_getElem (by omega),← hx0]; rfl
   have g1 := Zq hbl (i := i) (x := x1) (by rw [List.getElem?_eq_getElem (by omega),← hx1])
   have hxi : ∀ H : Heap,vIx 1 (.c (.slc bl 0 16 1 false)) (iC (i : Int)) H = some (.c (.ptr bl i 0),H) := fun H => Zei hi16
   have hxa : ∀ (row : List Cell) (H : Heap),vIxA 16 1 (.c (.fp row 0)) (iC (i : Int)) H = some (.c (.fp row (0 + i)),H) := fun row H => Z3c hi16
   have hn1 : IntKind.wrap .i64 ((i : Int) + 1) = ((i + 1 : Nat) : Int) := by rw [Zn (by omega)]; omega
   have s8 : ∀ (a : Int) (ik : IntKind) (H : Heap),vBin .shr (.c (.int .u32 a)) (.c (.int ik 8)) H = some (.c (.int .u32 (shrW a 8)),H) := fun a ik H => Zci (by decide)
   have s16 : ∀ (a : Int) (ik : IntKind) (H : Heap),vBin .shr (.c (.int .u32 a)) (.c (.int ik 16)) H = some (.c (.int .u32 (shrW a 16)),H) := fun a ik H => Zci (by decide)
   have s24 : ∀ (a : Int) (ik : IntKind) (H : Heap),vBin .shr (.c (.int .u32 a)) (.c (.int ik 24)) H = some (.c (.int .u32 (shrW a 24)),H) := fun a ik H => Zci (by decide)
   obtain ⟨X,hX⟩ : ∃ X,X = addW x0 x1 := ⟨_,rfl⟩
   have hX' : addW x1 x0 = X := by rw [hX,Zfk]
   have bnd : ((pre.map Zs).length + 4) * 1 ≤ 140737488355328 := by simp; omega
   refine Zi ?_
   conv => enter [3,1]; unfold Zky
   simp only [go_sem,simprocAttr,h8,h11,h16,hc,hxi,hxa,g0,g1,hX',s8,s16,s24,Zeh]
   refine Acc.app_keep hacc bnd fun v' H' ha' keep => ?_
   obtain ⟨hb',nb'⟩ := keep bl _ nb hbl
   simp only [go_sem,simprocAttr,h16,hn1]
   refine ih (i + 1) (pre ++ Ze2 X) w0 w _ _ bl (by simp at hi; omega) hw0 hw hd2.symm (by simp [Ze2]; omega) ?_ ?_ hb' ?_ ?_ ?_ ?_
   ·simp only [go_sem,simprocAttr,h8]
   ·simp only [go_sem,simprocAttr,h11]
   ·simp only [go_sem,simprocAttr]; exact nb'
   ·simp only [go_sem,simprocAttr,hn1]
   ·simp only [go_sem,simprocAttr]; rw [List.map_append]; exact ha'
   ·rw [← hv,hX]; simp
 have loopR : ∀ (n i : Nat) (l w0 : List Int) (e : Env) (H : Heap) (bl : Nat),i + n = 10 → l.length = 16 → w0.length = 16 → (Zoc w0 (Zfe n l)).flatMap Ze2 = res →
   e 8 = .c (.fp (w0.map wRow) 0) → e 11 = .c (.slc bl 0 16 1 false) → H[bl]? = some (wBlk l) → e 12 = iC i →
   Run (Zt Tryz.prog T) ⟨[.tmp 6],fun u E => Zf E u = some (sC (baL res))⟩ [.loop Zkt,.blk 4,.code Zpb] e H := by
  intro n
  induction n with
  | zero =>
   intro i l w0 e H bl hi hl16 hw0 hv h8 h11 hbl h12
   have hc : ¬ ((i : Int) < 10) := by omega
   refine Zi ?_
   conv => enter [3,1]; unfold Zkt
   simp only [go_sem,simprocAttr,h12,hc]
   unfold Zpb
   simp only [go_sem,simprocAttr]
   refine loopB (w0.zip l) 0 [] w0 l _ _ bl (by rw [List.length_zip,hw0,hl16]; rfl) hw0 hl16 (by rw [List.drop_zero]) rfl ?_ ?_ hbl ?_ ?_ ?_ ?_
   ·simp only [go_sem,simprocAttr,h8]
   ·simp only [go_sem,simprocAttr,h11]
   ·simp only [go_sem,simprocAttr]; intro n s q z e; cases e
   ·first | (simp only [go_sem,simprocAttr]; done) | (simp only [go_sem,simprocAttr]; rfl)
   ·simp only [go_sem,simprocAttr]; exact .nil
   ·rw [← hv]
    unfold Zoc Zfe
    rw [List.nil_append,List.flatMap_map]
  | succ n ih =>
   intro i l w0 e H bl hi hl16 hw0 hv h8 h11 hbl h12
   have hc : ((i : Int) < 10) := by omega
   have hn1 : IntKind.wrap .i64 ((i : Int) + 1) = ((i + 1 : Nat) : Int) := by rw [Zn (by omega)]; omega
   obtain ⟨l1,hl1⟩ : ∃ m,m = Zbj l 0 4 8 12 := ⟨_,rfl⟩
   have n1 : l1.length = 16 := by rw [hl1,Zb2]; exact hl16
   have q1 := Zdx (H := H) (bl := bl) (l := l) (a := 0) (b := 4) (c := 8) (d := 12) hbl hl16 (by omega) (by omega) (by omega) (by omega)
   rw [← hl1] at q1
   have h_1 : (H.set bl (wBlk l1))[bl]? = some (wBlk l1) := Zw hbl
   obtain ⟨l2,hl2⟩ : ∃ m,m = Zbj l1 1 5 9 13 := ⟨_,rfl⟩
   have n2 : l2.length = 16 := by rw [hl2,Zb2]; exact n1
   have q2 := Zdx (H := (H.set bl (wBlk l1))) (bl := bl) (l := l1) (a := 1) (b := 5) (c := 9) (d := 13) h_1 n1 (by omega) (by omega) (by omega) (by omega)
   rw [← hl2,Zbt] at q2
   have h_2 : (H.set bl (wBlk l2))[bl]? = some (wBlk l2) := Zw hbl
   obtain ⟨l3,hl3⟩ : ∃ m,m = Zbj l2 2 6 10 14 := ⟨_,rfl⟩
   have n3 : l3.length = 16 := by rw [hl3,Zb2]; exact n2
   have q3 := Zdx (H := (H.set bl (wBlk l2))) (bl := bl) (l := l2) (a := 2) (b := 6) (c := 10) (d := 14) h_2 n2 (by omega) (by omega) (by omega) (by omega)
   rw [← hl3,Zbt] at q3
   have h_3 : (H.set bl (wBlk l3))[bl]? = some (wBlk l3) := Zw hbl
   obtain ⟨l4,hl4⟩ : ∃ m,m = Zbj l3 3 7 11 15 := ⟨_,rfl⟩
   have n4 : l4.length = 16 := by rw [hl4,Zb2]; exact n3
   have q4 := Zdx (H := (H.set bl (wBlk l3))) (bl := bl) (l := l3) (a := 3) (b := 7) (c := 11) (d := 15) h_3 n3 (by omega) (by omega) (by omega) (by omega)
   rw [← hl4,Zbt] at q4
   have h_4 : (H.set bl (wBlk l4))[bl]? = some (wBlk l4) := Zw hbl
   obtain ⟨l5,hl5⟩ : ∃ m,m = Zbj l4 0 5 10 15 := ⟨_,rfl⟩
   have n5 : l5.length = 16 := by rw [hl5,Zb2]; exact n4
   have q5 := Zdx (H := (H.set bl (wBlk l4))) (bl := bl) (l := l4) (a := 0) (b := 5) (c := 10) (d := 15) h_4 n4 (by omega) (by omega) (by omega) (by omega)
   rw [← hl5,Zbt] at q5
   have h_5 : (H.set bl (wBlk l5))[bl]? = some (wBlk l5) := Zw hbl
   obtain ⟨l6,hl6⟩ : ∃ m,m = Zbj l5 1 6 11 12 := ⟨_,rfl⟩
   have n6 : l6.length = 16 := by rw [hl6,Zb2]; exact n5
   have q6 := Zdx (H := (H.set bl (wBlk l5))) (bl := bl) (l := l5) (a := 1) (b := 6) (c := 11) (d := 12) h_5 n5 (by omega) (by omega) (by omega) (by omega)
   rw [← hl6,Zbt] at q6
   have h_6 : (H.set bl (wBlk l6))[bl]? = some (wBlk l6) := Zw hbl
   obtain ⟨l7,hl7⟩ : ∃ m,m = Zbj l6 2 7 8 13 := ⟨_,rfl⟩
   have n7 : l7.length = 16 := by rw [hl7,Zb2]; exact n6
   have q7 := Zdx (H := (H.set bl (wBlk l6))) (bl := bl) (l := l6) (a := 2) (b := 7) (c := 8) (d := 13) h_6 n6 (by omega) (by omega) (by omega) (by omega)
   rw [← hl7,Zbt] at q7
   have h_7 : (H.set bl (wBlk l7))[bl]? = some (wBlk l7) := Zw hbl
   obtain ⟨l8,hl8⟩ : ∃ m,m = Zbj l7 3 4 9 14 := ⟨_,rfl⟩
   have n8 : l8.length = 16 := by rw [hl8,Zb2]; exact n7
   have q8 := Zdx (H := (H.set bl (wBlk l7))) (bl := bl) (l := l7) (a := 3) (b := 4) (c := 9) (d := 14) h_7 n7 (by omega) (by omega) (by omega) (by omega)
   rw [← hl8,Zbt] at q8
   have h_8 : (H.set bl (wBlk l8))[bl]? = some (wBlk l8) := Zw hbl
   have hround : Znj l = l8 := by
    unfold Znj
    rw [← hl1,← hl2,← hl3,← hl4,← hl5,← hl6,← hl7,← hl8]
   rw [Zfe,hround] at hv
   clear hl1 hl2 hl3 hl4 hl5 hl6 hl7 hl8 hround
   refine Zi ?_
   conv => enter [3,1]; unfold Zkt
   simp only [go_sem,simprocAttr,h12,hc]
   refine Zi ?_
   conv => enter [3,1]; unfold Zgy
   simp only [go_sem,simprocAttr,h11,Zbl,Zbr,Zbs,Zbo,Zbp,Zbz,Zbx,Zbw,Zbq,Zby,Zbe,Zbb,Zbd,Zba,Z7,Zbc]
   refine Z3 q1 (fun h => by cases h) ?_
   simp only [go_sem,simprocAttr,Zbl,Zbr,Zbs,Zbo,Zbp,Zbz,Zbx,Zbw,Zbq,Zby,Zbe,Zbb,Zbd,Zba,Z7,Zbc]
   refine Zi ?_
   conv => enter [3,1]; unfold Zgy
   simp only [go_sem,simprocAttr,h11,Zbl,Zbr,Zbs,Zbo,Zbp,Zbz,Zbx,Zbw,Zbq,Zby,Zbe,Zbb,Zbd,Zba,Z7,Zbc]
   refine Z3 q2 (fun h => by cases h) ?_
   simp only [go_sem,simprocAttr,Zbl,Zbr,Zbs,Zbo,Zbp,Zbz,Zbx,Zbw,Zbq,Zby,Zbe,Zbb,Zbd,Zba,Z7,Zbc]
   refine Zi ?_
   conv => enter [3,1]; unfold Zgy
   simp only [go_sem,simprocAttr,h11,Zbl,Zbr,Zbs,Zbo,Zbp,Zbz,Zbx,Zbw,Zbq,Zby,Zbe,Zbb,Zbd,Zba,Z7,Zbc]
   refine Z3 q3 (fun h => by cases h) ?_
   simp only [go_sem,simprocAttr,Zbl,Zbr,Zbs,Zbo,Zbp,Zbz,Zbx,Zbw,Zbq,Zby,Zbe,Zbb,Zbd,Zba,Z7,Zbc]
   refine Zi ?_
   conv => enter [3,1]; unfold Zgy
   simp only [go_sem,simprocAttr,h11,Zbl,Zbr,Zbs,Zbo,Zbp,Zbz,Zbx,Zbw,Zbq,Zby,Zbe,Zbb,Zbd,Zba,Z7,Zbc]
   refine Z3 q4 (fun h => by cases h) ?_
   simp only [go_sem,simprocAttr,Zbl,Zbr,Zbs,Zbo,Zbp,Zbz,Zbx,Zbw,Zbq,Zby,Zbe,Zbb,Zbd,Zba,Z7,Zbc]
   refine Zi ?_
   conv => enter [3,1]; unfold Zgy
   simp only [go_sem,simprocAttr]
   unfold Zvx
   simp only [go_sem,simprocAttr]
   refine Zi ?_
   conv => enter [3,1]; unfold Zgz
   simp only [go_sem,simprocAttr,h11,Zdf,Zbl,Zbr,Zbs,Zbo,Zbp,Zbz,Zbx,Zbw,Zbq,Zby,Zbe,Zbb,Zbd,Zba,Z7,Zbc,Zo1,Zo2,Zog,Zoz,Zoj,Zos]
   refine Z3 q5 (fun h => by cases h) ?_
   simp only [go_sem,simprocAttr,Zbl,Zbr,Zbs,Zbo,Zbp,Zbz,Zbx,Zbw,Zbq,Zby,Zbe,Zbb,Zbd,Zba,Z7,Zbc]
   refine Zi ?_
   conv => enter [3,1]; unfold Zgz
   simp only [go_sem,simprocAttr,h11,Zdf,Zbl,Zbr,Zbs,Zbo,Zbp,Zbz,Zbx,Zbw,Zbq,Zby,Zbe,Zbb,Zbd,Zba,Z7,Zbc,Zo1,Zo2,Zog,Zoz,Zoj,Zos]
   refine Z3 q6 (fun h => by cases h) ?_
   simp only [go_sem,simprocAttr,Zbl,Zbr,Zbs,Zbo,Zbp,Zbz,Zbx,Zbw,Zbq,Zby,Zbe,Zbb,Zbd,Zba,Z7,Zbc]
   refine Zi ?_
   conv => enter [3,1]; unfold Zgz
   simp only [go_sem,simprocAttr,h11,Zdf,Zbl,Zbr,Zbs,Zbo,Zbp,Zbz,Zbx,Zbw,Zbq,Zby,Zbe,Zbb,Zbd,Zba,Z7,Zbc,Zo1,Zo2,Zog,Zoz,Zoj,Zos]
   refine Z3 q7 (fun h => by cases h) ?_
   simp only [go_sem,simprocAttr,Zbl,Zbr,Zbs,Zbo,Zbp,Zbz,Zbx,Zbw,Zbq,Zby,Zbe,Zbb,Zbd,Zba,Z7,Zbc]
   refine Zi ?_
   conv => enter [3,1]; unfold Zgz
   simp only [go_sem,simprocAttr,h11,Zdf,Zbl,Zbr,Zbs,Zbo,Zbp,Zbz,Zbx,Zbw,Zbq,Zby,Zbe,Zbb,Zbd,Zba,Z7,Zbc,Zo1,Zo2,Zog,Zoz,Zoj,Zos]
   refine Z3 q8 (fun h => by cases h) ?_
   simp only [go_sem,simprocAttr,Zbl,Zbr,Zbs,Zbo,Zbp,Zbz,Zbx,Zbw,Zbq,Zby,Zbe,Zbb,Zbd,Zba,Z7,Zbc]
   refine Zi ?_
   conv => enter [3,1]; unfold Zgz
   simp only [go_sem,simprocAttr]
   unfold Zvp
   simp only [go_sem,simprocAttr,h12,hn1]
   refine ih (i + 1) l8 w0 _ _ bl (by omega) n8 hw0 hv ?_ ?_ h_8 ?_
   ·simp only [go_sem,simprocAttr,h8]
   ·simp only [go_sem,simprocAttr,h11]
   ·simp only [go_sem,simprocAttr,hn1]
 have loop0 : ∀ (m i : Nat) (R : List Int) (e : Env),i + m = 12 → R = lesW text i ++ List.replicate (16 - i) 0 → e 1 = sC nonce → e 2 = iC ctr → e 7 = sC text → e 8 = .c (.ptr 0 0 0) → e 9 = iC i →
   Run (Zt Tryz.prog T) ⟨[.tmp 6],fun u E => Zf E u = some (sC (baL res))⟩ [.loop Zko,.blk 0,.code Zn1] e [aBlk 16 R] := by
  intro m
  induction m with
  | zero =>
   intro i R e hi hR h1 h2 h7 h8 h9
   have hi : i = 12 := by omega
   subst hi
   have hc : ¬ (((12 : Nat) : Int) < 12) := by omega
   have hT := Zm8 text 12
   have hres' : (Zoc (Ziw key nonce ctr) (Zfe 10 (Ziw key nonce ctr))).flatMap Ze2 = res := hres.symm
   have hiw : Ziw key nonce ctr = lesW text 12 ++ [IntKind.wrap .u32 ctr,leW nonce 0,leW nonce 4,leW nonce 8] := by unfold Ziw; rw [← htext]; rfl
   rw [hiw] at hres'
   obtain ⟨T12,hT12⟩ : ∃ T12,T12 = lesW text 12 := ⟨_,rfl⟩
   rw [← hT12] at hT hR hres'
   have hR : R = T12 ++ [0,0,0,0] := hR
   subst hR
   have x12 : ∀ H : Heap,vIxA 16 1 (.c (.ptr 0 0 0)) (iC 12) H = some (.c (.ptr 0 0 12),H) := fun H => rfl
   have x13 : ∀ H : Heap,vIxA 16 1 (.c (.ptr 0 0 0)) (iC 13) H = some (.c (.ptr 0 0 13),H) := fun H => rfl
   have x14 : ∀ H : Heap,vIxA 16 1 (.c (.ptr 0 0 0)) (iC 14) H = some (.c (.ptr 0 0 14),H) := fun H => rfl
   have x15 : ∀ H : Heap,vIxA 16 1 (.c (.ptr 0 0 0)) (iC 15) H = some (.c (.ptr 0 0 15),H) := fun H => rfl
   have p12 := Zfd (pre := T12) (post := [0,0,0]) (i := 12) hT 0 (IntKind.wrap .u32 ctr)
   have l12 := Zf9 (pre := T12) (post := [0,0,0]) (i := 12) hT 0
   have e12 : T12 ++ IntKind.wrap .u32 ctr :: [0,0,0] = (T12 ++ [IntKind.wrap .u32 ctr]) ++ 0 :: [0,0] := by simp
   have p13 := Zfd (pre := T12 ++ [IntKind.wrap .u32 ctr]) (post := [0,0]) (i := 13) (by simp [hT]) 0 (leW nonce 0)
   have l13 := Zf9 (pre := T12 ++ [IntKind.wrap .u32 ctr]) (post := [0,0]) (i := 13) (by simp [hT]) 0
   have e13 : (T12 ++ [IntKind.wrap .u32 ctr]) ++ leW nonce 0 :: [0,0] = (T12 ++ [IntKind.wrap .u32 ctr,leW nonce 0]) ++ 0 :: [0] := by simp
   have p14 := Zfd (pre := T12 ++ [IntKind.wrap .u32 ctr,leW nonce 0]) (post := [0]) (i := 14) (by simp [hT]) 0 (leW nonce 4)
   have l14 := Zf9 (pre := T12 ++ [IntKind.wrap .u32 ctr,leW nonce 0]) (post := [0]) (i := 14) (by simp [hT]) 0
   have e14 : (T12 ++ [IntKind.wrap .u32 ctr,leW nonce 0]) ++ leW nonce 4 :: [0] = (T12 ++ [IntKind.wrap .u32 ctr,leW nonce 0,leW nonce 4]) ++ 0 :: [] := by simp
   have p15 := Zfd (pre := T12 ++ [IntKind.wrap .u32 ctr,leW nonce 0,leW nonce 4]) (post := []) (i := 15) (by simp [hT]) 0 (leW nonce 8)
   have l15 := Zf9 (pre := T12 ++ [IntKind.wrap .u32 ctr,leW nonce 0,leW nonce 4]) (post := []) (i := 15) (by simp [hT]) 0
   have e15 : (T12 ++ [IntKind.wrap .u32 ctr,leW nonce 0,leW nonce 4]) ++ leW nonce 8 :: [] = T12 ++ [IntKind.wrap .u32 ctr,leW nonce 0,leW nonce 4,leW nonce 8] := by simp
   rw [e12] at p12
   rw [e13] at p13
   rw [e14] at p14
   rw [e15] at p15
   have c0 : Pr 191 [sC nonce,iC 0] (wC (leW nonce 0)) := Zof nonce 0 (by omega) (by omega)
   have c4 : Pr 191 [sC nonce,iC 4] (wC (leW nonce 4)) := Zof nonce 4 (by omega) (by omega)
   have c8 : Pr 191 [sC nonce,iC 8] (wC (leW nonce 8)) := Zof nonce 8 (by omega) (by omega)
   have hIl : (T12 ++ [IntKind.wrap .u32 ctr,leW nonce 0,leW nonce 4,leW nonce 8]).length = 16 := by simp [hT]
   generalize leW nonce 0 = n0 at *
   generalize leW nonce 4 = n4 at *
   generalize leW nonce 8 = n8 at *
   generalize hcw : IntKind.wrap .u32 ctr = cw at *
   refine Zi ?_
   conv => enter [3,1]; unfold Zko
   simp only [go_sem,simprocAttr,h9,hc]
   unfold Zn1
   simp only [go_sem,simprocAttr,h2,h8,hcw,x12,l12,p12]
   refine Zi ?_
   conv => enter [3,1]; unfold Zim
   simp only [go_sem,simprocAttr,h1,h8,Zbl,Zbr,Zbs,Zbo,Zbp,Zbz,Zbx,Zbw,Zbq,Zby,Zbe,Zbb,Zbd,Zba,Z7,Zbc]
   refine Za c0 ?_
   simp only [go_sem,simprocAttr,h8,x13,l13,p13,Zbl,Zbr,Zbs,Zbo,Zbp,Zbz,Zbx,Zbw,Zbq,Zby,Zbe,Zbb,Zbd,Zba,Z7,Zbc]
   refine Zi ?_
   conv => enter [3,1]; unfold Zim
   simp only [go_sem,simprocAttr,h1,h8,Zbl,Zbr,Zbs,Zbo,Zbp,Zbz,Zbx,Zbw,Zbq,Zby,Zbe,Zbb,Zbd,Zba,Z7,Zbc]
   refine Za c4 ?_
   simp only [go_sem,simprocAttr,h8,x14,l14,p14,Zbl,Zbr,Zbs,Zbo,Zbp,Zbz,Zbx,Zbw,Zbq,Zby,Zbe,Zbb,Zbd,Zba,Z7,Zbc]
   refine Zi ?_
   conv => enter [3,1]; unfold Zim
   simp only [go_sem,simprocAttr,h1,h8,Zbl,Zbr,Zbs,Zbo,Zbp,Zbz,Zbx,Zbw,Zbq,Zby,Zbe,Zbb,Zbd,Zba,Z7,Zbc]
   refine Za c8 ?_
   simp only [go_sem,simprocAttr,h8,x15,l15,p15,Zbl,Zbr,Zbs,Zbo,Zbp,Zbz,Zbx,Zbw,Zbq,Zby,Zbe,Zbb,Zbd,Zba,Z7,Zbc]
   refine Zi ?_
   conv => enter [3,1]; unfold Zim
   simp only [go_sem,simprocAttr]
   unfold Zte
   generalize T12 ++ [cw,n0,n4,n8] = I at hIl hres' ⊢
   refine Zbjr (b := 0) (sz := 16) (row := I.map wRow) (by simp only [go_sem,simprocAttr,h8]) rfl fun e' k8 kc => ?_
   clear kc
   have hsla : ∀ H : Heap,vSlA 16 1 (.c (.fp (I.map wRow) 0)) H = some (.c (.lst 1 (I.map wR)),H) := fun H => by
    have hIm : (I.map wRow).length = 16 := by rw [List.length_map]; exact hIl
    have := Z74 (I.map wRow)
    rw [hIm] at this
    rw [Zbgx,if_pos (by rw [hIm]; omega),this,List.map_map]
    rfl
   have happ : ∀ H : Heap,Zer 1 4 (.c (.zer 1)) (.c (.lst 1 (I.map wR))) H = some (.c (.slc H.length 0 16 1 false),H ++ [wBlk I]) := fun H => by
    have hIm : (I.map wR).length = 16 := by rw [List.length_map]; exact hIl
    simp only [Zer,Zc2,Heap.rowsOf,Zbi,beq_self_eq_true,if_true,hIm]
    rfl
   obtain ⟨H1,hH1⟩ : ∃ H1 : Heap,H1 = Heap.kill [aBlk 16 I] 0 := ⟨_,rfl⟩
   rw [← hH1]
   simp only [go_sem,simprocAttr,k8,hsla,happ]
   refine loopR 10 0 I I _ _ H1.length rfl hIl hIl hres' ?_ ?_ (by simp) ?_
   ·simp only [go_sem,simprocAttr,k8]
   ·simp only [go_sem,simprocAttr]
   ·first | (simp only [go_sem,simprocAttr]; done) | (simp only [go_sem,simprocAttr]; rfl)
  | succ m ih =>
   intro i R e hi hR h1 h2 h7 h8 h9
   have hc : ((i : Int) < 12) := by omega
   have hR2 : R = lesW text i ++ 0 :: List.replicate (15 - i) 0 := by
    rw [hR,show 16 - i = (15 - i) + 1 by omega]; rfl
   have hpre := Zm8 text i
   have hnext : lesW text i ++ [leW text (4 * i)] = lesW text (i + 1) := (Z0q text i).symm
   have cw := Zof text (4 * i) (by omega) (by omega)
   obtain ⟨pre,hp⟩ : ∃ pre,pre = lesW text i := ⟨_,rfl⟩
   obtain ⟨post,hpo⟩ : ∃ post : List Int,post = List.replicate (15 - i) 0 := ⟨_,rfl⟩
   rw [← hp] at hpre hnext hR2
   rw [← hpo] at hR2
   subst hR2
   have hput := Zfd (post := post) hpre 0 (leW text (4 * i))
   have hlen := Zf9 (post := post) hpre 0
   have xn : ∀ H : Heap,vIxA 16 1 (.c (.ptr 0 0 0)) (iC (i : Int)) H = some (.c (.ptr 0 0 (0 + i)),H) := fun H => Zcb (by omega)
   have w4 : IntKind.wrap .i64 (4 * (i : Int)) = ((4 * i : Nat) : Int) := by rw [Zn (by omega)]; omega
   have hn1 : IntKind.wrap .i64 ((i : Int) + 1) = ((i + 1 : Nat) : Int) := by rw [Zn (by omega)]; omega
   refine Zi ?_
   conv => enter [3,1]; unfold Zko
   simp only [go_sem,simprocAttr,h7,h9,hc,w4]
   refine Za cw ?_
   simp only [go_sem,simprocAttr,h8,h9,xn,hlen,hput,hn1]
   refine ih (i + 1) _ _ (by omega) ?_ ?_ ?_ ?_ ?_ ?_
   ·rw [show 16 - (i + 1) = 15 - i by omega,← hnext,← hpo,List.append_assoc]; rfl
   ·simp only [go_sem,simprocAttr,h1]
   ·simp only [go_sem,simprocAttr,h2]
   ·simp only [go_sem,simprocAttr,h7]
   ·simp only [go_sem,simprocAttr,h8]
   ·simp only [go_sem,simprocAttr,hn1]
 have hcat : ∀ H : Heap,vBin .add (.c (.str ⟨#[101,120,112,97,110,100,32,51,50,45,98,121,116,101,32,107]⟩)) (sC key) H = some (sC text,H) := fun H => by
  rw [htext]
  exact Zgj (by rw [hk]; decide)
 have g1 : (key.size : Int) = 32 := by omega
 have g2 : (nonce.size : Int) = 12 := by omega
 have g3 : ¬ (ctr < 0) := by omega
 have g4 : ¬ ((4294967296 : Int) ≤ ctr) := by omega
 unfold Zza
 simp only [go_sem,simprocAttr,g1,g2,g3,g4,hcat]
 refine loop0 12 0 (List.replicate 16 0) _ rfl rfl ?_ ?_ ?_ ?_ ?_
 all_goals first | (simp only [go_sem,simprocAttr]; done) | (simp only [go_sem,simprocAttr]; rfl)
end Go.Proofs.YticmfblfghdkbaaGreatDoor.Eng
