/- The law WrapOpensCard, for every input that its row lets in: it answers true, and its arguments read as they did. What stands ahead of it in this folder are its parts. -/
import Derived.Test.YticmfblfghdkbaaGreatDoorY27
import Derived.Test.YticmfblfghdkbaaGreatDoorRows
import Derived.ProofKit
import Derived.OpenShut
import Derived.ShutString
import Derived.ChangeOld
import Derived.Carry
import Derived.SizedLaws
import Derived.LaidLaws
import Derived.LaidHandle
import Derived.ChangeSame
import Derived.ChangeVars
import Derived.JoinedOf
import Derived.SevenTiedAt
import Derived.Stop.Joined
import Derived.Lay
import Derived.Test.YticmfblfghdkbaaGreatDoorTie
import Derived.Test.YticmfblfghdkbaaGreatDoorCards
set_option linter.unusedVariables false
set_option linter.unusedSimpArgs false
namespace Go.Proofs.YticmfblfghdkbaaGreatDoor.Eng
open Go
def Wrp.ok (w : Wrp) : Prop := w.box.size ≤ maxLen
def Rec.ok (r : Rec) : Prop := r.prev.size ≤ maxLen ∧ r.tag.size ≤ maxLen ∧ r.wraps.length ≤ maxLen ∧ ∀ w ∈ r.wraps,w.ok
def EKey.ok (k : EKey) : Prop := k.key.size ≤ maxLen
theorem Z1b (n : Int) : Pr 19 [iC n] (iC n) := by
 refine Zl mixed Zbc8 rfl fun hl T => ?_
 unfold Z4s
 simp only [go_sem,simprocAttr]
 simp [Zf,Ze,Zk,Zg,Zh,Zd,Zc,Zb]
abbrev exS : ByteArray := ⟨#[115]⟩
abbrev exM : ByteArray := ⟨#[109]⟩
theorem Zv3 (secret master : ByteArray) (log : List Rec) (kind dev : Int) : ∀ w ∈ (Zbx secret master log kind dev).wraps,w.box.size = 48 := fun w hw => by
 rw [Zq7] at hw
 obtain ⟨m,_,rfl⟩ := List.mem_map.1 hw
 exact Znr _ _
theorem Z3y : Pr 15 [] (bC true) := by
 have z1 : Zb4 [] 2 1 = 1 := by decide
 have r1 : Zco exS exM [] 2 1 = Zrt := by unfold Zco; rw [if_neg (by rw [z1]; omega)]
 have m1 := Ztk exS exM [] 2 1 (by decide) (by decide) (by simp)
 rw [z1,r1] at m1
 have r2 : Zco exS exM [] 1 0 = Zbx exS exM [] 1 0 := by unfold Zco; rw [if_pos Zhv]
 have m2 := Ztk exS exM [] 1 0 (by decide) (by decide) (by simp)
 rw [Zhv,r2] at m2
 have m1' : Pr 17 [sC exS,sC exM,.c .nilS,iC 2,iC 1] (.tup [.agg Zrt.cells,iC 1]) := m1.wk (.cons (.same _) (.cons (.same _) (.cons (.c (.nilS _)) (.cons (.same _) (.cons (.same _) .nil)))))
 have m2' : Pr 17 [sC exS,sC exM,.c .nilS,iC 1,iC 0] (.tup [.agg (Zbx exS exM [] 1 0).cells,iC 0]) := m2.wk (.cons (.same _) (.cons (.same _) (.cons (.c (.nilS _)) (.cons (.same _) (.cons (.same _) .nil)))))
 have hch : Chain exS exM [Zbx exS exM [] 1 0] := .snoc .nil Zhv
 have hmem := hch.zero (by simp)
 have hop := Z1q (secret := exS) (master := exM) Zhv 0
 have hl : (([] : List Rec).length : Int) + 1 = 1 := by decide
 have hl1 : (([Zbx exS exM [] 1 0] : List Rec).length : Int) = 1 := rfl
 rw [hl1] at hmem
 rw [hl,List.nil_append,if_pos hmem] at hop
 have hown := Zru exM 0 (by decide) (by omega)
 have hopn := Zuj (ownK exM 0) (Zbx exS exM [] 1 0) 0 (by rw [Zon]; omega) (fun w hw => by rw [Zv3 _ _ _ _ _ w hw]; omega)
 rw [hop] at hopn
 have hep := Zj3 exS 1 (by decide) (by omega)
 have hcl := Rec.closed (Zbx exS exM [] 1 0)
 have n0 : ((0 : Nat) : Int) = 0 := rfl
 have n1 : ((1 : Nat) : Int) = 1 := rfl
 rw [n0] at hown
 rw [n1] at hep
 have num1 := Z1b 1
 have num0 := Z1b 0
 generalize Zcb exS 1 = ek at hopn hep
 generalize ownK exM 0 = ok at hown hopn
 clear hop hmem hch m1 m2 r1 r2
 generalize Zbx exS exM [] 1 0 = R at *
 refine Zl mixed Z3d rfl fun hl T => ?_
 unfold Zwn
 obtain ⟨seq,prev,kind,dv,wraps,tag⟩ := R
 simp only [Rec.cells,Zrt,Z5,List.map_nil] at m1' m2' hopn hcl
 simp only [go_sem,simprocAttr]
 refine Za m1' ?_
 simp only [go_sem,simprocAttr]
 refine Za m2' ?_
 simp only [go_sem,simprocAttr]
 refine Za hown ?_
 simp only [go_sem,simprocAttr]
 refine Za hopn ?_
 simp only [go_sem,simprocAttr,optS,Option.isSome,Option.getD]
 refine Za num1 ?_
 simp only [go_sem,simprocAttr]
 refine Za num0 ?_
 simp only [go_sem,simprocAttr]
 refine Za hep ?_
 simp only [go_sem,simprocAttr]
 simp [Zf,Ze,Zk,Zg,Zh,Zd,Zc,Zb]
theorem Zxe (a b : Nat) : (a : Int).tmod (b : Int) = ((a % b : Nat) : Int) := by rw [Int.tmod_eq_emod_of_nonneg (by omega)]; omega
theorem Zbgm (a b : Nat) : (a : Int).tdiv (b : Int) = ((a / b : Nat) : Int) := by rw [Int.tdiv_eq_ediv_of_nonneg (by omega)]; omega
abbrev u8sC (us : List UInt8) : Cell := .lst 1 (us.map Zr)
theorem Zrp (us : List UInt8) : closedR (us.map Zr) = true := Zcf (f := Zr) (fun _ => rfl) us
theorem Zvj (us : List UInt8) (n : Nat) (h0 : 0 < n) (hn : n ≤ 1000) (hul : us.length ≤ 9223372036854775807) : ∃ s : ByteArray,s.size = n ∧ Pr 22 [.c (u8sC us),iC n] (sC s) := by
 have main := Zbhx mixed Z7e (args := [.c (u8sC us),iC n]) (by simp [Zq,Zp,Zc,Zrp]) (R := fun v => ∃ s : ByteArray,v = sC s ∧ s.size = n) fun T => by
  unfold Zxh
  have hmk := mkN n (by omega) (by omega)
  have hul' : ((us.map Zr).length : Int) = (us.length : Int) := by simp
  have loop : ∀ (d i : Nat) (l : List UInt8) (e : Env) (H : Heap),i + d = n → l.length = n → e 0 = .c (u8sC us) → e 1 = iC n → e 5 = .c (.slc 0 0 n 1 false) → e 6 = iC i → H[0]? = some (uBlk l) →
    Run (Zt Tryz.prog T) ⟨[.tmp 4],fun u E => ∃ v,Zf E u = some v ∧ ∃ s : ByteArray,v = sC s ∧ s.size = n⟩ [.loop Zky,.blk 0,.code Zpe] e H := by
   intro d
   induction d with
   | zero =>
    intro i l e H hi hl h0' h1 h5 h6 hH
    have hc : ¬ ((i : Int) < (n : Int)) := by omega
    have hb := Zqh hH hl h0
    refine Zi ?_
    conv => enter [3,1]; unfold Zky
    simp only [go_sem,simprocAttr,h1,h6,hc]
    unfold Zpe
    simp only [go_sem,simprocAttr,h5,hb]
    exact ⟨sC (baL l),by simp [Zf,Ze,Zk,Zg,Zh,Zd,Zc,Zb],baL l,rfl,by rw [Zc1]; exact hl⟩
   | succ d ih =>
    intro i l e H hi hl h0' h1 h5 h6 hH
    have hin : i < n := by omega
    have hc : ((i : Int) < (n : Int)) := by omega
    have hx : ∀ H : Heap,vIx 1 (.c (.slc 0 0 n 1 false)) (iC (i : Int)) H = some (.c (.ptr 0 i 0),H) := fun H => Zd4 (by omega)
    have wi : IntKind.wrap .i64 ((i : Int) + 1) = ((i + 1 : Nat) : Int) := by rw [Zn (by omega)]; omega
    obtain ⟨z,hz⟩ : ∃ z,l[i]? = some z := ⟨_,List.getElem?_eq_getElem (by omega)⟩
    have hrow := Znm hH hz
    have hmine : Heap.mine H 0 = true := Zbz hH rfl rfl
    have hput := Zne hH (i := i) (x := b8 i)
    refine Zi ?_
    conv => enter [3,1]; unfold Zky
    by_cases hu : us = []
    ·have hpos : ¬ ((0 : Int) < (us.length : Int)) := by rw [hu]; simp
     simp only [go_sem,simprocAttr,h0',h1,h5,h6,hc,hx,hrow,hmine,Zdu,hput,hul',hpos,wi]
     refine ih (i + 1) (l.set i (b8 i)) _ _ (by omega) (by rw [List.length_set]; exact hl) ?_ ?_ ?_ ?_ (Zu hH)
     ·simp only [go_sem,simprocAttr,h0']
     ·simp only [go_sem,simprocAttr,h1]
     ·simp only [go_sem,simprocAttr,h5]
     ·simp only [go_sem,simprocAttr,wi]
    ·have hul0 : us.length ≠ 0 := fun e => hu (List.eq_nil_of_length_eq_zero e)
     have hpos : ((0 : Int) < (us.length : Int)) := by omega
     have hb0 : ¬ ((us.length : Int) = 0) := by omega
     have hrem := Zxe i us.length
     have hquo := Zbgm i us.length
     have hq1 : i / us.length ≤ i := Nat.div_le_self _ _
     have hwq : IntKind.wrap .i64 ((i / us.length : Nat) : Int) = ((i / us.length : Nat) : Int) := by
      generalize i / us.length = q at hq1
      exact Zn (by omega)
     have hm : i % us.length < us.length := Nat.mod_lt _ (by omega)
     obtain ⟨x,hxx⟩ : ∃ x,us[i % us.length]? = some x := ⟨_,List.getElem?_eq_getElem hm⟩
     have hux : (us.map Zr)[i % us.length]? = some [.int .u8 (x.toNat : Int)] := by rw [List.getElem?_map,hxx]; rfl
     have hH2 : (H.set 0 (uBlk (l.set i (b8 i))))[0]? = some (uBlk (l.set i (b8 i))) := Zu hH
     have hrow2 := Znm (x := b8 i) hH2 (by rw [List.getElem?_set_self (by omega)])
     have hmine2 : Heap.mine (H.set 0 (uBlk (l.set i (b8 i)))) 0 = true := Zbz hH2 rfl rfl
     have hput2 : ∀ v : Int,Heap.put (H.set 0 (uBlk (l.set i (b8 i)))) 0 i [.int .u8 ((b8 v).toNat : Int)] = (H.set 0 (uBlk (l.set i (b8 i)))).set 0 (uBlk ((l.set i (b8 i)).set i (b8 v))) := fun v => Zne hH2
     simp only [go_sem,simprocAttr,h0',h1,h5,h6,hc,hx,hrow,hmine,Zdu,hput,hul',hpos,hb0,hrem,hquo,hwq,hux,hrow2,hmine2,hput2,wi]
     refine ih (i + 1) _ _ _ (by omega) (by rw [List.length_set,List.length_set]; exact hl) ?_ ?_ ?_ ?_ (Zu hH2)
     ·simp only [go_sem,simprocAttr,h0']
     ·simp only [go_sem,simprocAttr,h1]
     ·simp only [go_sem,simprocAttr,h5]
     ·simp only [go_sem,simprocAttr,wi]
  simp only [go_sem,simprocAttr,hmk]
  refine loop n 0 (List.replicate n 0) _ _ (by omega) (by simp) ?_ ?_ ?_ ?_ rfl
  all_goals simp only [go_sem,simprocAttr,Int.natCast_zero,List.length_nil]
 obtain ⟨v,hv,s,rfl,hs⟩ := main
 exact ⟨s,hs,hv⟩
set_option maxHeartbeats 1000000 in
theorem Z9f (secret master : ByteArray) (us : List UInt8) (hs : secret.size ≤ 1000000) (hm : master.size ≤ 1000000) : Pr 16 [sC secret,sC master,.c (u8sC us)] (.c (Z7 (Zu3 secret master us))) := by
 have hmk := fun (log : List Rec) (kind dev : Int) (h : log.length ≤ 100000) => @Zv8 secret master log kind dev hs hm h
 have hin := fun (log : List Rec) (dev : Int) => Zln log log.length dev
 refine Zl mixed Z70 (by simp [Zq,Zp,Zc,Zrp]) fun hl T => ?_
 have hlen : us.length ≤ maxLen := by simp [Zgm,lenA,lenC] at hl; exact hl
 clear hl
 unfold Z08
 obtain ⟨R,hR⟩ : ∃ R,R = Z7 (Zu3 secret master us) := ⟨_,rfl⟩
 rw [← hR]
 have hul : ((us.map Zr).length : Int) = (us.length : Int) := by simp
 have m0 := Z6f secret master [] 1 0 hs hm (by simp)
 have m0' : Pr 30 [sC secret,sC master,.c .nilS,iC 1,iC 0] (.agg (Zlg (Zco secret master [] 1 0) (Zb4 [] 1 0))) := m0.wk (.cons (.same _) (.cons (.same _) (.cons (.c (.nilS _)) (.cons (.same _) (.cons (.same _) .nil)))))
 have tail : ∀ (log : List Rec) (e : Env) (H : Heap),Z7 log = R → log ≠ [] → Acc 6 (log.map Rec.cells) (e 7) H → Run (Zt Tryz.prog T) ⟨[.tmp 6],fun u E => Zf E u = some (.c R)⟩ [.code Zh8] e H := by
  intro log e H hlr hne ha
  unfold Zh8
  simp only [go_sem,simprocAttr]
  rw [← hlr]
  exact ha.view_ne (by simpa using hne) (Zb7 log)
 have loop : ∀ (rest pre : List UInt8) (log : List Rec) (e : Env) (H : Heap),us = pre ++ rest → Z7 (Zku secret master log rest) = R → log ≠ [] → log.length ≤ 8 → e 0 = sC secret → e 1 = sC master → e 2 = .c (u8sC us) → e 8 = iC pre.length → Acc 6 (log.map Rec.cells) (e 7) H →
   Run (Zt Tryz.prog T) ⟨[.tmp 6],fun u E => Zf E u = some (.c R)⟩ [.loop Zh5,.blk 0,.code Zh8] e H := by
  intro rest
  induction rest with
  | nil =>
   intro pre log e H hp hlr hne h8 h0 h1 h2 h8' ha
   have hc : ¬ ((pre.length : Int) < (us.length : Int)) := by rw [hp]; simp
   refine Zi ?_
   conv => enter [3,1]; unfold Zh5
   simp only [go_sem,simprocAttr,h2,h8',hul,hc]
   refine tail log _ _ hlr hne ?_
   simp only [go_sem,simprocAttr]
   exact ha
  | cons u rest ih =>
   intro pre log e H hp hlr hne h8 h0 h1 h2 h8' ha
   have hc : ((pre.length : Int) < (us.length : Int)) := by rw [hp]; simp; omega
   have hu : (us.map Zr)[pre.length]? = some [.int .u8 (u.toNat : Int)] := by rw [hp]; simp [Zr]
   have hn := Zcy hp hlen
   have hal := fun H' : Heap => ha.len (H' := H')
   have hll : ((log.map Rec.cells).length : Int) = (log.length : Int) := by simp
   unfold Zku at hlr
   refine Zi ?_
   conv => enter [3,1]; unfold Zh5
   by_cases c8 : log.length < 8
   ·have c8' : ((log.length : Int) < 8) := by omega
    rw [if_pos c8] at hlr
    have hdev : Zg3 u = 1 + ((u.toNat % 4 : Nat) : Int) := rfl
    have h4 : (u.toNat : Int).tmod 4 = ((u.toNat % 4 : Nat) : Int) := by
     have := Zxe u.toNat 4
     simpa using this
    have hu8 := u.toNat_lt
    have hw0 : IntKind.wrap .i64 (u.toNat : Int) = (u.toNat : Int) := Zn (by omega)
    have hw1 : IntKind.wrap .i64 ((u.toNat % 4 : Nat) : Int) = ((u.toNat % 4 : Nat) : Int) := Zn (by omega)
    have hw2 : IntKind.wrap .i64 (1 + ((u.toNat % 4 : Nat) : Int)) = 1 + ((u.toNat % 4 : Nat) : Int) := Zn (by omega)
    have hview := ha.view_ne (by simpa using hne) (Zb7 log)
    have hind := hin log (Zg3 u)
    rw [hdev] at hind hlr
    unfold Zqu at hlr
    simp only [Z7] at hind
    have hgo : ∀ (k : Int) (e' : Env),k = (if memL log log.length (1 + ((u.toNat % 4 : Nat) : Int)) = true then 2 else 1) → e' 0 = sC secret → e' 1 = sC master → e' 2 = .c (u8sC us) → e' 7 = e 7 → e' 8 = iC pre.length → e' 9 = iC (1 + ((u.toNat % 4 : Nat) : Int)) → e' 10 = iC k → True := fun _ _ _ _ _ _ _ _ _ _ => trivial
    have fin : ∀ (k : Int),k = (if memL log log.length (1 + ((u.toNat % 4 : Nat) : Int)) = true then 2 else 1) → CallSound Tryz.prog 30 ([sC secret,sC master,e 7,iC k,iC (1 + ((u.toNat % 4 : Nat) : Int))] ++ List.map AVal.c []) H (.agg (Zlg (Zco secret master log k (1 + ((u.toNat % 4 : Nat) : Int))) (Zb4 log k (1 + ((u.toNat % 4 : Nat) : Int))))) H := fun k _ =>
     hmk log k _ (by omega) (by simp [Zd,hview,Zf,Ze,Zk,Zc,Z7])
    clear hgo
    have step : ∀ (k ME : Int) (MR : Rec),Z7 (Zku secret master (log ++ [MR]) rest) = R → CallSound Tryz.prog 30 ([sC secret,sC master,e 7,iC k,iC (1 + ((u.toNat % 4 : Nat) : Int))] ++ List.map AVal.c []) H (.agg (Zlg MR ME)) H →
      ∀ (v' : AVal) (e' : Env) (H' : Heap),Acc 6 (log.map Rec.cells ++ [MR.cells]) v' H' → e' 0 = sC secret → e' 1 = sC master → e' 2 = .c (u8sC us) → e' 8 = iC ((pre ++ [u]).length : Int) → e' 7 = v' →
      Run (Zt Tryz.prog T) ⟨[.tmp 6],fun u E => Zf E u = some (.c R)⟩ [.loop Zh5,.blk 0,.code Zh8] e' H' := fun k ME MR hlr _ v' e' H' ha' g0 g1 g2 g8 g7 =>
     ih (pre ++ [u]) (log ++ [MR]) e' H' (by rw [hp]; simp) hlr (by simp) (by simp; omega) g0 g1 g2 g8 (by rw [g7,List.map_append]; exact ha')
    simp only [go_sem,simprocAttr,h2,h8',hul,hc,hal,hll,c8',hu,hw0,h4,hw1,hw2]
    refine Zfp hind (by simp [Zd,hview,Zf,Ze,Zk,Zc]) rfl ?_
    cases hmm : memL log log.length (1 + ((u.toNat % 4 : Nat) : Int)) with
    | true =>
     rw [hmm] at hlr fin
     simp only [if_true] at hlr fin
     have f2 := fin 2 rfl
     have st := step 2 _ _ hlr f2
     generalize Zb4 log 2 (1 + ((u.toNat % 4 : Nat) : Int)) = ME at f2
     generalize Zco secret master log 2 (1 + ((u.toNat % 4 : Nat) : Int)) = MR at f2 st
     have hcl := Rec.closed MR
     clear step fin hlr
     obtain ⟨seq,prev,kd,dv,wraps,tag⟩ := MR
     simp only [Zlg,Rec.cells,List.cons_append,List.nil_append] at f2 hcl st
     have hlt : ∀ H : Heap,mkF H (vLit 6 1 (some [[.int .i64 seq,.str prev,.int .i64 kd,.int .i64 dv,Z5 wraps,.str tag]]) H) = some (.c (.lst 6 [[.int .i64 seq,.str prev,.int .i64 kd,.int .i64 dv,Z5 wraps,.str tag]])) := fun H => Zhr hcl
     simp only [go_sem,simprocAttr,h0,h1]
     refine Z1 f2 (fun _ => List.prefix_refl _) ?_
     simp only [go_sem,simprocAttr,hlt]
     refine Acc.app_step ha (by simp; omega) fun v' H' ha' => ?_
     simp only [go_sem,simprocAttr,h8',hn]
     refine st v' _ _ ha' ?_ ?_ ?_ ?_ ?_
     all_goals simp only [go_sem,simprocAttr,h0,h1,h2,hn]
    | false =>
     rw [hmm] at hlr fin
     simp only [Bool.false_eq_true,if_false] at hlr fin
     have f2 := fin 1 rfl
     have st := step 1 _ _ hlr f2
     generalize Zb4 log 1 (1 + ((u.toNat % 4 : Nat) : Int)) = ME at f2
     generalize Zco secret master log 1 (1 + ((u.toNat % 4 : Nat) : Int)) = MR at f2 st
     have hcl := Rec.closed MR
     clear step fin hlr
     obtain ⟨seq,prev,kd,dv,wraps,tag⟩ := MR
     simp only [Zlg,Rec.cells,List.cons_append,List.nil_append] at f2 hcl st
     have hlt : ∀ H : Heap,mkF H (vLit 6 1 (some [[.int .i64 seq,.str prev,.int .i64 kd,.int .i64 dv,Z5 wraps,.str tag]]) H) = some (.c (.lst 6 [[.int .i64 seq,.str prev,.int .i64 kd,.int .i64 dv,Z5 wraps,.str tag]])) := fun H => Zhr hcl
     simp only [go_sem,simprocAttr,h0,h1]
     refine Z1 f2 (fun _ => List.prefix_refl _) ?_
     simp only [go_sem,simprocAttr,hlt]
     refine Acc.app_step ha (by simp; omega) fun v' H' ha' => ?_
     simp only [go_sem,simprocAttr,h8',hn]
     refine st v' _ _ ha' ?_ ?_ ?_ ?_ ?_
     all_goals simp only [go_sem,simprocAttr,h0,h1,h2,hn]
   ·have c8' : ¬ ((log.length : Int) < 8) := by omega
    rw [if_neg c8] at hlr
    simp only [go_sem,simprocAttr,h2,h8',hul,hc,hal,hll,c8']
    refine tail log _ _ hlr hne ?_
    simp only [go_sem,simprocAttr]
    exact ha
 have hst : ∀ (MR : Rec),Z7 (Zku secret master [MR] us) = R → ∀ (e' : Env) (H' : Heap),Acc 6 [MR.cells] (e' 7) H' → e' 0 = sC secret → e' 1 = sC master → e' 2 = .c (u8sC us) → e' 8 = iC 0 → Run (Zt Tryz.prog T) ⟨[.tmp 6],fun u E => Zf E u = some (.c R)⟩ [.loop Zh5,.blk 0,.code Zh8] e' H' := fun MR hlr e' H' ha' g0 g1 g2 g8 =>
  loop us [] [MR] e' H' rfl hlr (by simp) (by simp) g0 g1 g2 g8 ha'
 have hst' := hst (Zco secret master [] 1 0) hR.symm
 clear hst loop tail hR
 generalize Zb4 [] 1 0 = ME at m0'
 generalize Zco secret master [] 1 0 = MR at m0' hst'
 have hcl := Rec.closed MR
 obtain ⟨seq,prev,kd,dv,wraps,tag⟩ := MR
 simp only [Zlg,Rec.cells,List.cons_append,List.nil_append] at m0' hcl hst'
 simp only [go_sem,simprocAttr]
 refine Za m0' ?_
 have hlt : ∀ H : Heap,vLit 6 1 (some [[.int .i64 seq,.str prev,.int .i64 kd,.int .i64 dv,Z5 wraps,.str tag]]) H = some (.c (.slc H.length 0 1 6 false),H ++ [{ sz := 6,rows := [[.int .i64 seq,.str prev,.int .i64 kd,.int .i64 dv,Z5 wraps,.str tag]] }]) := fun _ => rfl
 simp only [go_sem,simprocAttr,hlt]
 refine hst' _ _ ?_ ?_ ?_ ?_ ?_
 ·simp only [go_sem,simprocAttr]
  exact Acc.last (H := [])
 all_goals simp only [go_sem,simprocAttr]
def Zga : ACode := .seq (.seq (.region [im 32 11,ii 33 (.bin .lss (.t 32) (ki 8))] false) (.cond (.t 33) .skip (.exit 0))) (.seq (.block 1 (.seq (.region [im 37 8,im 38 11,icl 39 24 [.t 37,.t 38],im 40 9,im 41 10,ixx 42 6 40 41,ii 43 (.load true 6 (.t 42)),im 44 11,icl 45 23 [.t 39,.t 43,.t 44],im 36 45,ii 46 (.ext (.t 36) 0),ii 47 (.ext (.t 36) 1),im 12 46,im 13 47] true) (.seq (.region [im 48 9,im 49 10,ii 50 (.bin .add (.t 49) (ki 1)),im 51 11,icl 52 18 [.t 48,.t 50,.t 51],im 14 52] false) (.seq (.region [im 53 13,im 54 14,ii 55 (.binB true (.t 53) (.t 54)),im 56 55,ig 57 (.mv (.t 14)) 56 false,ig 58 (.mv (.t 57)) 56 false,ig 59 (.mv (.t 12)) 58 true,ig 60 (.mv (.t 7)) 58 true,ig 61 (.mv (.t 10)) 58 true,ig 62 (.bin .add (.t 61) (ki 1)) 58 true,ig 63 (.call (.f 25) [.t 60,.t 62]) 58 true,ig 64 (.bin .neq (.t 59) (.t 63)) 58 true,ig 65 (.pick (.t 58) (.t 64) (.k (.c (.bool false)))) 56 false,ii 66 (.pick (.t 56) (.k (.c (.bool true))) (.t 65))] false) (.cond (.t 66) (.seq (.region [ii 6 (.mv (.k (.c (.bool false))))] false) .ret) .skip))))) (.region [im 34 11,ii 35 (.bin .add (.t 34) (ki 1)),im 11 35] false))
def Zi8 : ACode := .seq (.region [icl 67 15 [],im 6 67] false) .ret
def Zoj : AFun := ⟨[.tmp 6],.seq (.region [ii 6 (.mv (.k (.c (.bool false))))] false) (.seq (.seq (.region [im 15 1,ii 16 (.len (.t 15)),ii 17 (.bin .gtr (.t 16) (ki 8))] false) (.cond (.t 17) (.seq (.region [icl 18 15 [],im 6 18] false) .ret) .skip)) (.seq (.region [im 19 0,icl 20 22 [.t 19,.k (.c (.int .i64 32))],im 21 1,icl 22 22 [.t 21,.k (.c (.int .i64 20))],im 7 20,im 8 22] false) (.seq (.region [im 23 7,im 24 8,im 25 1,icl 26 16 [.t 23,.t 24,.t 25],im 9 26] false) (.seq (.region [im 27 2,ii 28 (.conv .i64 (.t 27)),im 29 9,ii 30 (.len (.t 29)),ibt 31 .rem 28 30,im 10 31] false) (.seq (.seq (.region [ii 11 (.mv (ki 0))] false) (.block 0 (.loop Zga))) Zi8)))))⟩
theorem Zxc : Zm Tryz.prog 4 = some Zoj.erase := by kernel_rfl
def u8s (l : List Nat) : List UInt8 := l.map UInt8.ofNat
theorem Z0w {l : List Nat} (h : ∀ n ∈ l,n < 256) : Zp5 l = u8sC (u8s l) := by
 unfold Zp5 u8sC u8s
 rw [List.map_map]
 congr 1
 refine List.map_congr_left fun n hn => ?_
 have := h n hn
 simp only [Zq3,Function.comp,Zr,UInt8.toNat_ofNat']
 rw [Nat.mod_eq_of_lt (by simpa using this)]
theorem Z7t (l : List Nat) : (u8s l).length = l.length := by simp [u8s]
theorem Zbde (secret master : ByteArray) (us : List UInt8) : ∃ log,log = Zu3 secret master us ∧ Chain secret master log ∧ log ≠ [] ∧ log.length ≤ 8 := ⟨_,rfl,Z5w secret master us⟩
theorem Zbi8 {secret master : ByteArray} {log : List Rec} (h : Chain secret master log) {i : Nat} (hi : i < log.length) : ∃ r,log[i]? = some r ∧ (∀ w ∈ r.wraps,w.box.size = 48) ∧ r.wraps ≠ [] ∧
  ∀ d,Zkq (ownK master d) r d = if memL log ((i : Int) + 1) d = true then some (Zcb secret ((i : Int) + 1)) else none := by
 obtain ⟨k,d,h1,h2,h3⟩ := h.at i hi
 have hl : (log.take i).length = i := by rw [List.length_take]; omega
 have htk : log.take (i + 1) = log.take i ++ [Zbx secret master (log.take i) k d] := by rw [List.take_add_one,h3]; rfl
 refine ⟨_,h3,Zv3 _ _ _ _ _,?_,fun x => ?_⟩
 ·intro hw
  have hc : Chain secret master (log.take i ++ [Zbx secret master (log.take i) k d]) := .snoc h1 h2
  have hz := hc.zero (by simp)
  have hn := Zq7 (secret := secret) (master := master) (log := log.take i) (kind := k) (dev := d)
  rw [hw] at hn
  have hm : (0 : Int) ∈ Zca (log.take i ++ [Zbx secret master (log.take i) k d]) (((log.take i).length : Int) + 1) := Zkz.2 (by
   have e : ((log.take i ++ [Zbx secret master (log.take i) k d]).length : Int) = ((log.take i).length : Int) + 1 := by simp
   rw [e] at hz; exact hz)
  have := List.map_eq_nil_iff.1 hn.symm
  rw [this] at hm
  cases hm
 ·have ho := Z1q (secret := secret) (master := master) h2 x
  have hme := Zbc0 h.check (i := i + 1) (by omega) x
  rw [htk] at hme
  have ei : ((i + 1 : Nat) : Int) = (i : Int) + 1 := by omega
  rw [ei] at hme
  rw [hl] at ho
  rw [ho,hme]
set_option maxHeartbeats 1000000 in
theorem Zu7 (ss : List Nat) (hs0 : ss.length ≤ maxLen) (hsb : ∀ n ∈ ss,n < 256) (ns : List Nat) (hn0 : ns.length ≤ maxLen) (hnb : ∀ n ∈ ns,n < 256) (a : Int) (ha : IntKind.min .u8 ≤ a ∧ a ≤ IntKind.max .u8) :
  Pr 4 [.c (Zp5 ss),.c (Zp5 ns),.c (.int .u8 a)] (bC true) := by
 rw [Z0w hsb,Z0w hnb]
 have hsl := Z7t ss
 have hnl := Z7t ns
 generalize u8s ss = us at hsl
 generalize u8s ns = un at hnl
 have ha0 : 0 ≤ a := ha.1
 have ha1 : a ≤ 255 := ha.2
 obtain ⟨a,rfl⟩ : ∃ k : Nat,a = k := ⟨a.toNat,by omega⟩
 have haw := Z3y
 unfold maxLen at hs0 hn0
 obtain ⟨secret,zs,hb1⟩ := Zvj us 32 (by omega) (by omega) (by omega)
 obtain ⟨master,zm,hb2⟩ := Zvj un 20 (by omega) (by omega) (by omega)
 have hlog := Z9f secret master un (by omega) (by omega)
 obtain ⟨log,hle,hch,hne,h8⟩ := Zbde secret master un
 rw [← hle] at hlog
 clear hle
 have hpos : 0 < log.length := List.length_pos_iff.2 hne
 have hil : a % log.length < log.length := Nat.mod_lt _ hpos
 obtain ⟨r,hr,hr48,_,hop⟩ := Zbi8 hch hil
 have hrm := Zxe a log.length
 generalize a % log.length = i at hil hr hop hrm
 have hown := fun k : Nat => fun hk : k < 8 => Zru master k (by omega) (by omega)
 have hopn := fun d : Int => Zuj (ownK master d) r d (by rw [Zon]; omega) (fun w hw => by rw [hr48 w hw]; omega)
 have hin := fun d : Int => Zln log ((i : Int) + 1) d
 have hep := Zj3 secret (i + 1) (by omega) (by omega)
 have hen : ((i + 1 : Nat) : Int) = (i : Int) + 1 := by omega
 rw [hen] at hep
 have hrr : (log.map Rec.cells)[i]? = some r.cells := map_some hr
 have hrl : r.cells.length = 6 := rfl
 have hrt : r.cells.take 6 = r.cells := rfl
 refine Zl mixed Zxc (by simp [Zq,Zp,Zc,Zrp]) fun hl T => ?_
 clear hl
 unfold Zoj
 have hul : ((un.map Zr).length : Int) = (ns.length : Int) := by rw [List.length_map,hnl]
 by_cases c8 : (8 : Int) < (ns.length : Int)
 ·simp only [go_sem,simprocAttr,hul,c8]
  refine Za haw ?_
  simp only [go_sem,simprocAttr]
  simp [Zf,Ze,Zk,Zg,Zh,Zd,Zc,Zb]
 have n32 : ((32 : Nat) : Int) = 32 := rfl
 have n20 : ((20 : Nat) : Int) = 20 := rfl
 rw [n32] at hb1
 rw [n20] at hb2
 have hwa : IntKind.wrap .i64 (a : Int) = (a : Int) := Zn (by omega)
 have hl0 : ¬ ((log.length : Int) = 0) := by omega
 have hll : ((log.map Rec.cells).length : Int) = (log.length : Int) := by simp
 have hwi : IntKind.wrap .i64 ((i : Int) + 1) = (i : Int) + 1 := Zn (by omega)
 simp only [Z7] at hlog hin
 simp only [go_sem,simprocAttr,hul,c8]
 refine Za hb1 ?_
 simp only [go_sem,simprocAttr]
 refine Za hb2 ?_
 simp only [go_sem,simprocAttr]
 refine Za hlog ?_
 have loop : ∀ (d k : Nat) (e : Env) (H : Heap),k + d = 8 → e 7 = sC secret → e 8 = sC master → e 9 = .c (.lst 6 (log.map Rec.cells)) → e 10 = iC i → e 11 = iC k →
   Run (Zt Tryz.prog T) ⟨[.tmp 6],fun u E => Zf E u = some (bC true)⟩ [.loop Zga,.blk 0,.code Zi8] e H := by
  intro d
  induction d with
  | zero =>
   intro k e H hk h7 h8 h9 h10 h11
   have hc : ¬ ((k : Int) < 8) := by omega
   refine Zi ?_
   conv => enter [3,1]; unfold Zga
   simp only [go_sem,simprocAttr,h11,hc]
   unfold Zi8
   simp only [go_sem,simprocAttr]
   refine Za haw ?_
   simp only [go_sem,simprocAttr]
   simp [Zf,Ze,Zk,Zg,Zh,Zd,Zc,Zb]
  | succ d ih =>
   intro k e H hk h7 h8 h9 h10 h11
   have hc : ((k : Int) < 8) := by omega
   have wk : IntKind.wrap .i64 ((k : Int) + 1) = ((k + 1 : Nat) : Int) := by rw [Zn (by omega)]; omega
   have hopk := hopn k
   rw [hop] at hopk
   have hownk := hown k (by omega)
   have hink := hin k
   generalize ownK master k = ok at hopk hownk
   refine Zi ?_
   conv => enter [3,1]; unfold Zga
   simp only [go_sem,simprocAttr,h8,h9,h10,h11,hc,hrr,hrl,hrt]
   refine Za hownk ?_
   simp only [go_sem,simprocAttr,h9,h10,h11,hrr,hrl,hrt]
   refine Za hopk ?_
   simp only [go_sem,simprocAttr,h9,h10,h11,hwi]
   refine Za hink ?_
   cases hm : memL log ((i : Int) + 1) k with
   | true =>
    simp only [go_sem,simprocAttr,h7,h10,hwi,if_true,optS,Option.isSome,Option.getD]
    refine Za hep ?_
    simp only [go_sem,simprocAttr,h11,wk]
    refine ih (k + 1) _ _ (by omega) ?_ ?_ ?_ ?_ ?_
    all_goals simp only [go_sem,simprocAttr,h7,h8,h9,h10,wk]
   | false =>
    simp only [go_sem,simprocAttr,h7,h10,h11,wk,Bool.false_eq_true,if_false,optS,Option.isSome,Option.getD]
    refine ih (k + 1) _ _ (by omega) ?_ ?_ ?_ ?_ ?_
    all_goals simp only [go_sem,simprocAttr,h7,h8,h9,h10,wk]
 simp only [go_sem,simprocAttr,hwa,hll,hl0,hrm]
 refine loop 8 0 _ _ (by omega) ?_ ?_ ?_ ?_ ?_
 all_goals simp only [go_sem,simprocAttr,Int.natCast_zero]
end Go.Proofs.YticmfblfghdkbaaGreatDoor.Eng
namespace Go.Proofs.YticmfblfghdkbaaGreatDoor.wrapOpensE
open Go.ChangeShapes Go.WideShapes Go.ChangeAt Go.RowKit
open Go.ChangeMaps (open_string shut_string)
theorem own : ownKnob Tryz.prog.godebug = none := by kernel_rfl
theorem Zzy : laidOutB Tryz.prog = true := by kernel_rfl
theorem et : Tryz.prog.globalNamed "errors.errorType" = some 0 := by kernel_rfl
theorem rt : (Tryz.prog.cutTypes.find? (·.1 == "internal/reflectlite.rtype")).map (·.2) = some 235 := by kernel_rfl
theorem Zbje : ((List.range 337).filter fun t => Tryz.prog.rowNamed t [101,114,114,111,114]) = [98] := by kernel_rfl
theorem size : Tryz.prog.types.size = 337 := by kernel_rfl
noncomputable def Zm0 : List (String × DataW Unit) := [("math/bits.deBruijn32tab",Rows.laid_math_bits_deBruijn32tab),("math/bits.deBruijn64tab",Rows.laid_math_bits_deBruijn64tab),("internal/strconv.uint64pow10",Rows.laid_internal_strconv_uint64pow10)]
theorem Z9o : (Rows.wrapOpensRow.laid.filter fun x => x.2.handleName?.isNone) = Zm0 := by kernel_rfl
theorem Z9z : (Rows.wrapOpensRow.laid.filter fun x => x.2.handleName?.isSome) = [("errors.errorType",Rows.laid_errors_errorType)] := by kernel_rfl
theorem Zbk4 {W : World} (h : laidMetH Tryz.prog Rows.wrapOpensRow.laid W) : handlesMet Tryz.prog [("errors.errorType",Rows.laid_errors_errorType)] W := by
 unfold laidMetH at h
 rw [Z9z] at h
 exact h.2
theorem handle {W : World} (h : laidMetH Tryz.prog Rows.wrapOpensRow.laid W) : W.cell? ⟨0,0,none⟩ = some (.iface 235 (.agg #[.pointer (some ⟨7,98,none⟩)])) := by
 have h' := Zbk4 h
 obtain ⟨name,u,ty,e1,e2,e3,e4,e5⟩ := h' _ (List.mem_singleton.2 rfl)
 have en : name = [101,114,114,111,114] := (Option.some.inj e1).symm
 subst en
 obtain rfl := Option.some.inj (rt.symm.trans e2)
 have hm : ty ∈ (List.range 337).filter fun t => Tryz.prog.rowNamed t [101,114,114,111,114] := List.mem_filter.2 ⟨List.mem_range.2 (by rw [← size]; exact e3),e4⟩
 rw [Zbje] at hm
 obtain rfl := List.mem_singleton.1 hm
 have hh : typeHandle Tryz.prog 98 = .pointer (some ⟨7,98,none⟩) := by kernel_rfl
 rw [hh] at e5
 simpa using World.var?_cell et e5 0
noncomputable def Z5a (os : Os) : World :=
 let w0 := World.holding Tryz.prog os ⟨#[],#[],[]⟩
 { w0 with heap := w0.heap.modify 0 fun
   | .cells _ t frozen => .cells #[.iface 235 (.agg #[.pointer (some ⟨7,98,none⟩)])] t frozen
   | o => o }
noncomputable def Zog (os : Os) : World := (Z5a os).layVars Tryz.prog Zm0
theorem Z4i (os : Os) : (Zog os).os = os := World.layVars_os _ _ _
theorem Zzn (os : Os) : laidMet Tryz.prog Zm0 (Zog os) := by
 have e1 : (Zm0.filter fun x => (Zm0.map (·.1)).contains x.1) = Zm0 := List.filter_eq_self.2 fun x hx => List.contains_iff_mem.2 (List.mem_map.2 ⟨x,hx,rfl⟩)
 have e2 : (Zm0.filter fun x => !(Zm0.map (·.1)).contains x.1) = [] := List.filter_eq_nil_iff.2 fun x hx => by rw [List.contains_iff_mem.2 (List.mem_map.2 ⟨x,hx,rfl⟩)]; simp
 exact laidMet_layVars (w0 := Z5a os) (Zm0.map (·.1)) [] (by rw [e1]; rfl) (by rw [e1]; kernel_rfl) (by rw [e1]; kernel_rfl) (by rw [e2]; exact LaidIn.none)
theorem Z2a (os : Os) (args : Array Value) : laidMetH Tryz.prog Rows.wrapOpensRow.laid ((Zog os).forCall (fun _ _ => 0) ⟨#[],args,[]⟩).memory :=
 laidMetH_of_parts (by rw [Z9o]; exact (Zzn os).of_heap (by simp [World.memory,World.forCall,Input.heap])) (by kernel_rfl)
set_option maxRecDepth 100000 in
theorem Zbjn (os : Os) (started : os.Started) (H : Type) (enc : TypeId × Value → H) :
  ReturnsInHanded {} Tryz.checked os 4 .any (fun w args => (Rows.wrapOpensSpec.pre enc Tryz.prog Tryz.f4 Rows.wrapOpensRow.domain false w args ∧ laidMetH Tryz.prog Rows.wrapOpensRow.laid w) ∧ sizedMet enc Tryz.prog Tryz.f4 (OpenSpec.ofChange Rows.wrapOpensSpec) false w args)
   (Rows.wrapOpensSpec.post enc Tryz.prog Tryz.f4 false true false false) := by
 refine returnsInHanded_of_change_and (C := Tryz.checked) (X := fun w _ => laidMetH Tryz.prog Rows.wrapOpensRow.laid w) (fun _ _ _ hh h => h.of_heap hh) own started (by kernel_rfl) Tryz.func4
  (ChangeSpec.witness_at (enc := enc) (C := Tryz.checked) (os := os) (X := fun w _ => laidMetH Tryz.prog Rows.wrapOpensRow.laid w) false (Zog os) #[.slice none 0 0,.slice none 0 0,.int .u8 0] 8 (Z4i os) (by kernel_rfl) (by kernel_rfl) (by kernel_rfl) (by kernel_rfl) (by kernel_rfl) (Z2a os _)) ?_
 intro W base args ds gs before hval0 hW hcnd hsz0 hL _
 have hval : ∀ (j : Nat) t v,Tryz.f4.params[j]? = some t → args[j]? = some v → Value.okWide Tryz.prog W .any base t v := hval0
 have hW' := hW
 obtain ⟨p,q,hA0,hV,rfl,hfz,hnd⟩ := hW
 have hA : DataW.TrodAll enc Tryz.prog W 0 (fun _ => true) true Tryz.f4.params.toList args.toList ds p := hA0
 rw [Tryz.params4] at hA hval
 obtain ⟨v0,vs0,d0,ds0,p0,q0,hargs,rfl,rfl,h0,r0⟩ := trodAll_cons hA
 obtain ⟨v1,vs1,d1,ds1,p1,q1,rfl,rfl,rfl,h1,r1⟩ := trodAll_cons r0
 obtain ⟨v2,vs2,d2,ds2,p2,q2,rfl,rfl,rfl,h2,r2⟩ := trodAll_cons r1
 obtain ⟨rfl,rfl,rfl⟩ := trodAll_nil r2
 obtain rfl : args = #[v0,v1,v2] := by cases args; simp_all
 obtain ⟨rfl,rfl⟩ := trodVars_none hV
 have k0 := h0
 have lt0 : ∀ x ∈ p0,x.block < W.heap.size := by obtain ⟨m,hm⟩ := k0; exact DataW.trod_lt m _ _ _ hm
 obtain ⟨c0,e0,t0⟩ := Eng.Z1r (s := (.slc (.int .u8))) Tryz.underlying22 (by kernel_rfl) (hval 0 22 v0 rfl rfl) h0
 obtain ⟨a0,u0,z0,w0⟩ := Eng.Z0g _ t0
 injection u0 with u0; subst u0
 have k1 := h1
 have lt1 : ∀ x ∈ p1,x.block < W.heap.size := by obtain ⟨m,hm⟩ := k1; exact DataW.trod_lt m _ _ _ hm
 obtain ⟨c1,e1,t1⟩ := Eng.Z1r (s := (.slc (.int .u8))) Tryz.underlying22 (by kernel_rfl) (hval 1 22 v1 rfl rfl) h1
 obtain ⟨a1,u1,z1,w1⟩ := Eng.Z0g _ t1
 injection u1 with u1; subst u1
 have k2 := h2
 have lt2 : ∀ x ∈ p2,x.block < W.heap.size := by obtain ⟨m,hm⟩ := k2; exact DataW.trod_lt m _ _ _ hm
 obtain ⟨a2,rfl,rfl,rfl,w2⟩ := open_int Tryz.underlying5 (hval 2 5 v2 rfl rfl) h2
 have w2 : IntKind.min .u8 ≤ a2 ∧ a2 ≤ IntKind.max .u8 := by simpa [Lit.wf] using w2
 clear hA0 hval0 hsz0
 refine (Eng.Pure.law (Eng.Zu7 a0 z0 w0 a1 z1 w1 a2 w2) (w := W) (fun g c k => by obtain ⟨hg,hc⟩ : g = 0 ∧ c = _ := k; subst hg; subst hc; exact handle hL) (.cons e0 (.cons e1 (.cons (.c (.int _ _)) .nil)))).mono fun e W' ⟨he,bel⟩ => ?_
 subst he
 exact ⟨_,rfl,_,_,_,[],_,[],hW',trodAll_mk1 (shut_bool Tryz.underlying4 _),(trodAll_cons_mk (Below.trod Zzy (by kernel_rfl) (of_decide_eq_true (by kernel_rfl)) k0 bel lt0) (trodAll_cons_mk (Below.trod Zzy (by kernel_rfl) (of_decide_eq_true (by kernel_rfl)) k1 bel lt1) (trodAll_cons_mk (Below.trod Zzy (by kernel_rfl) (of_decide_eq_true (by kernel_rfl)) k2 bel lt2) trodAll_mk0))),rfl,bel.frame _,fun h => by cases h⟩
theorem Zbb7 : Rows.wrapOpensRow.inPlace = Tryz.prog.inPlace 4 := by kernel_rfl
theorem Z4v : Rows.wrapOpensRow.unfollowed = Tryz.prog.unfollowed 4 := by kernel_rfl
theorem Z75 : Rows.wrapOpensRow.recurses = Tryz.prog.recurses 4 := by kernel_rfl
theorem Zbh8 : Rows.wrapOpensRow.named = Tryz.prog.varsNamed 4 := by kernel_rfl
theorem q_goes : false = Rows.wrapOpensRow.goesBy Tryz.prog := by kernel_rfl
theorem Zbiw : joinedFacts Tryz.prog 4 Tryz.f4 Rows.wrapOpensSpec Rows.wrapOpensRow = true := by
 unfold joinedFacts
 rw [← Zbb7,← Z4v,← Z75,← Zbh8]
 kernel_rfl
theorem over : Rows.wrapOpensRow.holds Tryz.pinned (OpenSpec.ofChange Rows.wrapOpensSpec) :=
 OpenClaim.holds_of_wide 4 Tryz.f4 rfl rfl rfl rfl rfl rfl rfl ⟨rfl,rfl,rfl,rfl,rfl⟩ rfl rfl rfl rfl rfl (by kernel_rfl) Tryz.func4 Zbiw
  (of_decide_eq_true (by kernel_rfl)) (by unfold Func.isWrapper; first | (rw [if_pos (by decide +kernel)]; kernel_rfl) | (rw [if_neg (by decide +kernel)]; exact ⟨rfl,rfl⟩))
  (fun os started H enc _ => Zbjn os started H enc)
end Go.Proofs.YticmfblfghdkbaaGreatDoor.wrapOpensE
namespace Go.Proofs.YticmfblfghdkbaaGreatDoor
theorem Zyl : Rows.WrapOpensSaid := wrapOpensE.over
theorem wrapOpensCard_holds : Rows.WrapOpensCardSaid :=
 Claim7.holds_tied_plain_at .later [] [.data,.data,.data,.handle] true (true, "c59088a88fd41f01395ebcbcd764b675b9a1bf24f8cca687b2284cea51dbddea") true
  Zyl (fun _ h => by cases h) (by kernel_rfl) (fun _ h => by cases h) wrapOpens_row_tie rfl ⟨rfl,rfl⟩ (by kernel_rfl) rfl
  (fun f fn hf hfn => by
   obtain rfl : f = 4 := Option.some.inj ((show Tryz.prog.funcNamed "deaddrop/deaddroplaw17.WrapOpens" = some 4 by kernel_rfl).symm.trans hf) |>.symm
   obtain rfl : fn = Tryz.f4 := (Option.some.inj (Tryz.func4.symm.trans hfn)).symm
   exact ⟨by kernel_rfl,fun j t ht => by
    rw [Tryz.params4] at ht
    have hm : t ∈ [22,22,5] := by simpa using Array.mem_of_getElem? ht
    have hall : ([22,22,5].all fun u => !Tryz.prog.wantsStandIn u) = true := by kernel_rfl
    exact (show Tryz.prog.wantsStandIn t = false by simpa using List.all_eq_true.1 hall t hm)⟩)
  wrapOpensE.q_goes
end Go.Proofs.YticmfblfghdkbaaGreatDoor
