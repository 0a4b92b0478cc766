/- Parts of this claim's proof, joined. No statement of the seat is proved here. -/
import Derived.Test.YticmfblfghdkbaaGreatDoorY25
set_option linter.unusedVariables false
set_option linter.unusedSimpArgs false
namespace Go.Proofs.YticmfblfghdkbaaGreatDoor.Eng
open Go
def Znf : AFun := ⟨[.tmp 2],.seq (.region [ii 2 (.mv (ki 0))] false) (.seq (.region [ii 3 (.new [.int .i64 0])] false) (.seq (.seq (.region [im 4 0,ii 5 (.mkI 140 (.t 3)),icl 6 97 [.t 4,.t 5]] false) (.cond (.t 6) (.seq (.region [ifl 7 0 3,il 8 7,im 2 8] false) .ret) .skip)) (.seq (.region [ii 2 (.mv (ki 0))] false) .ret)))⟩
theorem Zr7 : Zm Tryz.prog 51 = some Znf.erase := by kernel_rfl
def Zlj : ACode := .seq (.region [ibt 43 .lss 42 41] false) (.seq (.cond (.t 43) .skip (.exit 0)) (.seq (.block 1 (.seq (.region [ixx 44 1 40 42,il 45 44,im 16 45] false) (.seq (.region [im 46 1,im 47 16,icl 48 57 [.t 46,.t 47],icl 49 56 [.t 48],im 17 49] false) (.region [ifl 50 4 13,il 51 50,im 52 16,im 53 17,ifl 54 0 13,il 55 54,icl 56 59 [.t 55],im 57 14,im 58 0,ifl 59 0 13,il 60 59,icl 61 60 [.t 58,.t 60],icl 62 58 [.t 53,.t 56,.t 57,.t 61],ii 63 (.build [.int .i64 0,.str ⟨#[]⟩] [(0,1,.t 52),(1,1,.t 62)]),iz 64 (.lit 2 [.int .i64 0,.str ⟨#[]⟩] 1 [(0,.t 63)]),ii 65 (.app 2 24 (.t 51) (.t 64)),ifl 66 4 13,ie (.store 1 (.t 66) (.t 65))] true)))) (.region [ii 67 (.bin .add (.t 42) (ki 1)),im 42 67] false)))
def Zpr : ACode := .seq (.seq (.region [ifl 68 0 13,il 69 68,ii 70 (.bin .gtr (.t 69) (ki 1))] false) (.cond (.t 70) (.region [im 71 0,ifl 72 0 13,il 73 72,ii 74 (.bin .sub (.t 73) (ki 1)),icl 75 60 [.t 71,.t 74],ii 76 (.load true 6 (.t 13)),icl 77 26 [.t 75,.t 76],ifl 78 5 13,ie (.store 1 (.t 78) (.t 77))] true) .skip)) (.seq (.region [ii 79 (.load true 6 (.t 13)),ie (.store 6 (.t 10) (.t 79)),ii 11 (.mv (ki 0))] false) .ret)
def Zyx : AFun := ⟨[.cell 10 true 6,.tmp 11],.seq (.region [ii 10 (.new [.int .i64 0,.str ⟨#[]⟩,.int .i64 0,.int .i64 0,.nilS,.str ⟨#[]⟩]),ii 11 (.mv (ki 0))] false) (.seq (.seq (.region [im 18 2,im 19 3,im 20 4,icl 21 50 [.t 18,.t 19,.t 20],im 12 21] false) (.seq (.region [im 22 12,ii 23 (.eqNil false true (.t 22) (.k (.c .nilI)))] false) (.cond (.t 23) (.seq (.region [ii 24 (.build [.int .i64 0,.str ⟨#[]⟩,.int .i64 0,.int .i64 0,.nilS,.str ⟨#[]⟩] []),im 25 12,icl 26 51 [.t 25],ie (.store 6 (.t 10) (.t 24)),im 11 26] false) .ret) .skip))) (.seq (.region [im 27 2,im 28 3,im 29 4,icl 30 52 [.t 27,.t 28,.t 29],ii 13 (.new [.int .i64 0,.str ⟨#[]⟩,.int .i64 0,.int .i64 0,.nilS,.str ⟨#[]⟩]),ie (.store 6 (.t 13) (.t 30))] false) (.seq (.region [ii 31 (.load true 6 (.t 13)),icl 32 53 [.t 31],im 14 32] false) (.seq (.seq (.region [im 33 2,icl 34 55 [.t 33],ii 35 (.load true 6 (.t 13)),iz 36 (.lit 6 [.int .i64 0,.str ⟨#[]⟩,.int .i64 0,.int .i64 0,.nilS,.str ⟨#[]⟩] 1 [(0,.t 35)]),ii 37 (.app 6 80 (.t 34) (.t 36)),ifl 38 0 13,il 39 38,icl 40 54 [.t 37,.t 39],ii 41 (.len (.t 40)),ii 42 (.mv (ki 0))] true) (.block 0 (.loop Zlj))) Zpr))))⟩
theorem Z6o : Zm Tryz.prog 17 = some Zyx.erase := by kernel_rfl
def Zdx : AFun := ⟨[.tmp 2],.seq (.region [ii 2 (.mv (.k (.c .nilS)))] false) (.seq (.seq (.region [im 3 0,ii 4 (.eqNil true false (.t 3) (.k (.c .nilS)))] false) (.cond (.t 4) (.seq (.region [ii 2 (.mv (.k (.c .nilS)))] false) .ret) .skip)) (.seq (.region [iz 5 (.lit 6 [.int .i64 0,.str ⟨#[]⟩,.int .i64 0,.int .i64 0,.nilS,.str ⟨#[]⟩] 0 []),im 6 0,ii 7 (.appZ 6 80 (.t 5) (.t 6)),im 2 7] false) .ret))⟩
theorem Zes : Zm Tryz.prog 55 = some Zdx.erase := by kernel_rfl
def Zf2 : AFun := ⟨[.tmp 2],.seq (.region [ii 2 (.mv (.k (.c .nilS)))] false) (.seq (.seq (.region [im 3 0,ii 4 (.eqNil true false (.t 3) (.k (.c .nilS)))] false) (.cond (.t 4) (.seq (.region [ii 2 (.mv (.k (.c .nilS)))] false) .ret) .skip)) (.seq (.region [iz 5 (.lit 2 [.int .i64 0,.str ⟨#[]⟩] 0 []),im 6 0,iz 7 (.appZ 2 24 (.t 5) (.t 6)),im 2 7] false) .ret))⟩
theorem Zhi : Zm Tryz.prog 122 = some Zf2.erase := by kernel_rfl
def Zdn : AFun := ⟨[.tmp 2],.seq (.region [ii 2 (.mv (.k (.c .nilS)))] false) (.seq (.seq (.region [im 3 0,ii 4 (.eqNil true false (.t 3) (.k (.c .nilS)))] false) (.cond (.t 4) (.seq (.region [ii 2 (.mv (.k (.c .nilS)))] false) .ret) .skip)) (.seq (.region [iz 5 (.lit 2 [.int .i64 0,.str ⟨#[]⟩] 0 []),im 6 0,ii 7 (.appZ 2 24 (.t 5) (.t 6)),im 2 7] false) .ret))⟩
theorem Zd3 : Zm Tryz.prog 78 = some Zdn.erase := by kernel_rfl
def Zg0 : ACode := .seq (.region [ibt 9 .lss 8 7] false) (.seq (.cond (.t 9) .skip (.exit 0)) (.seq (.block 1 (.seq (.region [im 10 8,im 3 10] false) (.region [im 11 0,im 12 3,im 13 0,im 14 3,ixx 15 6 13 14,ifl 16 4 15,il 17 16,icl 18 122 [.t 17],ixx 19 6 11 12,ifl 20 4 19,ie (.store 1 (.t 20) (.t 18))] false))) (.region [ii 21 (.bin .add (.t 8) (ki 1)),im 8 21] false)))
def Ziv : ACode := .seq (.region [im 22 0,im 2 22] false) .ret
def Zt5 : AFun := ⟨[.tmp 2],.seq (.region [ii 2 (.mv (.k (.c .nilS)))] false) (.seq (.region [im 4 0,icl 5 55 [.t 4],im 0 5] false) (.seq (.seq (.region [im 6 0,ii 7 (.len (.t 6)),ii 8 (.mv (ki 0))] false) (.block 0 (.loop Zg0))) Ziv))⟩
theorem Z2d : Zm Tryz.prog 77 = some Zt5.erase := by kernel_rfl
def Zyg : AFun := ⟨[.tmp 10,.tmp 11,.tmp 12],.seq (.region [iz 9 (.box (.t 4)),ii 10 (.mv (.k (.c .nilS))),ii 11 (.mv (.k (.c .nilS))),ii 12 (.mv (ki 0))] false) (.seq (.region [im 19 0,icl 20 77 [.t 19],im 21 1,icl 22 78 [.t 21],im 13 20,im 14 22] false) (.seq (.seq (.region [im 23 0,im 24 1,ii 25 (.load true 6 (.t 9)),icl 26 79 [.t 23,.t 24,.t 25],im 15 26] false) (.seq (.region [im 27 15,ii 28 (.eqNil false true (.t 27) (.k (.c .nilI)))] false) (.cond (.t 28) (.seq (.region [im 29 13,im 30 14,im 31 15,icl 32 51 [.t 31],im 10 29,im 11 30,im 12 32] false) .ret) .skip))) (.seq (.region [im 33 13,icl 34 55 [.t 33],ii 35 (.load true 6 (.t 9)),iz 36 (.lit 6 [.int .i64 0,.str ⟨#[]⟩,.int .i64 0,.int .i64 0,.nilS,.str ⟨#[]⟩] 1 [(0,.t 35)]),ii 37 (.app 6 80 (.t 34) (.t 36)),icl 38 77 [.t 37],im 16 38] true) (.seq (.seq (.region [im 39 16,ifl 40 0 9,il 41 40,im 42 3,icl 43 80 [.t 39,.t 41,.t 42],ii 44 (.un .not (.t 43))] false) (.cond (.t 44) (.seq (.region [im 45 16,im 46 14,im 10 45,im 11 46,ii 12 (.mv (ki 0))] false) .ret) .skip)) (.seq (.region [im 48 2,ii 49 (.load true 6 (.t 9)),im 50 3,icl 51 23 [.t 48,.t 49,.t 50],im 47 51,ii 52 (.ext (.t 47) 0),ii 53 (.ext (.t 47) 1),im 17 52,im 18 53] false) (.seq (.seq (.region [im 54 18,ii 55 (.un .not (.t 54))] false) (.cond (.t 55) (.seq (.region [im 56 13,im 57 14,im 10 56,im 11 57,ii 12 (.mv (ki 9))] false) .ret) .skip)) (.seq (.region [im 58 16,im 59 14,ifl 60 0 9,il 61 60,im 62 17,ii 63 (.build [.int .i64 0,.str ⟨#[]⟩] [(0,1,.t 61),(1,1,.t 62)]),iz 64 (.lit 2 [.int .i64 0,.str ⟨#[]⟩] 1 [(0,.t 63)]),ii 65 (.app 2 24 (.t 59) (.t 64)),im 10 58,im 11 65,ii 12 (.mv (ki 0))] false) .ret)))))))⟩
theorem Z77 : Zm Tryz.prog 32 = some Zyg.erase := by kernel_rfl
def Src (sz : Nat) (rows : List (List Cell)) (v : AVal) (H : Heap) : Prop := v = .c (.lst sz rows) ∨ Acc sz rows v H
def Zy (sz : Nat) (rows : List (List Cell)) (H : Heap) : AVal := if rows = [] then .c (.zer sz) else .c (.slc H.length 0 rows.length sz false)
def Z8 (sz : Nat) (rows : List (List Cell)) (H : Heap) : Heap := if rows = [] then H else H ++ [{ sz := sz,rows := rows,own := true,live := true }]
theorem Zfi (sz : Nat) (rows : List (List Cell)) (H : Heap) : Acc sz rows (Zy sz rows H) (Z8 sz rows H) := by
 unfold Zy Z8
 by_cases h0 : rows = []
 ·rw [if_pos h0,if_pos h0,h0]; exact .zer
 ·rw [if_neg h0,if_neg h0]; exact .last
theorem Zef (sz : Nat) (rows : List (List Cell)) (H : Heap) : H <+: Z8 sz rows H := by
 unfold Z8
 split
 ·exact List.prefix_refl _
 ·exact List.prefix_append _ _
theorem Zkg (sz : Nat) (rows : List (List Cell)) {H : Heap} {b : Nat} (hb : b < H.length) : NB (Zy sz rows H) b := by
 unfold Zy
 split
 ·exact fun _ _ _ _ h => by cases h
 ·intro n s q z h
  injection h with h
  injection h with h1
  omega
theorem Zdi {H G : Heap} (h : H <+: G) {b : Nat} {B : Blk} (hb : H[b]? = some B) : G[b]? = some B := by
 obtain ⟨E,rfl⟩ := h
 rw [List.getElem?_append_left (List.getElem?_eq_some_iff.1 hb).1]; exact hb
theorem Zjp {x : Cell} {rows : List (List Cell)} {H : Heap} (hr : H.rowsOf x = some rows) (hf : Z5 6 x = true) (hn : Ze0 true x .nilS = some false) (h0 : rows ≠ []) (hs : rows.length ≤ 1000000) :
  CallSound Tryz.prog 55 [.c x] H (.c (.slc H.length 0 rows.length 6 false)) (H ++ [{ sz := 6,rows := rows,own := true,live := true }]) := by
 refine Zek mixed Zes fun T => ?_
 unfold Zdx
 have ha : Zc8 6 80 (.c (.zer 6)) (.c x) H = some (.c (.slc H.length 0 rows.length 6 false),H ++ [{ sz := 6,rows := rows }]) := by
  simp only [Zc8,Zc7,hr,hf,if_true]
  rw [if_neg (by intro e; exact h0 (List.eq_nil_of_length_eq_zero e)),if_pos (by omega)]
 cases x with
 | slc b o n sz z => simp only [go_sem,simprocAttr,bne_self_eq_false,ha]
 | lst sz r =>
  cases r with
  | nil => simp [Ze0] at hn
  | cons y r => simp only [go_sem,simprocAttr,bne_self_eq_false,ha]
 | emp sz =>
  simp [Heap.rowsOf] at hr
  exact absurd hr.symm (by simpa using h0)
 | _ => simp [Ze0,Z5,Heap.rowsOf] at hn hf hr
theorem Zjf (H : Heap) : CallSound Tryz.prog 55 [.c .nilS] H (.c (.zer 6)) H := by
 refine CallSound.wkr (v := .c .nilS) (.c (.nilZ _)) (Zek mixed Zes fun T => ?_)
 unfold Zdx
 simp only [go_sem,simprocAttr,bne_self_eq_false]
 refine Zoq ?_
 simp only [go_sem,simprocAttr]
theorem Zp7 (H : Heap) : CallSound Tryz.prog 55 [.c (.emp 6)] H (.c (.zer 6)) H := by
 refine Zek mixed Zes fun T => ?_
 unfold Zdx
 have ha : Zc8 6 80 (.c (.zer 6)) (.c (.emp 6)) H = some (.c (.zer 6),H) := rfl
 simp only [go_sem,simprocAttr,bne_self_eq_false,ha]
theorem Zpy (b : Nat) (H : Heap) : CallSound Tryz.prog 55 [.c (.slc b 0 0 6 false)] H (.c (.zer 6)) H := by
 refine Zek mixed Zes fun T => ?_
 unfold Zdx
 have ha : Zc8 6 80 (.c (.zer 6)) (.c (.slc b 0 0 6 false)) H = some (.c (.zer 6),H) := by simp [Zc8,Zc7,Heap.rowsOf,Z5]
 simp only [go_sem,simprocAttr,bne_self_eq_false,ha]
theorem Zeh {v : AVal} {l : List Rec} {H : Heap} (h : Src 6 (l.map Rec.cells) v H) (hs : l.length ≤ 1000000) : CallSound Tryz.prog 55 [v] H (Zy 6 (l.map Rec.cells) H) (Z8 6 (l.map Rec.cells) H) := by
 have hlen : (l.map Rec.cells).length ≤ 1000000 := by simpa using hs
 generalize l.map Rec.cells = rows at h hlen
 by_cases h0 : rows = []
 ·subst h0
  have e1 : Zy 6 [] H = .c (.zer 6) := rfl
  have e2 : Z8 6 [] H = H := rfl
  rw [e1,e2]
  have hl : CallSound Tryz.prog 55 [.c (.lst 6 [])] H (.c (.zer 6)) H := CallSound.empty (pre := []) (post := []) (Zjf H) (Zp7 H)
  rcases h with rfl | ⟨_,rfl | rfl⟩ | ⟨b,ext,rfl,hb⟩
  ·exact hl
  ·exact Zjf H
  ·exact CallSound.wk (.cons (.c (.zer _)) .nil) hl
  ·exact Zpy b H
 ·have e1 : Zy 6 rows H = .c (.slc H.length 0 rows.length 6 false) := by unfold Zy; rw [if_neg h0]
  have e2 : Z8 6 rows H = H ++ [{ sz := 6,rows := rows,own := true,live := true }] := by unfold Z8; rw [if_neg h0]
  rw [e1,e2]
  rcases h with rfl | h
  ·exact Zjp rfl (by simp [Z5]) (by cases rows with | nil => exact absurd rfl h0 | cons => rfl) h0 hlen
  ·obtain ⟨b,ext,rfl,_,hb⟩ := h.slc h0
   exact Zjp (by simp [Heap.rowsOf,hb]) (by simp [Z5]) rfl h0 hlen
theorem Zis {x : Cell} {rows : List (List Cell)} {H : Heap} (hr : H.rowsOf x = some rows) (hf : Z5 2 x = true) (hn : Ze0 true x .nilS = some false) (h0 : rows ≠ []) (hs : rows.length ≤ 1000000) :
  CallSound Tryz.prog 78 [.c x] H (.c (.slc H.length 0 rows.length 2 false)) (H ++ [{ sz := 2,rows := rows,own := true,live := true }]) := by
 refine Zek mixed Zd3 fun T => ?_
 unfold Zdn
 have ha : Zc8 2 24 (.c (.zer 2)) (.c x) H = some (.c (.slc H.length 0 rows.length 2 false),H ++ [{ sz := 2,rows := rows }]) := by
  simp only [Zc8,Zc7,hr,hf,if_true]
  rw [if_neg (by intro e; exact h0 (List.eq_nil_of_length_eq_zero e)),if_pos (by omega)]
 cases x with
 | slc b o n sz z => simp only [go_sem,simprocAttr,bne_self_eq_false,ha]
 | lst sz r =>
  cases r with
  | nil => simp [Ze0] at hn
  | cons y r => simp only [go_sem,simprocAttr,bne_self_eq_false,ha]
 | emp sz =>
  simp [Heap.rowsOf] at hr
  exact absurd hr.symm (by simpa using h0)
 | _ => simp [Ze0,Z5,Heap.rowsOf] at hn hf hr
theorem Zib (H : Heap) : CallSound Tryz.prog 78 [.c .nilS] H (.c (.zer 2)) H := by
 refine CallSound.wkr (v := .c .nilS) (.c (.nilZ _)) (Zek mixed Zd3 fun T => ?_)
 unfold Zdn
 simp only [go_sem,simprocAttr,bne_self_eq_false]
 refine Zoq ?_
 simp only [go_sem,simprocAttr]
theorem Zoc (H : Heap) : CallSound Tryz.prog 78 [.c (.emp 2)] H (.c (.zer 2)) H := by
 refine Zek mixed Zd3 fun T => ?_
 unfold Zdn
 have ha : Zc8 2 24 (.c (.zer 2)) (.c (.emp 2)) H = some (.c (.zer 2),H) := rfl
 simp only [go_sem,simprocAttr,bne_self_eq_false,ha]
theorem Znr (b : Nat) (H : Heap) : CallSound Tryz.prog 78 [.c (.slc b 0 0 2 false)] H (.c (.zer 2)) H := by
 refine Zek mixed Zd3 fun T => ?_
 unfold Zdn
 have ha : Zc8 2 24 (.c (.zer 2)) (.c (.slc b 0 0 2 false)) H = some (.c (.zer 2),H) := by simp [Zc8,Zc7,Heap.rowsOf,Z5]
 simp only [go_sem,simprocAttr,bne_self_eq_false,ha]
theorem Znz {v : AVal} {l : List EKey} {H : Heap} (h : Src 2 (l.map EKey.cells) v H) (hs : l.length ≤ 1000000) : CallSound Tryz.prog 78 [v] H (Zy 2 (l.map EKey.cells) H) (Z8 2 (l.map EKey.cells) H) := by
 have hlen : (l.map EKey.cells).length ≤ 1000000 := by simpa using hs
 generalize l.map EKey.cells = rows at h hlen
 by_cases h0 : rows = []
 ·subst h0
  have e1 : Zy 2 [] H = .c (.zer 2) := rfl
  have e2 : Z8 2 [] H = H := rfl
  rw [e1,e2]
  have hl : CallSound Tryz.prog 78 [.c (.lst 2 [])] H (.c (.zer 2)) H := CallSound.empty (pre := []) (post := []) (Zib H) (Zoc H)
  rcases h with rfl | ⟨_,rfl | rfl⟩ | ⟨b,ext,rfl,hb⟩
  ·exact hl
  ·exact Zib H
  ·exact CallSound.wk (.cons (.c (.zer _)) .nil) hl
  ·exact Znr b H
 ·have e1 : Zy 2 rows H = .c (.slc H.length 0 rows.length 2 false) := by unfold Zy; rw [if_neg h0]
  have e2 : Z8 2 rows H = H ++ [{ sz := 2,rows := rows,own := true,live := true }] := by unfold Z8; rw [if_neg h0]
  rw [e1,e2]
  rcases h with rfl | h
  ·exact Zis rfl (by simp [Z5]) (by cases rows with | nil => exact absurd rfl h0 | cons => rfl) h0 hlen
  ·obtain ⟨b,ext,rfl,_,hb⟩ := h.slc h0
   exact Zis (by simp [Heap.rowsOf,hb]) (by simp [Z5]) rfl h0 hlen
theorem Zs2 (l : List Wrp) (hs : l.length ≤ 1000000) : Pr 122 [.c (Zx l)] (.c (Zx l)) := by
 by_cases h0 : l = []
 ·subst h0
  intro H
  refine CallSound.empty (pre := []) (post := []) ?_ ?_
  ·refine Pure.wkr (v := .c .nilS) (Zl mixed Zhi rfl fun hl T => ?_) (.c (.nilS _)) H
   unfold Zf2
   simp only [go_sem,simprocAttr,bne_self_eq_false]
   refine Zoq ?_
   simp only [go_sem,simprocAttr]
   simp [Zf,Ze,Zi,Zg,Zh,Zd,Zc,Zb]
  ·refine Zl mixed Zhi rfl (fun hl T => ?_) H
   unfold Zf2
   have ha : mkF [] (Zc8 2 24 (.c (.zer 2)) (.c (.emp 2)) []) = some (.c (.lst 2 [])) := rfl
   simp only [go_sem,simprocAttr,bne_self_eq_false,ha]
   simp [Zf,Ze,Zi,Zg,Zh,Zd,Zc,Zb,closedR,Zx]
 ·refine Zl mixed Zhi (by simp [Zo,Zn,Zc,Zx,Zfv]) fun hl T => ?_
  unfold Zf2
  have hc := Zfv l
  have hn : (l.map Wrp.cells).length = l.length := by simp
  have h1 : l.map Wrp.cells ≠ [] := by simpa using h0
  unfold Zx
  have hs' : (l.map Wrp.cells).length ≤ 1000000 := by rw [hn]; exact hs
  generalize l.map Wrp.cells = rows at h1 hs' hc
  cases rows with
  | nil => exact absurd rfl h1
  | cons x rows =>
   have ha : ∀ H : Heap,mkF H (Zc8 2 24 (.c (.zer 2)) (.c (.lst 2 (x :: rows))) H) = some (.c (.lst 2 (x :: rows))) := fun H => Zbgr rfl (by simp [Z5]) hc (by omega)
   simp only [go_sem,simprocAttr,bne_self_eq_false,ha]
   simp only [closedR,Bool.and_eq_true] at hc
   simp [Zf,Ze,Zi,Zg,Zh,Zd,Zc,Zb,closedR,hc.1,hc.2]
theorem Zof (r : Rec) : (Zcp r).size ≤ 1000000 := by
 unfold Zcp
 split
 ·rename_i hv
  obtain ⟨z1,_,_⟩ := Zfw hv
  have := Zkq (Zfr r)
  rw [Zdp]; omega
 ·exact Nat.zero_le _
theorem Zcm (l : List EKey) : closedR (l.map EKey.cells) = true := Zcd EKey.closed l
theorem Zbdx {α : Type} (f : α → List Cell) {l pre rest : List α} {a b : α} (h : l = pre ++ a :: b :: rest) : (l.map f)[pre.length]? = some (f a) ∧ (l.map f)[pre.length + 1]? = some (f b) := by
 subst h
 constructor
 ·rw [List.getElem?_map,List.getElem?_append_right (Nat.le_refl _),Nat.sub_self]; rfl
 ·rw [List.getElem?_map,List.getElem?_append_right (by omega),show pre.length + 1 - pre.length = 1 by omega]; rfl
theorem Z23 (l : List EKey) : Pr 123 [.c (Zbj l)] (bC (Zde l)) := by
 refine Zl mixed Z25 (by simp [Zo,Zn,Zc,Zbj,Zcm]) fun hl T => ?_
 have hlen : l.length ≤ maxLen := by simp [Zd7,lenA,lenC,Zbj] at hl; exact hl
 unfold Zt6
 obtain ⟨v,hv⟩ : ∃ v,v = Zde l := ⟨_,rfl⟩
 rw [← hv]
 have hml : (l.map EKey.cells).length = l.length := by simp
 dsimp only [Zbj]
 have loop : ∀ (rest pre : List EKey) (a : EKey) (e : Env) (H : Heap),l = pre ++ a :: rest → v = Zde (a :: rest) → e 0 = .c (.lst 2 (l.map EKey.cells)) → e 5 = iC (l.map EKey.cells).length → e 6 = iC ((pre.length + 1 : Nat) : Int) →
   Run (Zu Tryz.prog T) ⟨[.tmp 2],fun u E => Zf E u = some (bC v)⟩ [.loop Zfo,.blk 0,.code Ziy] e H := by
  intro rest
  induction rest with
  | nil =>
   intro pre a e H hp hvv h0 h5 h6
   have hc : ¬ (((pre.length + 1 : Nat) : Int) < ((l.map EKey.cells).length : Int)) := by rw [hml,hp]; simp
   refine Zj ?_
   conv => enter [3,1]; unfold Zfo
   simp only [go_sem,simprocAttr,h0,h5,h6,hc]
   unfold Ziy
   simp only [go_sem,simprocAttr]
   simp only [Zde] at hvv
   simp [Zf,Ze,Zi,Zg,Zh,Zd,Zc,Zb,hvv]
  | cons b rest ih =>
   intro pre a e H hp hvv h0 h5 h6
   have hc : (((pre.length + 1 : Nat) : Int) < ((l.map EKey.cells).length : Int)) := by rw [hml,hp]; simp; omega
   obtain ⟨ra,rb⟩ := Zbdx EKey.cells hp
   have hpos : ((0 : Int) < ((pre.length + 1 : Nat) : Int)) := by omega
   have hpl : pre.length + 2 ≤ l.length := by rw [hp]; simp
   unfold maxLen at hlen
   have hw : IntKind.wrap .i64 (((pre.length + 1 : Nat) : Int) - 1) = (pre.length : Int) := by rw [Zr (by omega)]; omega
   have hn : IntKind.wrap .i64 (((pre.length + 1 : Nat) : Int) + 1) = ((pre.length + 1 + 1 : Nat) : Int) := by rw [Zr (by omega)]; omega
   have hrk : Zde (a :: b :: rest) = (decide (a.epoch < b.epoch) && Zde (b :: rest)) := rfl
   rw [hrk] at hvv
   obtain ⟨ae,ak⟩ := a
   obtain ⟨be,bk⟩ := b
   simp only [EKey.cells] at ra rb
   refine Zj ?_
   conv => enter [3,1]; unfold Zfo
   by_cases c1 : be ≤ ae
   ·have hvf : v = false := by rw [hvv]; have : decide (ae < be) = false := decide_eq_false (by omega); simp only [this,Bool.false_and]
    simp only [go_sem,simprocAttr,h0,h5,h6,hc,hpos,hw,ra,rb,c1]
    simp [Zf,Ze,Zi,Zg,Zh,Zd,Zc,Zb,hvf]
   ·have hvt : decide (ae < be) = true := decide_eq_true (by omega)
    simp only [hvt,Bool.true_and] at hvv
    simp only [go_sem,simprocAttr,h0,h5,h6,hc,hpos,hw,ra,rb,c1,hn]
    refine ih (pre ++ [⟨ae,ak⟩]) ⟨be,bk⟩ _ _ (by rw [hp]; simp) hvv ?_ ?_ ?_
    ·simp only [go_sem,simprocAttr,h0]
    ·simp only [go_sem,simprocAttr,h5]
    ·simp only [go_sem,simprocAttr,hn,List.length_append,List.length_singleton]
 cases l with
 | nil =>
  simp only [go_sem,simprocAttr]
  refine Zj ?_
  conv => enter [3,1]; unfold Zfo
  simp only [go_sem,simprocAttr,List.map_nil,List.length_nil,Int.natCast_zero]
  unfold Ziy
  simp only [go_sem,simprocAttr]
  simp only [Zde] at hv
  simp [Zf,Ze,Zi,Zg,Zh,Zd,Zc,Zb,hv]
 | cons a rest =>
  obtain ⟨L,hL⟩ : ∃ L,L = a :: rest := ⟨_,rfl⟩
  rw [← hL] at hv hml loop ⊢
  have hc : ((0 : Int) < ((L.map EKey.cells).length : Int)) := by rw [hml,hL]; simp <;> omega
  have hn : IntKind.wrap .i64 ((0 : Int) + 1) = (([] : List EKey).length + 1 : Nat) := by decide
  have h00 : ¬ ((0 : Int) < 0) := by omega
  simp only [go_sem,simprocAttr]
  refine Zj ?_
  conv => enter [3,1]; unfold Zfo
  simp only [go_sem,simprocAttr,hc,h00,hn]
  refine loop rest [] a _ _ hL (by rw [hv,hL]) ?_ ?_ ?_
  ·simp only [go_sem,simprocAttr]
  ·simp only [go_sem,simprocAttr]
  ·simp only [go_sem,simprocAttr] <;> rfl
theorem Zxn (l : List EKey) : Pr 81 [.c (Zbj l)] (bC (Zde l)) := by
 refine Zl mixed Zxe (by simp [Zo,Zn,Zc,Zbj,Zcm]) fun hl T => ?_
 have hlen : l.length ≤ maxLen := by simp [Zd7,lenA,lenC,Zbj] at hl; exact hl
 unfold Zp5
 obtain ⟨v,hv⟩ : ∃ v,v = Zde l := ⟨_,rfl⟩
 rw [← hv]
 have hml : (l.map EKey.cells).length = l.length := by simp
 dsimp only [Zbj]
 have loop : ∀ (rest pre : List EKey) (a : EKey) (e : Env) (H : Heap),l = pre ++ a :: rest → v = Zde (a :: rest) → e 0 = .c (.lst 2 (l.map EKey.cells)) → e 3 = iC ((pre.length + 1 : Nat) : Int) →
   Run (Zu Tryz.prog T) ⟨[.tmp 2],fun u E => Zf E u = some (bC v)⟩ [.loop Ze8,.blk 0,.code Zgu] e H := by
  intro rest
  induction rest with
  | nil =>
   intro pre a e H hp hvv h0 h6
   have hc : ¬ (((pre.length + 1 : Nat) : Int) < ((l.map EKey.cells).length : Int)) := by rw [hml,hp]; simp
   refine Zj ?_
   conv => enter [3,1]; unfold Ze8
   simp only [go_sem,simprocAttr,h0,h6,hc]
   unfold Zgu
   simp only [go_sem,simprocAttr]
   simp only [Zde] at hvv
   simp [Zf,Ze,Zi,Zg,Zh,Zd,Zc,Zb,hvv]
  | cons b rest ih =>
   intro pre a e H hp hvv h0 h6
   have hc : (((pre.length + 1 : Nat) : Int) < ((l.map EKey.cells).length : Int)) := by rw [hml,hp]; simp; omega
   obtain ⟨ra,rb⟩ := Zbdx EKey.cells hp
   have hpl : pre.length + 2 ≤ l.length := by rw [hp]; simp
   unfold maxLen at hlen
   have hw : IntKind.wrap .i64 (((pre.length + 1 : Nat) : Int) - 1) = (pre.length : Int) := by rw [Zr (by omega)]; omega
   have hn : IntKind.wrap .i64 (((pre.length + 1 : Nat) : Int) + 1) = ((pre.length + 1 + 1 : Nat) : Int) := by rw [Zr (by omega)]; omega
   have hrk : Zde (a :: b :: rest) = (decide (a.epoch < b.epoch) && Zde (b :: rest)) := rfl
   rw [hrk] at hvv
   obtain ⟨ae,ak⟩ := a
   obtain ⟨be,bk⟩ := b
   simp only [EKey.cells] at ra rb
   refine Zj ?_
   conv => enter [3,1]; unfold Ze8
   by_cases c1 : be ≤ ae
   ·have hvf : v = false := by rw [hvv]; have : decide (ae < be) = false := decide_eq_false (by omega); simp only [this,Bool.false_and]
    simp only [go_sem,simprocAttr,h0,h6,hc,hw,ra,rb,c1]
    simp [Zf,Ze,Zi,Zg,Zh,Zd,Zc,Zb,hvf]
   ·have hvt : decide (ae < be) = true := decide_eq_true (by omega)
    simp only [hvt,Bool.true_and] at hvv
    simp only [go_sem,simprocAttr,h0,h6,hc,hw,ra,rb,c1,hn]
    refine ih (pre ++ [⟨ae,ak⟩]) ⟨be,bk⟩ _ _ (by rw [hp]; simp) hvv ?_ ?_
    ·simp only [go_sem,simprocAttr,h0]
    ·simp only [go_sem,simprocAttr,hn,List.length_append,List.length_singleton]
 cases l with
 | nil =>
  simp only [go_sem,simprocAttr]
  refine Zj ?_
  conv => enter [3,1]; unfold Ze8
  simp only [go_sem,simprocAttr,List.map_nil,List.length_nil,Int.natCast_zero]
  unfold Zgu
  simp only [go_sem,simprocAttr]
  simp only [Zde] at hv
  simp [Zf,Ze,Zi,Zg,Zh,Zd,Zc,Zb,hv]
 | cons a rest =>
  simp only [go_sem,simprocAttr]
  refine loop rest [] a _ _ rfl hv ?_ ?_
  ·simp only [go_sem,simprocAttr]
  ·simp only [go_sem,simprocAttr,List.length_nil,Nat.zero_add] <;> rfl
theorem Znw {l : List EKey} {epoch : Int} : Zh3 l epoch = (l.find? fun k => decide (k.epoch = epoch)).map EKey.key := rfl
theorem Z40 (l : List EKey) (epoch : Int) : Pr 127 [.c (Zbj l),iC epoch] (.tup [sC (optS (Zh3 l epoch)),bC (Zh3 l epoch).isSome]) := by
 have hidx := Zlx l 163 [.fp [.int .i64 epoch] 0] (fun k => decide (k.epoch = epoch)) rfl (fun f => Z0l f epoch)
 have hf := Zmj (q := fun k : EKey => decide (k.epoch = epoch)) l 0
 rw [Znw]
 refine Zl mixed Z4r (by simp [Zo,Zn,Zc,Zbj,Zcm]) fun hl T => ?_
 have hbx : ∀ H : Heap,mkF H (vBox (iC epoch) H) = some (.c (.fp [.int .i64 epoch] 0)) := fun H => Zpw rfl
 unfold Zut
 dsimp only [Zbj]
 simp only [go_sem,simprocAttr,hbx]
 refine Za hidx ?_
 rcases hf with ⟨h1,h2⟩ | ⟨k,x,h1,h2,h3⟩
 ·rw [h1,h2]
  simp only [go_sem,simprocAttr,idxN]
  simp [Zf,Ze,Zi,Zg,Zh,Zd,Zc,Zb,optS]
 ·rw [h1,h3]
  have hk : ¬ ((k : Int) < 0) := by omega
  have hr : (l.map EKey.cells)[k]? = some x.cells := map_some h2
  obtain ⟨xe,xk⟩ := x
  simp only [EKey.cells] at hr
  simp only [go_sem,simprocAttr,idxN,Nat.zero_add,hk,hr]
  simp [Zf,Ze,Zi,Zg,Zh,Zd,Zc,Zb,optS]
theorem Z6y (l : List EKey) (epoch : Int) : Pr 39 [.c (Zbj l),iC epoch] (.agg [.str (optS (Zh3 l epoch)),.bool (Zh3 l epoch).isSome]) := by
 rw [Znw]
 refine Zl mixed Z63 (by simp [Zo,Zn,Zc,Zbj,Zcm]) fun hl T => ?_
 have hlen : l.length ≤ maxLen := by simp [Zd7,lenA,lenC,Zbj] at hl; exact hl
 unfold Zyc
 dsimp only [Zbj]
 obtain ⟨o,ho⟩ : ∃ o,o = l.find? fun k => decide (k.epoch = epoch) := ⟨_,rfl⟩
 rw [← ho]
 have loop : ∀ (rest pre : List EKey) (e : Env),l = pre ++ rest → o = rest.find? (fun k => decide (k.epoch = epoch)) → e 0 = .c (.lst 2 (l.map EKey.cells)) → e 1 = iC epoch → e 4 = .c (.ptr 0 0 0) → e 5 = iC pre.length →
   Run (Zu Tryz.prog T) ⟨[.cell 4 true 2],fun u E => Zf E u = some (.agg [.str (optS (o.map EKey.key)),.bool (o.map EKey.key).isSome])⟩ [.loop Zlf,.blk 0,.code Zp0] e [{ sz := 2,rows := [[.str ⟨#[]⟩,.bool false]],own := true,live := true }] := by
  intro rest
  induction rest with
  | nil =>
   intro pre e hp hoo h0 h1 h4 h5
   have hc := Zcf (f := EKey.cells) hp
   refine Zj ?_
   conv => enter [3,1]; unfold Zlf
   simp only [go_sem,simprocAttr,h0,h5,hc]
   unfold Zp0
   simp only [go_sem,simprocAttr,h4]
   rw [hoo]
   simp [Zf,Ze,Zi,Zg,Zh,Zd,Zc,Zb,optS]
  | cons x rest ih =>
   intro pre e hp hoo h0 h1 h4 h5
   have hc := Zer (f := EKey.cells) hp
   have hr := Zb6 (f := EKey.cells) hp
   have hn := Zbt hp hlen
   obtain ⟨xe,xk⟩ := x
   simp only [EKey.cells] at hr
   refine Zj ?_
   conv => enter [3,1]; unfold Zlf
   by_cases c1 : xe = epoch
   ·rw [List.find?_cons_of_pos (by simp [c1])] at hoo
    simp only [go_sem,simprocAttr,h0,h1,h4,h5,hc,hr,c1]
    rw [hoo]
    simp [Zf,Ze,Zi,Zg,Zh,Zd,Zc,Zb,optS]
   ·rw [List.find?_cons_of_neg (by simp [c1])] at hoo
    simp only [go_sem,simprocAttr,h0,h1,h4,h5,hc,hr,c1,hn]
    refine ih (pre ++ [⟨xe,xk⟩]) _ (by rw [hp]; simp) hoo ?_ ?_ ?_ ?_
    ·simp only [go_sem,simprocAttr,h0]
    ·simp only [go_sem,simprocAttr,h1]
    ·simp only [go_sem,simprocAttr,h4]
    ·simp only [go_sem,simprocAttr,hn]
 simp only [go_sem,simprocAttr]
 refine loop l [] _ rfl ho ?_ ?_ ?_ ?_
 all_goals simp only [go_sem,simprocAttr,List.length_nil,Int.natCast_zero]
theorem Zbiq {own : ByteArray} {r : Rec} {dev : Int} {w : Wrp} (h : r.wraps.find? (fun w => decide (w.dev = dev)) = some w) : Zfz own r dev = (match Zcr (Zdf own) (Zc6 r.seq) (Zcp r) w.box with | none => none | some k => if k.size = 32 then some k else none) := by
 unfold Zfz
 rw [h]
 rfl
theorem Zph (own : ByteArray) (r : Rec) (dev : Int) (hk : own.size ≤ 1000000) (hb : ∀ w ∈ r.wraps,w.box.size ≤ 4611686018427387904) : Pr 23 [sC own,.agg r.cells,iC dev] (.tup [sC (optS (Zfz own r dev)),bC (Zfz own r dev).isSome]) := by
 have hidx := Zpl r.wraps 63 [.fp [.int .i64 dev] 0] (fun k => decide (k.dev = dev)) rfl (fun f => Z2k f dev)
 have hf := Zmj (q := fun k : Wrp => decide (k.dev = dev)) r.wraps 0
 have hcl := Rec.closed r
 have hh := Zr0 r
 have hw := Zvw own hk
 have hn := Ztw r.seq
 have hwz := Z1a own
 have hhs := Zof r
 rcases hf with ⟨h1,h2⟩ | ⟨k,x,h1,h2,h3⟩
 ·rw [Z14 h2]
  rw [h1] at hidx
  refine Zl mixed Zuq (by simp [Zo,Zn,Zc,hcl]) fun hl T => ?_
  have hbx : ∀ H : Heap,mkF H (vBox (.agg r.cells) H) = some (.c (.fp r.cells 0)) := fun H => Zbs hcl
  have hbd : ∀ H : Heap,mkF H (vBox (iC dev) H) = some (.c (.fp [.int .i64 dev] 0)) := fun H => Zpw rfl
  unfold Zrj
  obtain ⟨seq,prev,kind,dv,wraps,tag⟩ := r
  simp only [Rec.cells,Zx] at hbx hcl hidx ⊢
  simp only [go_sem,simprocAttr,hbx,hbd]
  refine Za hidx ?_
  simp only [go_sem,simprocAttr,idxN]
  simp [Zf,Ze,Zi,Zg,Zh,Zd,Zc,Zb,optS]
 ·have hop := Z85 (Zdf own) (Zc6 r.seq) (Zcp r) x.box hhs (hb x (List.mem_of_getElem? h2))
  rw [Zbiq h3]
  rw [h1,Nat.zero_add] at hidx
  have hk0 : ¬ ((k : Int) < 0) := by omega
  have hr : (r.wraps.map Wrp.cells)[k]? = some x.cells := map_some h2
  refine Zl mixed Zuq (by simp [Zo,Zn,Zc,hcl]) fun hl T => ?_
  have hbx : ∀ H : Heap,mkF H (vBox (.agg r.cells) H) = some (.c (.fp r.cells 0)) := fun H => Zbs hcl
  have hbd : ∀ H : Heap,mkF H (vBox (iC dev) H) = some (.c (.fp [.int .i64 dev] 0)) := fun H => Zpw rfl
  unfold Zrj
  generalize Zcr (Zdf own) (Zc6 r.seq) (Zcp r) x.box = od at hop ⊢
  generalize Zdf own = wk at hw hop
  generalize Zcp r = hd at hh hop
  obtain ⟨seq,prev,kind,dv,wraps,tag⟩ := r
  obtain ⟨xd,xb⟩ := x
  simp only [Rec.cells,Wrp.cells,Zx] at hbx hcl hidx hh hn hr ⊢
  simp only at hop
  generalize Zc6 seq = nd at hn hop
  simp only [go_sem,simprocAttr,hbx,hbd]
  refine Za hidx ?_
  simp only [go_sem,simprocAttr,idxN,hk0]
  refine Za hw ?_
  simp only [go_sem,simprocAttr]
  refine Za hn ?_
  simp only [go_sem,simprocAttr]
  refine Za hh ?_
  simp only [go_sem,simprocAttr,hr]
  refine Za hop ?_
  cases od with
  | none =>
   simp only [go_sem,simprocAttr,optS,Option.isSome]
   simp [Zf,Ze,Zi,Zg,Zh,Zd,Zc,Zb,optS]
  | some key =>
   by_cases hks : key.size = 32
   ·have hks' : (key.size : Int) = 32 := by omega
    simp only [go_sem,simprocAttr,optS,Option.isSome,Option.getD,hks']
    simp [Zf,Ze,Zi,Zg,Zh,Zd,Zc,Zb,optS,hks]
   ·have hks' : ¬ ((key.size : Int) = 32) := by omega
    simp only [go_sem,simprocAttr,optS,Option.isSome,Option.getD,hks']
    simp [Zf,Ze,Zi,Zg,Zh,Zd,Zc,Zb,optS,hks]
theorem Zt1 (own : ByteArray) (r : Rec) (dev : Int) (hk : own.size ≤ 1000000) (hb : ∀ w ∈ r.wraps,w.box.size ≤ 4611686018427387904) : Pr 31 [sC own,.agg r.cells,iC dev] (.agg [.str (optS (Zfz own r dev)),.bool (Zfz own r dev).isSome]) := by
 have hcl := Rec.closed r
 have hh := Zx5 r
 have hw := Zx3 own hk
 have hn := Zuv r.seq
 have hhs := Zof r
 have hop := fun x (hx : x ∈ r.wraps) => Zba4 (Zdf own) (Zc6 r.seq) (Zcp r) x.box hhs (hb x hx)
 obtain ⟨o,ho⟩ : ∃ o,o = Zfz own r dev := ⟨_,rfl⟩
 have hov : o = (match r.wraps.find? fun w => decide (w.dev = dev) with
  | none => none
  | some w => match Zcr (Zdf own) (Zc6 r.seq) (Zcp r) w.box with
   | none => none
   | some k => if k.size = 32 then some k else none) := by rw [ho]; rfl
 rw [← ho]
 refine Zl mixed Z5p (by simp [Zo,Zn,Zc,hcl]) fun hl T => ?_
 have hlen : r.wraps.length ≤ maxLen := by
  have h1 : lenC (Zx r.wraps) := hl (.agg r.cells) (by simp) _ (by simp [Rec.cells])
  simpa [lenC,Zx] using h1
 have hbx : ∀ H : Heap,mkF H (vBox (.agg r.cells) H) = some (.c (.fp r.cells 0)) := fun H => Zbs hcl
 unfold Zvf
 clear ho hl
 generalize Zdf own = wk at hw hop hov
 generalize Zcp r = hd at hh hop hov
 obtain ⟨seq,prev,kind,dv,wraps,tag⟩ := r
 simp only [Rec.cells,Zx] at hbx hcl hh hn ⊢
 simp only at hop hov hlen
 generalize Zc6 seq = nd at hn hop hov
 have loop : ∀ (rest pre : List Wrp) (e : Env),wraps = pre ++ rest → o = (match rest.find? fun w => decide (w.dev = dev) with
   | none => none
   | some w => match Zcr wk nd hd w.box with
    | none => none
    | some k => if k.size = 32 then some k else none) → e 0 = sC own → e 2 = iC dev → e 4 = .c (.fp [.int .i64 seq,.str prev,.int .i64 kind,.int .i64 dv,.lst 2 (wraps.map Wrp.cells),.str tag] 0) → e 6 = .c (.ptr 0 0 0) → e 7 = iC pre.length →
   Run (Zu Tryz.prog T) ⟨[.cell 6 true 2],fun u E => Zf E u = some (.agg [.str (optS o),.bool o.isSome])⟩ [.loop Zkb,.blk 0,.code Zne] e [{ sz := 2,rows := [[.str ⟨#[]⟩,.bool false]],own := true,live := true }] := by
  intro rest
  induction rest with
  | nil =>
   intro pre e hp hoo h0 h2 h4 h6 h7
   have hc := Zcf (f := Wrp.cells) hp
   refine Zj ?_
   conv => enter [3,1]; unfold Zkb
   simp only [go_sem,simprocAttr,h4,h7,hc]
   unfold Zne
   simp only [go_sem,simprocAttr,h6]
   simp only [List.find?_nil] at hoo
   rw [hoo]
   simp [Zf,Ze,Zi,Zg,Zh,Zd,Zc,Zb,optS]
  | cons x rest ih =>
   intro pre e hp hoo h0 h2 h4 h6 h7
   have hc := Zer (f := Wrp.cells) hp
   have hr := Zb6 (f := Wrp.cells) hp
   have hn1 := Zbt hp hlen
   have hopx := hop x (by rw [hp]; simp)
   obtain ⟨xd,xb⟩ := x
   simp only [Wrp.cells] at hr
   simp only at hopx
   refine Zj ?_
   conv => enter [3,1]; unfold Zkb
   by_cases c1 : xd = dev
   ·rw [List.find?_cons_of_pos (by simp [c1])] at hoo
    simp only at hoo
    simp only [go_sem,simprocAttr,h0,h2,h4,h6,h7,hc,hr,c1]
    refine Za hw ?_
    simp only [go_sem,simprocAttr,h4]
    refine Za hn ?_
    simp only [go_sem,simprocAttr,h4]
    refine Za hh ?_
    simp only [go_sem,simprocAttr,h4,h7,hr]
    refine Za hopx ?_
    cases hod : Zcr wk nd hd xb with
    | none =>
     rw [hod] at hoo
     simp only at hoo
     simp only [go_sem,simprocAttr,h6,optS,Option.isSome]
     rw [hoo]
     simp [Zf,Ze,Zi,Zg,Zh,Zd,Zc,Zb,optS]
    | some key =>
     rw [hod] at hoo
     simp only at hoo
     by_cases hks : key.size = 32
     ·have hks' : (key.size : Int) = 32 := by omega
      rw [if_pos hks] at hoo
      simp only [go_sem,simprocAttr,h6,optS,Option.isSome,Option.getD,hks']
      rw [hoo]
      simp [Zf,Ze,Zi,Zg,Zh,Zd,Zc,Zb,optS]
     ·have hks' : ¬ ((key.size : Int) = 32) := by omega
      rw [if_neg hks] at hoo
      simp only [go_sem,simprocAttr,h6,optS,Option.isSome,Option.getD,hks']
      rw [hoo]
      simp [Zf,Ze,Zi,Zg,Zh,Zd,Zc,Zb,optS]
   ·rw [List.find?_cons_of_neg (by simp [c1])] at hoo
    simp only [go_sem,simprocAttr,h0,h2,h4,h6,h7,hc,hr,c1,hn1]
    refine ih (pre ++ [⟨xd,xb⟩]) _ (by rw [hp]; simp) hoo ?_ ?_ ?_ ?_ ?_
    ·simp only [go_sem,simprocAttr,h0]
    ·simp only [go_sem,simprocAttr,h2]
    ·simp only [go_sem,simprocAttr,h4]
    ·simp only [go_sem,simprocAttr,h6]
    ·simp only [go_sem,simprocAttr,hn1]
 simp only [go_sem,simprocAttr,hbx]
 refine loop wraps [] _ rfl hov ?_ ?_ ?_ ?_ ?_
 all_goals simp only [go_sem,simprocAttr,List.length_nil,Int.natCast_zero]
end Go.Proofs.YticmfblfghdkbaaGreatDoor.Eng
namespace Go.Proofs.YticmfblfghdkbaaGreatDoor.Eng
open Go Go.RowKit Go.Extern.Stop Go.Stop Go.Extern
theorem Z8w (t : Value) (w : World) :
  Calls Tryz.prog 97 #[.nilIface,t] w fun e w' => e = .returned (.bool false) ∧ w' = w := by
 go_enter Tryz.func97,Tryz.ntmps97
 go_wp2
 go_ret
 exact ⟨rfl,rfl⟩
theorem Z1f (t : Addr) (w : World) : (ReflectliteValue.unpack (.iface 140 (.pointer (some t)))).run Tryz.prog w
  = .ok (.agg #[.pointer (some ⟨7,140,none⟩),.pointer (some ⟨w.heap.size,0,none⟩),.int .u64 150]) (w.alloc (.cells #[.pointer (some t)] 140)) := by kernel_rfl
theorem Z76 (a : Addr) (w : World) : (ReflectliteValue.methodAny (ReflectliteValue.valueError "reflectlite.Value.Type" 0) (fun t _ _ _ => ReflectliteType.toType t) #[.agg #[.pointer (some ⟨7,140,none⟩),.pointer (some a),.int .u64 150]]).run Tryz.prog w
  = .ok (.iface 235 (.agg #[.pointer (some ⟨7,140,none⟩)])) w := by kernel_rfl
theorem Zxo (h : Value) (w : World) : (Go.method 437 235 (.agg #[h]) "Kind").run Tryz.prog w = .ok (252,h) w := by kernel_rfl
theorem Z8g (w : World) : ((ReflectliteType.abiMethod fun t => (fun a : Nat => Value.int IntKind.u8 (a : Int)) <$> Rtype.kind t) #[.pointer (some ⟨7,140,none⟩)]).run Tryz.prog w = .ok (.int .u8 22) w := by kernel_rfl
theorem Z7r (w : World) : ((ReflectliteType.abiMethod fun t => (fun a : Nat => Value.int IntKind.u8 (a : Int)) <$> Rtype.kind t) #[.pointer (some ⟨7,136,none⟩)]).run Tryz.prog w = .ok (.int .u8 25) w := by kernel_rfl
theorem Z7t (z : Sem Value) (f : TypeId → Addr → Nat → Nat → Sem Value) (v : Value) :
  ReflectliteValue.method z f #[v] = (do match ← ReflectliteValue.parts v with | none => z | some (t,a,fl) => f t a fl (fl % 32)) := rfl
theorem Zty (a : Addr) (w : World) : (ReflectliteValue.parts (.agg #[.pointer (some ⟨7,140,none⟩),.pointer (some a),.int .u64 150])).run Tryz.prog w = .ok (some (140,a,150)) w := by kernel_rfl
theorem Z8h (a p : Addr) (W : World) (ha : W.cell? a = some (.pointer (some p))) :
  (ReflectliteValue.method (ReflectliteValue.valueError "reflectlite.Value.IsNil" 0) ReflectliteValue.isNil #[.agg #[.pointer (some ⟨7,140,none⟩),.pointer (some a),.int .u64 150]]).run Tryz.prog W = .ok (.bool false) W := by
 rw [Z7t]
 simp only [Sem.run_bind,Zty,Result.andThen]
 simp [ReflectliteValue.isNil,loadVar,isAgg,underlying,Tryz.underlying140,ha,Result.andThen]
theorem Zxm (h : Value) (w : World) : (Go.method 437 235 (.agg #[h]) "Elem").run Tryz.prog w = .ok (275,.agg #[h]) w := by kernel_rfl
theorem Zp8 (h : Value) (w : World) : (Go.method 437 235 (.agg #[h]) "Implements").run Tryz.prog w = .ok (276,.agg #[h]) w := by kernel_rfl
theorem Zos (h : Value) (w : World) : (Go.method 437 235 (.agg #[h]) "AssignableTo").run Tryz.prog w = .ok (273,.agg #[h]) w := by kernel_rfl
theorem Z7a (w : World) : (ReflectliteType.method ReflectliteType.elem #[.agg #[.pointer (some ⟨7,140,none⟩)]]).run Tryz.prog w = .ok (.iface 235 (.agg #[.pointer (some ⟨7,136,none⟩)])) w := by kernel_rfl
theorem Zwm (w : World) : (ReflectliteType.relation "Implements" ReflectliteType.implements_ #[.agg #[.pointer (some ⟨7,136,none⟩)],.iface 235 (.agg #[.pointer (some ⟨7,98,none⟩)])]).run Tryz.prog w = .ok (.bool true) w := by kernel_rfl
theorem Z24 (v : Value) (w : World) : (ReflectliteType.typeOf #[.iface 136 v]).run Tryz.prog w = .ok (.iface 235 (.agg #[.pointer (some ⟨7,136,none⟩)])) w := by kernel_rfl
theorem Z2h (v : Value) (w : World) : (ReflectliteType.typeOf #[.iface 138 v]).run Tryz.prog w = .ok (.iface 235 (.agg #[.pointer (some ⟨7,138,none⟩)])) w := by kernel_rfl
theorem Z2y (w : World) : (ReflectliteType.relation "AssignableTo" ReflectliteType.assignableTo #[.agg #[.pointer (some ⟨7,136,none⟩)],.iface 235 (.agg #[.pointer (some ⟨7,136,none⟩)])]).run Tryz.prog w = .ok (.bool true) w := by kernel_rfl
theorem Z20 (w : World) : (ReflectliteType.relation "AssignableTo" ReflectliteType.assignableTo #[.agg #[.pointer (some ⟨7,138,none⟩)],.iface 235 (.agg #[.pointer (some ⟨7,136,none⟩)])]).run Tryz.prog w = .ok (.bool false) w := by kernel_rfl
theorem Zzv (n : Int) (w : World) : (ReflectliteValue.unpack (.iface 136 (.agg #[.int .i64 n]))).run Tryz.prog w
  = .ok (.agg #[.pointer (some ⟨7,136,none⟩),.pointer (some ⟨w.heap.size,0,none⟩),.int .u64 153]) (w.alloc (.cells #[.int .i64 n] 136)) := by kernel_rfl
theorem Z4w (w : World) : (Rtype.elem? 140).run Tryz.prog w = .ok (some 136) w := by kernel_rfl
theorem Zbe2 (p : Addr) (w : World) : (ReflectliteValue.mk 136 p ReflectliteValue.flagAddr).run Tryz.prog w = .ok (.agg #[.pointer (some ⟨7,136,none⟩),.pointer (some p),.int .u64 409]) w := by kernel_rfl
theorem Z6p (a p : Addr) (W : World) (ha : W.cell? a = some (.pointer (some p))) :
  (ReflectliteValue.method (ReflectliteValue.valueError "reflectlite.Value.Elem" 0) ReflectliteValue.elem #[.agg #[.pointer (some ⟨7,140,none⟩),.pointer (some a),.int .u64 150]]).run Tryz.prog W
   = .ok (.agg #[.pointer (some ⟨7,136,none⟩),.pointer (some p),.int .u64 409]) W := by
 rw [Z7t]
 simp only [Sem.run_bind,Zty,Result.andThen]
 simp [ReflectliteValue.elem,loadVar,isAgg,underlying,Tryz.underlying140,ha,Result.andThen,Z4w,Zbe2]
theorem Zbg6 (v x : Value) : ReflectliteValue.set #[v,x] = (do
  let (some (dst,a,fl),some (src,b,_)) := (← ReflectliteValue.parts v,← ReflectliteValue.parts x)
   | unsupported (.noEntry "extern/(internal/reflectlite.Value).Set.zeroValue")
  if fl / ReflectliteValue.flagAddr % 2 == 0 then unsupported (.noEntry "extern/(internal/reflectlite.Value).Set.unaddressable")
  let val ← loadVar src b
  if ← Rtype.directlyAssignable dst src then storeVar dst a val
  else if ← Rtype.implements dst src then
   if (← Rtype.kind src) == 20 then
    match val with
    | .nilIface => unsupported (.noEntry "extern/reflectlite: a nil value of one interface type handed on as a value of another")
    | _ => storeVar dst a val
   else storeVar dst a (.iface src val)
  else panicString ("reflectlite.Set: value of type " ++ (← Rtype.spelt src) ++ " is not assignable to type " ++ (← Rtype.spelt dst))
  pure (.tuple #[])) := rfl
theorem Z4y (a : Addr) (w : World) : (ReflectliteValue.parts (.agg #[.pointer (some ⟨7,136,none⟩),.pointer (some a),.int .u64 409])).run Tryz.prog w = .ok (some (136,a,409)) w := by kernel_rfl
theorem Z5s (a : Addr) (w : World) : (ReflectliteValue.parts (.agg #[.pointer (some ⟨7,136,none⟩),.pointer (some a),.int .u64 153])).run Tryz.prog w = .ok (some (136,a,153)) w := by kernel_rfl
theorem Z5l (w : World) : (Rtype.directlyAssignable 136 136).run Tryz.prog w = .ok true w := by kernel_rfl
theorem Z9s (w : World) : (sizeOf 136).run Tryz.prog w = .ok 1 w := by kernel_rfl
theorem Zbbi (ta b : Addr) (n : Int) (old : Value) (W : World) (hb : W.cell? b = some (.int .i64 n)) (ht : W.cell? ta = some old) (hf : W.frozen? ta = false) :
  (ReflectliteValue.set #[.agg #[.pointer (some ⟨7,136,none⟩),.pointer (some ta),.int .u64 409],.agg #[.pointer (some ⟨7,136,none⟩),.pointer (some b),.int .u64 153]]).run Tryz.prog W
   = .ok (.tuple #[]) (W.setCell ta (.int .i64 n)) := by
 have hl : (loadCellsFrom b 0 1 #[]).run Tryz.prog W = .ok #[.int .i64 n] W := by
  have := run_loadCellsFrom (P := Tryz.prog) (w := W) b (fun _ => .int .i64 n) 1 0 #[] (fun j hj => by
   have : j = 0 := by omega
   subst this
   simpa [Addr.add] using hb)
  simpa using this
 rw [Zbg6]
 simp only [Sem.run_bind,Z4y,Z5s,Result.andThen]
 simp [ReflectliteValue.flagAddr,loadVar,isAgg,underlying,Tryz.underlying136,Z9s,loadCells,hl,Result.andThen,Z5l,storeVar,Value.cells,storeCells,Addr.add]
 rw [run_store Tryz.prog W ta _ _ (by rfl)]
 simp [ht,hf]
theorem Zbbe (v : Value) (xT : TypeId) (w : World) : (Instr.typeAssert (.iface 138 v) xT 250 true).run Tryz.prog w = .ok (.tuple #[.nilIface,.bool false]) w := run_typeAssert_lacksB Tryz.underlying250 (by kernel_rfl) (by kernel_rfl) v xT w
theorem Z0o (v : Value) (xT : TypeId) (w : World) : (Instr.typeAssert (.iface 138 v) xT 240 true).run Tryz.prog w = .ok (.tuple #[.iface 138 v,.bool true]) w := run_typeAssert_hasB Tryz.underlying240 (by kernel_rfl) v xT w
theorem Zwp (v : Value) (w : World) : (Go.method 437 138 v "Unwrap").run Tryz.prog w = .ok (258,v) w := by kernel_rfl
set_option maxRecDepth 20000 in
set_option maxHeartbeats 4000000 in
theorem Z7l (x0 : ByteArray) (q : Int) (t : Addr) (old : Value) (w : World) (hg : w.cell? ⟨0,0,none⟩ = some (.iface 235 (.agg #[.pointer (some ⟨7,98,none⟩)]))) (ht0 : w.cell? t = some old) (hf0 : w.frozen? t = false) :
  Calls Tryz.prog 97 #[.iface 138 (.agg #[.string x0,.iface 136 (.agg #[.int .i64 q])]),.iface 140 (.pointer (some t))] w fun e w' => e = .returned (.bool true) ∧
   ∃ w1,Below w.heap.size w w1 ∧ w.drawn ≤ w1.drawn ∧ w' = w1.setCell t (.int .i64 q) := by
 have h6 := @run_callFunc_extern Tryz.prog 144 _ (fun args => ReflectliteValue.unpack (args.getD 0 (.tuple #[]))) Tryz.func144 (by kernel_rfl) (by kernel_rfl) (by kernel_rfl) (by kernel_rfl)
 have h7 := @run_callFunc_extern Tryz.prog 145 _ (ReflectliteValue.methodAny (ReflectliteValue.valueError "reflectlite.Value.Type" 0) (fun t _ _ _ => ReflectliteType.toType t)) Tryz.func145 (by kernel_rfl) (by kernel_rfl) (by kernel_rfl) (by kernel_rfl)
 have h8 := @run_callFunc_extern Tryz.prog 146 _ (ReflectliteValue.method (ReflectliteValue.valueError "reflectlite.Value.IsNil" 0) ReflectliteValue.isNil) Tryz.func146 (by kernel_rfl) (by kernel_rfl) (by kernel_rfl) (by kernel_rfl)
 have h27 := @run_callFunc_extern Tryz.prog 252 _ (ReflectliteType.abiMethod fun t => do pure (.int .u8 (← Rtype.kind t))) Tryz.func252 (by kernel_rfl) (by kernel_rfl) (by kernel_rfl) (by kernel_rfl)
 have h37 := @run_callFunc_extern Tryz.prog 275 _ (ReflectliteType.method ReflectliteType.elem) Tryz.func275 (by kernel_rfl) (by kernel_rfl) (by kernel_rfl) (by kernel_rfl)
 have h38 := @run_callFunc_extern Tryz.prog 276 _ (ReflectliteType.relation "Implements" ReflectliteType.implements_) Tryz.func276 (by kernel_rfl) (by kernel_rfl) (by kernel_rfl) (by kernel_rfl)
 have h10 := @run_callFunc_extern Tryz.prog 139 _ ReflectliteType.typeOf Tryz.func139 (by kernel_rfl) (by kernel_rfl) (by kernel_rfl) (by kernel_rfl)
 have h35 := @run_callFunc_extern Tryz.prog 273 _ (ReflectliteType.relation "AssignableTo" ReflectliteType.assignableTo) Tryz.func273 (by kernel_rfl) (by kernel_rfl) (by kernel_rfl) (by kernel_rfl)
 have h11 := @run_callFunc_extern Tryz.prog 177 _ (ReflectliteValue.method (ReflectliteValue.valueError "reflectlite.Value.Elem" 0) ReflectliteValue.elem) Tryz.func177 (by kernel_rfl) (by kernel_rfl) (by kernel_rfl) (by kernel_rfl)
 have h12 := @run_callFunc_extern Tryz.prog 178 _ ReflectliteValue.set Tryz.func178 (by kernel_rfl) (by kernel_rfl) (by kernel_rfl) (by kernel_rfl)
 have tR := Z24
 have tD := Z2h
 have mA := Zos
 have aR := Z2y
 have aD := Z20
 have vR := Zzv
 have f6 := Z1f
 have f7 := Z76
 have mK := Zxo
 have mE := Zxm
 have mI := Zp8
 have kP := Z8g
 have kR := Z7r
 have eP := Z7a
 have iR := Zwm
 have nE := Zbbe
 have uW := Z0o
 have mU := Zwp
 have hlt : 0 < w.heap.size := by
  rcases Nat.lt_or_ge 0 w.heap.size with h | h
  ·exact h
  ·simp [World.cell?,Array.getElem?_eq_none h] at hg
 have htl : t.block < w.heap.size := by
  rcases Nat.lt_or_ge t.block w.heap.size with h | h
  ·exact h
  ·simp [World.cell?,Array.getElem?_eq_none h] at ht0
 have n8 := Z8h ⟨w.heap.size,0,none⟩ t (((w.alloc (.cells #[.pointer (some t)] 140)).alloc (.cells #[.pointer (some ⟨7,140,none⟩),.pointer (some ⟨w.heap.size,0,none⟩),.int .u64 150] 195))) (by simp)
 have hg2 : (((w.alloc (.cells #[.pointer (some t)] 140)).alloc (.cells #[.pointer (some ⟨7,140,none⟩),.pointer (some ⟨w.heap.size,0,none⟩),.int .u64 150] 195))).cell? ⟨0,0,none⟩ = some (.iface 235 (.agg #[.pointer (some ⟨7,98,none⟩)])) := by
  rw [World.cell?_alloc_lt _ _ ⟨0,0,none⟩ (by simp <;> omega),World.cell?_alloc_lt _ _ ⟨0,0,none⟩ hlt]; exact hg
 have hu : ∀ a b c d e : Value,(#[a,b,c,d,e] : Array Value).getD 2 undef = c := fun _ _ _ _ _ => rfl
 have el := Z6p ⟨w.heap.size,0,none⟩ t (((((w.alloc (.cells #[.pointer (some t)] 140)).alloc (.cells #[.pointer (some ⟨7,140,none⟩),.pointer (some ⟨w.heap.size,0,none⟩),.int .u64 150] 195)).alloc (.cells #[.pointer (some ⟨7,140,none⟩),.pointer (some ⟨w.heap.size,0,none⟩),.int .u64 150] 195)).alloc (.cells #[.string x0,.iface 136 (.agg #[.int .i64 q])] 138)))
  (by rw [World.cell?_alloc_lt _ _ ⟨w.heap.size,0,none⟩ (by simp; omega),World.cell?_alloc_lt _ _ ⟨w.heap.size,0,none⟩ (by simp; omega)]; simp)
 have st := Zbbi t ⟨w.heap.size + 1 + 1 + 1 + 1,0,none⟩ q old ((((((w.alloc (.cells #[.pointer (some t)] 140)).alloc (.cells #[.pointer (some ⟨7,140,none⟩),.pointer (some ⟨w.heap.size,0,none⟩),.int .u64 150] 195)).alloc (.cells #[.pointer (some ⟨7,140,none⟩),.pointer (some ⟨w.heap.size,0,none⟩),.int .u64 150] 195)).alloc (.cells #[.string x0,.iface 136 (.agg #[.int .i64 q])] 138)).alloc (.cells #[.int .i64 q] 136)))
  (by rw [World.cell?_alloc_at _ _ _ _ (by simp)]; rfl)
  (by rw [World.cell?_alloc_lt _ _ t (by simp; omega),World.cell?_alloc_lt _ _ t (by simp; omega),World.cell?_alloc_lt _ _ t (by simp; omega),World.cell?_alloc_lt _ _ t (by simp; omega),World.cell?_alloc_lt _ _ t htl]; exact ht0)
  (by rw [World.frozen?_alloc_old _ _ t (by simp; omega),World.frozen?_alloc_old _ _ t (by simp; omega),World.frozen?_alloc_old _ _ t (by simp; omega),World.frozen?_alloc_old _ _ t (by simp; omega),World.frozen?_alloc_old _ _ t (Nat.ne_of_lt htl)]; exact hf0)
 go_enter Tryz.func97,Tryz.ntmps97
 go_wp2
 refine wp_loop_rounds 2 ?_
 rw [rounds_succ]
 go_wp2
 rw [rounds_succ]
 go_wp2
 go_ret
 exact ⟨rfl,_,((((((Below.refl _ w).alloc (Nat.le_refl _) _).alloc (by simp <;> omega) _).alloc (by simp <;> omega) _).alloc (by simp <;> omega) _).alloc (by simp <;> omega) _),Nat.le_refl _,rfl⟩
abbrev Zbd0 (q : Int) : Cell := .iface 136 true [.int .i64 q]
abbrev Zbfi (x0 : ByteArray) (q : Int) : Cell := .iface 138 true [.str x0,Zbd0 q]
theorem Zbe1 {m : LMap} {σ : Mem} {q : Int} {v : Value} (h : VR m σ (Zbd0 q) v) : v = .iface 136 (.agg #[.int .i64 q]) := by
 cases h with
 | ifaceA hl ha =>
  rename_i vs
  obtain ⟨vs⟩ := vs
  match vs,hl,ha with
  | [a],_,ha =>
   have h0 := ha 0 _ a rfl rfl
   cases h0
   rfl
theorem Zbd9 {m : LMap} {σ : Mem} {x0 : ByteArray} {q : Int} {v : Value} (h : VR m σ (Zbfi x0 q) v) : v = .iface 138 (.agg #[.string x0,.iface 136 (.agg #[.int .i64 q])]) := by
 cases h with
 | ifaceA hl ha =>
  rename_i vs
  obtain ⟨vs⟩ := vs
  match vs,hl,ha with
  | [y0,y1],_,ha =>
   have h0 := ha 0 _ y0 rfl rfl
   have h1 := Zbe1 (ha 1 _ y1 rfl rfl)
   cases h0
   subst h1
   rfl
theorem Z8t (x : AVal) (H : Heap) : CallSound Tryz.prog 97 [.c .nilI,x] H (bC false) H := by
 refine ⟨⟨_,Tryz.func97,rfl,rfl⟩,fun B m w vs r ha => ?_⟩
 obtain ⟨vs⟩ := vs
 cases ha with
 | cons a1 a2 =>
  cases a2 with
  | cons a2 a3 =>
   cases a3
   cases a1 with
   | c a1 =>
    cases a1
    refine (Z8w _ w).mono ?_
    rintro e w' ⟨rfl,rfl⟩
    exact ⟨_,m,rfl,St.refl r,.c (.bool _)⟩
theorem Zbcd (x0 : ByteArray) (q old : Int) {b : Nat} {H : Heap} (hb : H[b]? = some { sz := 1,rows := [[.int .i64 old]],own := true,live := true }) :
  CallSound Tryz.prog 97 [.c (Zbfi x0 q),.c (.iface 140 false [.ptr b 0 0])] H (bC true) (H.set b { sz := 1,rows := [[.int .i64 q]],own := true,live := true }) := by
 refine ⟨⟨_,Tryz.func97,rfl,rfl⟩,fun B m w vs r ha => ?_⟩
 obtain ⟨vs⟩ := vs
 cases ha with
 | cons a1 a2 =>
  cases a2 with
  | cons a2 a3 =>
   cases a3
   cases a1 with
   | c a1 =>
    obtain rfl := Zbd9 a1
    cases a2 with
    | c a2 =>
     cases a2 with
     | ifaceC a2 =>
      cases a2 with
      | ptr e1 =>
       rename_i L
       obtain ⟨kb,hkb,hat⟩ := r.blk b L e1
       rw [hb] at hkb; injection hkb with hkb; subst hkb
       have ho : L.own = true := by rw [← hat.own]
       have hLo : L.o = 0 := (hat.ours ho).2
       have hsz : L.sz = 1 := hat.sz.symm
       obtain ⟨cur,ct,z,hg,hth⟩ := hat.row ho rfl
       obtain ⟨hr1,hr2⟩ := hat.rows rfl 0 [.int .i64 old] rfl
       obtain ⟨v0,hv0,hvr⟩ := hr2 0 _ rfl
       have hta : (⟨L.g,L.o + 0 * L.sz + 0,none⟩ : Addr) = ⟨L.g,0,none⟩ := by rw [hLo]; simp
       rw [hta] at hv0 ⊢
       have hcs : 0 < cur.size := by
        have := cell_of_row w L.g 0 cur ct z hg
        rw [this] at hv0
        exact (Array.getElem?_eq_some_iff.1 hv0).1
       have hfz : w.frozen? ⟨L.g,0,none⟩ = false := Thaw.frozen hg hth hcs
       have hlib := r.lib 0 (.iface 235 (.agg #[.pointer (some ⟨7,98,none⟩)])) ⟨rfl,rfl⟩
       refine (Z7l x0 q ⟨L.g,0,none⟩ v0 w hlib.2 hv0 hfz).mono ?_
       rintro e w' ⟨rfl,w1,hbel,hd,rfl⟩
       have s1 := St.ofBelow (z := m.z) r hbel (Or.inr hd) (fun _ h => h) (fun _ h => .inl h)
       have r1 := s1.rel
       have hlt : L.g < w.heap.size := hat.lt (.inl ho)
       have hg1 : w1.heap[L.g]? = some (.cells cur ct z) := by rw [hbel.block L.g hlt]; exact hg
       rw [setCell_eq_setRow w1 L.g 0 cur ct z _ hg1]
       have e2 : (⟨m.f,m.z⟩ : LMap) b = some L := e1
       have st := St.turn r1 e2 hb ho rfl hg1 hth (cur.setIfInBounds 0 (.int .i64 q)) (by simp) (k' := { sz := 1,rows := [[.int .i64 q]],own := true,live := true }) rfl rfl (fun _ i row h => by
        match i with
        | 0 =>
         simp at h
         subst h
         refine ⟨hsz.symm,fun f c hc => ?_⟩
         match f with
         | 0 =>
          simp at hc
          subst hc
          refine ⟨.int .i64 q,?_,.int _ _⟩
          simp [hcs]
         | f + 1 => simp at hc
        | i + 1 => simp at h)
       exact ⟨_,_,rfl,s1.trans r st,.c (.bool _)⟩
theorem Zbf1 (x : AVal) (H : Heap) : CallSound Tryz.prog 97 ([.c .nilI,x] ++ List.map AVal.c []) H (bC false) H := Z8t x H
theorem Zbe0 (s : ByteArray) (q old : Int) {b : Nat} {H : Heap} (hb : H[b]? = some { sz := 1,rows := [[.int .i64 old]],own := true,live := true }) :
  CallSound Tryz.prog 97 ([.c (Z1l s q),.c (.iface 140 false [.ptr b 0 0])] ++ List.map AVal.c []) H (bC true) (H.set b { sz := 1,rows := [[.int .i64 q]],own := true,live := true }) := Zbcd s q old hb
theorem Zsx (s : ByteArray) (n : Int) : Pr 51 [Zz s n] (iC n) := by
 by_cases h : n = 0
 ·subst h
  have hv : Zz s 0 = .c .nilI := rfl
  rw [hv]
  refine Zl mixed Zr7 rfl fun hl T => ?_
  unfold Znf
  simp only [go_sem,simprocAttr]
  refine Z0 (Zbf1 _ _) (fun h => by cases h) ?_
  simp only [go_sem,simprocAttr]
  simp [Zf,Ze,Zi,Zg,Zh,Zd,Zc,Zb]
 ·have hv : Zz s n = .c (Z1l s n) := by unfold Zz; rw [if_neg h]
  rw [hv]
  refine Zl mixed Zr7 rfl fun hl T => ?_
  unfold Znf
  simp only [go_sem,simprocAttr]
  refine Z0 (Zbe0 s n 0 (b := 0) rfl) (fun h => by cases h) ?_
  simp only [go_sem,simprocAttr]
  simp [Zf,Ze,Zi,Zg,Zh,Zd,Zc,Zb]
end Go.Proofs.YticmfblfghdkbaaGreatDoor.Eng
