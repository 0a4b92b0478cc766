/- Parts of this claim's proof, joined. No statement of the seat is proved here. -/
import Derived.Test.YticmfblfghdkbaaGreatDoorV18
set_option linter.unusedVariables false
set_option linter.unusedSimpArgs false
namespace Go.Proofs.YticmfblfghdkbaaGreatDoor.Eng
open Go
theorem Zqs : Pr 181 [.c (.lst 4 [])] (.c (.lst 4 [])) := by
 intro H
 refine CallSound.empty (pre := []) (post := []) ?_ ?_
 ·refine Pure.wkr (v := .c .nilS) (Zl mixed Zgi rfl fun hl T => ?_) (.c (.nilS _)) H
  unfold Zfb
  simp only [go_sem,simprocAttr,bne_self_eq_false]
  refine Zxt ?_
  simp only [go_sem,simprocAttr]
  simp [Zf,Ze,Zk,Zg,Zh,Zd,Zc,Zb]
 ·refine Pure.wkr (v := .c (.zer 4)) (Zl mixed Zgi rfl fun hl T => ?_) (.c (.zer _)) H
  unfold Zfb
  have ha : Zem 4 56 (.c (.zer 4)) (.c (.emp 4)) [] = some (.c (.zer 4),[]) := rfl
  simp only [go_sem,simprocAttr,bne_self_eq_false,ha]
  simp [Zf,Ze,Zk,Zg,Zh,Zd,Zc,Zb]
theorem Zrn {rows : List (List Cell)} {H : Heap} (h0 : rows ≠ []) (hs : rows.length ≤ 1000000) :
  CallSound Tryz.prog 181 [.c (.lst 4 rows)] H (.c (.slc H.length 0 rows.length 4 false)) (H ++ [{ sz := 4,rows := rows,own := true,live := true }]) := by
 refine Zhm mixed Zgi fun T => ?_
 unfold Zfb
 cases rows with
 | nil => exact absurd rfl h0
 | cons y r =>
  have ha : Zem 4 56 (.c (.zer 4)) (.c (.lst 4 (y :: r))) H = some (.c (.slc H.length 0 (y :: r).length 4 false),H ++ [{ sz := 4,rows := y :: r }]) := by
   simp only [Zem,Zc3,Heap.rowsOf,Zbh,beq_self_eq_true,if_true]
   rw [if_neg (by simp),if_pos (by omega)]
  simp only [go_sem,simprocAttr,bne_self_eq_false,ha]
set_option maxHeartbeats 1000000 in
theorem Zqj : ∀ (w : Wr),w.size ≤ 1000000 → Pr 150 [.agg w.cells] (.agg w.cells)
 | .mk k n s l,hsz => by
  have ih : ∀ x ∈ l,x.size ≤ 1000000 → Pr 150 [.agg x.cells] (.agg x.cells) := fun x hx h => Zqj x h
  simp only [Wr.size] at hsz
  have hll := Zo5 l
  have hxs : ∀ (m : List Wr),∀ x ∈ m,x.size ≤ Wr.sizes m := fun m => by
   induction m with
   | nil => intro x hx; simp at hx
   | cons y m ihm =>
    intro x hx
    simp only [Wr.sizes]
    rcases List.mem_cons.1 hx with rfl | hx
    ·omega
    ·have := ihm x hx; omega
  have hrl : (Wr.rows l).length = l.length := Wr.rows_len l
  refine Zl mixed Zz2 (by simp [Zq,Zp,Wr.closed]) fun hl T => ?_
  unfold Zry
  by_cases h0 : l = []
  ·subst h0
   have hnil : Wr.rows [] = [] := rfl
   simp only [Wr.cells,hnil]
   simp only [go_sem,simprocAttr,Zq3]
   refine Za Zqs ?_
   simp only [go_sem,simprocAttr]
   refine Zi ?_
   conv => enter [3,1]; unfold Zf2
   simp only [go_sem,simprocAttr]
   unfold Zhy
   simp only [go_sem,simprocAttr]
   have hcr : closedR ([] : List (List Cell)) = true := rfl
   simp [Zf,Ze,Zk,Zg,Zh,Zd,Zc,Zb,hcr]
  ·have hne : Wr.rows l ≠ [] := fun h => h0 (by have := congrArg List.length h; rw [hrl] at this; exact List.eq_nil_of_length_eq_zero this)
   simp only [Wr.cells]
   have hcr := Wr.closedR l
   obtain ⟨rows,hrows⟩ : ∃ rows,rows = Wr.rows l := ⟨_,rfl⟩
   rw [← hrows] at hne hrl hcr ⊢
   have hcl := fun H => Zrn (H := H) hne (by omega)
   have loop : ∀ (rest pre : List Wr) (e : Env) (H : Heap),l = pre ++ rest → e 1 = .c (.ptr 0 0 0) → e 2 = .c (.ptr 1 0 0) → e 10 = .c (.slc 2 0 rows.length 4 false) → e 11 = iC rows.length → e 12 = iC pre.length →
     H[0]? = some { sz := 4,rows := [[.int .i64 k,.int .i64 n,.str s,.slc 2 0 rows.length 4 false]],own := true,live := true } → H[1]? = some { sz := 4,rows := [[.int .i64 0,.int .i64 0,.str ⟨#[]⟩,.nilS]],own := true,live := true } → H[2]? = some { sz := 4,rows := rows,own := true,live := true } →
     Run (Zt Tryz.prog T) ⟨[.cell 2 true 4],fun u E => Zf E u = some (.agg [.int .i64 k,.int .i64 n,.str s,.lst 4 rows])⟩ [.loop Zf2,.blk 0,.code Zhy] e H := by
    intro rest
    induction rest with
    | nil =>
     intro pre e H hp h1 h2 h10 h11 h12 b0 b1 b2
     have hc : ¬ ((pre.length : Int) < (rows.length : Int)) := by rw [hrl,hp]; simp
     refine Zi ?_
     conv => enter [3,1]; unfold Zf2
     simp only [go_sem,simprocAttr,h11,h12,hc]
     unfold Zhy
     simp only [go_sem,simprocAttr,h1,h2,Zu b0,Zu b1,Zdq b1,Ze0 b1,Zu (Zw b1)]
     have b2' := Zo (B' := { sz := 4,rows := [[.int .i64 k,.int .i64 n,.str s,.slc 2 0 rows.length 4 false]],own := true,live := true }) b2 (b := 1) (by omega)
     have hr0 : rows.length ≠ 0 := fun h => hne (List.eq_nil_of_length_eq_zero h)
     simp only [Zf,Zg,Ze,Zk,Zc]
     simp [hr0,b2',hcr]
    | cons r rest ihr =>
     intro pre e H hp h1 h2 h10 h11 h12 b0 b1 b2
     have hc : ((pre.length : Int) < (rows.length : Int)) := by rw [hrl,hp]; simp; omega
     have hr : rows[pre.length]? = some r.cells := by rw [hrows,Wr.rows_map,hp]; simp
     have hn := Zcy hp (by unfold maxLen; omega)
     have hpl : pre.length < rows.length := by omega
     have hix : ∀ H : Heap,vIx 4 (.c (.slc 2 0 rows.length 4 false)) (iC pre.length) H = some (.c (.ptr 2 pre.length 0),H) := fun H => Zek hpl
     have hrow : Heap.row H 2 pre.length = some r.cells := by rw [Zhv b2 rfl]; exact hr
     have hl2 : 2 < H.length := (List.getElem?_eq_some_iff.1 b2).1
     have hsz' := hxs l r (by rw [hp]; simp)
     refine Zi ?_
     conv => enter [3,1]; unfold Zf2
     simp only [go_sem,simprocAttr,h10,h11,h12,hc,hix,hrow,Wr.len4,Wr.take4,Wr.drop4]
     obtain ⟨G,hG⟩ : ∃ G : Heap,G = H ++ [{ sz := 4,rows := [r.cells],own := true,live := true }] := ⟨_,rfl⟩
     have g0 := (show G[0]? = H[0]? by rw [hG,Zcs (by omega)]).trans b0
     have g1 := (show G[1]? = H[1]? by rw [hG,Zcs (by omega)]).trans b1
     have g2 := (show G[2]? = H[2]? by rw [hG,Zcs (by omega)]).trans b2
     have gl : G[H.length]? = some { sz := 4,rows := [r.cells],own := true,live := true } := by rw [hG]; exact Zkl
     have hset : rows.set pre.length r.cells = rows := by
      obtain ⟨q1,q2⟩ := List.getElem?_eq_some_iff.1 hr
      rw [← q2]; exact List.set_getElem_self q1
     have gput : Heap.put G 2 pre.length r.cells = G := by
      rw [Zkd g2]
      simp only [hset]
      obtain ⟨q1,q2⟩ := List.getElem?_eq_some_iff.1 g2
      rw [← q2]; exact List.set_getElem_self q1
     have grow : Heap.row G 2 pre.length = some r.cells := by rw [Zhv g2 rfl]; exact hr
     rw [← hG]
     simp only [go_sem,simprocAttr,h1,h12,Zu g0,Zu gl,Wr.len4,Wr.take4]
     refine Za (ih r (by rw [hp]; simp) (by omega)) ?_
     simp only [go_sem,simprocAttr,hix,grow,Zdq g2,Wr.len4,Wr.drop4,gput,h12,hn]
     refine ihr (pre ++ [r]) _ _ (by rw [hp]; simp) ?_ ?_ ?_ ?_ ?_ g0 g1 g2
     ·simp only [go_sem,simprocAttr,h1]
     ·simp only [go_sem,simprocAttr,h2]
     ·simp only [go_sem,simprocAttr,h10]
     ·simp only [go_sem,simprocAttr,h11]
     ·simp only [go_sem,simprocAttr,hn]
   simp only [go_sem,simprocAttr,Zq3]
   refine Z3 (hcl _) (fun h => by cases h) ?_
   simp only [go_sem,simprocAttr]
   refine loop l [] _ _ rfl ?_ ?_ ?_ ?_ ?_ rfl rfl rfl
   all_goals simp only [go_sem,simprocAttr,List.length_nil,Int.natCast_zero]
termination_by w => SizeOf.sizeOf w
decreasing_by
 simp_wf
 have := List.sizeOf_lt_of_mem hx
 omega
theorem Zbfz {H : Heap} {x1 x2 x3 c z : Cell} (h : Zkb H (.c c) (.c z)) (h1 : Ze H x1 = some x1) (h2 : Ze H x2 = some x2) (h3 : Ze H x3 = some x3) : Zkb H (.agg [x1,x2,x3,c]) (.agg [x1,x2,x3,z]) := by
 obtain ⟨v,hv,hw⟩ := h
 simp only [Zf] at hv
 cases hc : Ze H c with
 | none => simp [hc] at hv
 | some y =>
  rw [hc] at hv
  injection hv with hv
  subst hv
  refine ⟨.agg [x1,x2,x3,y],by simp [Zf,Zg,h1,h2,h3,hc],.agg (.cons (.same _) (.cons (.same _) (.cons (.same _) (.cons ?_ .nil))))⟩
  cases hw with
  | same => exact .same _
  | c h => exact h
set_option maxHeartbeats 1000000 in
theorem Zjs (l : List Wr) (hsz : Wr.sizes l ≤ 1000000) : Pr 100 [.c (Zcm l)] (.agg (Zc4 l).cells) := by
 have hll := Zo5 l
 have hxs : ∀ (m : List Wr),∀ x ∈ m,x.size ≤ Wr.sizes m := fun m => by
  induction m with
  | nil => intro x hx; simp at hx
  | cons y m ihm =>
   intro x hx
   simp only [Wr.sizes]
   rcases List.mem_cons.1 hx with rfl | hx
   ·omega
   ·have := ihm x hx; omega
 have hrl : (Wr.rows l).length = l.length := Wr.rows_len l
 refine Zgf mixed Z5m (by simp [Zq,Zp,Zc,Zcm,Wr.closedR]) fun hl T => ?_
 unfold Zv8
 dsimp only [Zcm]
 have loop : ∀ (rest pre : List Wr) (c : Cell) (e : Env) (H : Heap),l = pre ++ rest → e 2 = .c (.ptr 0 0 0) → e 3 = .c (.ptr 1 0 0) → e 7 = .c (.lst 4 (Wr.rows l)) → e 8 = iC l.length → e 9 = iC pre.length →
   H[0]? = some { sz := 4,rows := [[.int .i64 0,.int .i64 0,.str ⟨#[]⟩,.nilS]],own := true,live := true } → H[1]? = some { sz := 4,rows := [[.int .i64 3,.int .i64 0,.str ⟨#[]⟩,c]],own := true,live := true } → Acc 4 (Wr.rows pre) (.c c) H → NB (.c c) 0 → NB (.c c) 1 →
   Run (Zt Tryz.prog T) ⟨[.cell 2 true 4],fun u E => Zkb E u (.agg (Zc4 l).cells)⟩ [.loop Zjx,.blk 0,.code Zna] e H := by
  intro rest
  induction rest with
  | nil =>
   intro pre c e H hp h2 h3 h7 h8 h9 b0 b1 ha n0 n1
   have hc : ¬ ((pre.length : Int) < (l.length : Int)) := by rw [hp]; simp
   rw [List.append_nil] at hp
   refine Zi ?_
   conv => enter [3,1]; unfold Zjx
   simp only [go_sem,simprocAttr,h8,h9,hc]
   unfold Zna
   simp only [go_sem,simprocAttr,h2,h3,Zu b0,Zu b1,Zdq b0,Ze0 b0,Zu (Zw b0)]
   have ha' := (ha.set_nb (B := { sz := 4,rows := [[.int .i64 3,.int .i64 0,.str ⟨#[]⟩,c]],own := true,live := true }) n0).told (by rw [← hp]; exact Wr.closedR l)
   rw [← hp] at ha'
   exact Zbfz ha' rfl rfl rfl
  | cons r rest ihr =>
   intro pre c e H hp h2 h3 h7 h8 h9 b0 b1 ha n0 n1
   have hc : ((pre.length : Int) < (l.length : Int)) := by rw [hp]; simp; omega
   have hr : (Wr.rows l)[pre.length]? = some r.cells := by rw [Wr.rows_map,hp]; simp
   have hn := Zcy hp (by unfold maxLen; omega)
   have hsz' := hxs l r (by rw [hp]; simp)
   have l1 : 1 < H.length := (List.getElem?_eq_some_iff.1 b1).1
   have hpl : pre.length < l.length := by rw [hp]; simp
   refine Zi ?_
   conv => enter [3,1]; unfold Zjx
   simp only [go_sem,simprocAttr,h7,h8,h9,hc,hr,Wr.len4,Wr.take4,Wr.drop4]
   obtain ⟨G,hG⟩ : ∃ G : Heap,G = H ++ [{ sz := 4,rows := [r.cells],own := true,live := true }] := ⟨_,rfl⟩
   have g0 := (show G[0]? = H[0]? by rw [hG,Zcs (by omega)]).trans b0
   have g1 := (show G[1]? = H[1]? by rw [hG,Zcs (by omega)]).trans b1
   have gl : G[H.length]? = some { sz := 4,rows := [r.cells],own := true,live := true } := by rw [hG]; exact Zkl
   have ga : Acc 4 (Wr.rows pre) (.c c) G := by rw [hG]; exact ha.snoc
   rw [← hG]
   simp only [go_sem,simprocAttr,h3,Zu g1,Zu gl,Wr.len4,Wr.take4]
   refine Za (Zqj r (by omega)) ?_
   simp only [go_sem,simprocAttr,Wr.len4,Wr.closed]
   refine Acc.app_keep ga (by rw [Wr.rows_len]; simp; omega) fun v' K ha' keep => ?_
   obtain ⟨k0,m0⟩ := keep 0 _ n0 g0
   obtain ⟨k1,m1⟩ := keep 1 _ n1 g1
   obtain ⟨c',rfl⟩ : ∃ c',v' = .c c' := by
    rcases ha' with ⟨_,rfl | rfl⟩ | ⟨_,_,rfl,_⟩
    ·exact ⟨_,rfl⟩
    ·exact ⟨_,rfl⟩
    ·exact ⟨_,rfl⟩
   simp only [go_sem,simprocAttr,h3,Zu k1,Zdq k1,Ze0 k1,h9,hn]
   refine ihr (pre ++ [r]) c' _ _ (by rw [hp]; simp) ?_ ?_ ?_ ?_ ?_ ?_ ?_ ?_ m0 m1
   ·simp only [go_sem,simprocAttr,h2]
   ·simp only [go_sem,simprocAttr,h3]
   ·simp only [go_sem,simprocAttr,h7]
   ·simp only [go_sem,simprocAttr,h8]
   ·simp only [go_sem,simprocAttr,hn]
   ·exact Zo k0 (by omega)
   ·exact Zw k1
   ·have := ha'.set_nb (B := { sz := 4,rows := [[.int .i64 3,.int .i64 0,.str ⟨#[]⟩,c']],own := true,live := true }) m1
    simpa [Wr.rows_map] using this
 simp only [go_sem,simprocAttr,hrl]
 refine loop l [] .nilS _ _ rfl ?_ ?_ ?_ ?_ ?_ rfl rfl .nil (fun _ _ _ _ h => by cases h) (fun _ _ _ _ h => by cases h)
 all_goals simp only [go_sem,simprocAttr,List.length_nil,Int.natCast_zero]
def Zfn : ACode := .seq (.region [ibt 8 .lss 7 6] false) (.seq (.cond (.t 8) .skip (.exit 0)) (.seq (.block 1 (.seq (.region [im 9 7,ixx 10 2 5 7,ii 11 (.load true 2 (.t 10)),ii 4 (.new [.int .i64 0,.str ⟨#[]⟩]),im 3 9,ie (.store 2 (.t 4) (.t 11))] false) (.seq (.region [ifl 12 0 4,il 13 12,icl 14 108 [.t 13],ii 15 (.un .not (.t 14)),im 16 15,ig 17 (.fld 1 (.t 4)) 16 false,ig 18 (.load false 1 (.t 17)) 16 false,ig 19 (.lenS (.t 18)) 16 false,ig 20 (.bin .gtr (.t 19) (ki 200)) 16 false,ii 21 (.pick (.t 16) (.k (.c (.bool true))) (.t 20)),im 22 21,ig 23 (.mv (.t 3)) 22 false,ig 24 (.bin .gtr (.t 23) (ki 0)) 22 false,ig 25 (.mv (.t 24)) 22 false,ig 26 (.mv (.t 0)) 25 true,ig 27 (.mv (.t 3)) 25 true,ig 28 (.bin .sub (.t 27) (ki 1)) 25 true,ig 29 (.ix 2 (.t 26) (.t 28)) 25 true,ig 30 (.fld 0 (.t 29)) 25 true,ig 31 (.load false 1 (.t 30)) 25 true,ig 32 (.fld 0 (.t 4)) 25 true,ig 33 (.load false 1 (.t 32)) 25 true,ig 34 (.bin .geq (.t 31) (.t 33)) 25 true,ig 35 (.pick (.t 25) (.t 34) (.k (.c (.bool false)))) 22 false,ii 36 (.pick (.t 22) (.k (.c (.bool true))) (.t 35))] true) (.cond (.t 36) (.seq (.region [ii 2 (.mv (.k (.c (.bool false))))] false) .ret) .skip)))) (.region [ii 37 (.bin .add (.t 7) (ki 1)),im 7 37] false)))
def Zhl : ACode := .seq (.region [ii 2 (.mv (.k (.c (.bool true))))] false) .ret
def Zl9 : AFun := ⟨[.tmp 2],.seq (.region [ii 2 (.mv (.k (.c (.bool false))))] false) (.seq (.seq (.region [im 5 0,ii 6 (.len (.t 5)),ii 7 (.mv (ki 0))] false) (.block 0 (.loop Zfn))) Zhl)⟩
theorem Zt6 : Zm Tryz.prog 109 = some Zl9.erase := by kernel_rfl
def Zs0 : AFun := ⟨[.tmp 2],.seq (.region [iz 1 (.box (.t 0)),ii 2 (.mv (.k (.c (.bool false))))] false) (.seq (.region [ifl 6 1 1,il 7 6,ii 8 (.lenS (.t 7)),ii 9 (.bin .eql (.t 8) (ki 32)),im 10 9,ig 11 (.fld 0 (.t 1)) 10 false,ig 12 (.load false 1 (.t 11)) 10 false,ig 13 (.bin .eql (.t 12) (ki 1)) 10 false,ig 14 (.mv (.t 13)) 10 false,ig 15 (.fld 1 (.t 1)) 14 true,ig 16 (.load false 1 (.t 15)) 14 true,ig 17 (.bin .eql (.t 16) (.k (.c (.str ⟨#[]⟩)))) 14 true,ig 18 (.pick (.t 14) (.t 17) (.k (.c (.bool false)))) 10 false,ii 19 (.pick (.t 10) (.k (.c (.bool true))) (.t 18)),im 3 19] false) (.seq (.region [ifl 20 2 1,il 21 20,ii 22 (.bin .eql (.t 21) (ki 1)),im 23 22,ig 24 (.fld 2 (.t 1)) 23 false,ig 25 (.load false 1 (.t 24)) 23 false,ig 26 (.bin .eql (.t 25) (ki 2)) 23 false,ii 27 (.pick (.t 23) (.k (.c (.bool true))) (.t 26)),im 4 27] false) (.seq (.region [ifl 28 5 1,il 29 28,ii 30 (.bin .eql (.t 29) (.k (.c (.str ⟨#[]⟩)))),im 31 30,ig 32 (.fld 5 (.t 1)) 31 false,ig 33 (.load false 1 (.t 32)) 31 false,ig 34 (.lenS (.t 33)) 31 false,ig 35 (.bin .eql (.t 34) (ki 16)) 31 false,ii 36 (.pick (.t 31) (.k (.c (.bool true))) (.t 35)),im 5 36] false) (.seq (.region [ifl 37 0 1,il 38 37,ii 39 (.bin .geq (.t 38) (ki 1)),im 40 39,ig 41 (.fld 0 (.t 1)) 40 true,ig 42 (.load false 1 (.t 41)) 40 true,ig 43 (.bin .leq (.t 42) (ki 1048576)) 40 true,ii 44 (.pick (.t 40) (.t 43) (.k (.c (.bool false)))),im 45 44,ig 46 (.mv (.t 3)) 45 true,ii 47 (.pick (.t 45) (.t 46) (.k (.c (.bool false)))),im 48 47,ig 49 (.mv (.t 4)) 48 true,ii 50 (.pick (.t 48) (.t 49) (.k (.c (.bool false)))),im 51 50,ig 52 (.fld 3 (.t 1)) 51 true,ig 53 (.load false 1 (.t 52)) 51 true,ig 54 (.call (.f 108) [.t 53]) 51 true,ii 55 (.pick (.t 51) (.t 54) (.k (.c (.bool false)))),im 56 55,ig 57 (.mv (.t 5)) 56 true,ii 58 (.pick (.t 56) (.t 57) (.k (.c (.bool false)))),im 59 58,ig 60 (.fld 4 (.t 1)) 59 true,ig 61 (.load false 1 (.t 60)) 59 true,ig 62 (.call (.f 109) [.t 61]) 59 true,ii 63 (.pick (.t 59) (.t 62) (.k (.c (.bool false)))),im 2 63] false) .ret))))⟩
theorem Z2m : Zm Tryz.prog 67 = some Zs0.erase := by kernel_rfl
def Zlz : AFun := ⟨[.tmp 2],.seq (.region [iz 1 (.box (.t 0)),ii 2 (.mv (.k (.c (.str ⟨#[]⟩))))] false) (.seq (.seq (.region [ii 3 (.load true 6 (.t 1)),icl 4 67 [.t 3],ii 5 (.un .not (.t 4))] false) (.cond (.t 5) (.seq (.region [ii 2 (.mv (.k (.c (.str ⟨#[]⟩))))] false) .ret) .skip)) (.seq (.region [ifl 6 0 1,il 7 6,icl 8 101 [.t 7],ifl 9 2 1,il 10 9,icl 11 101 [.t 10],ifl 12 3 1,il 13 12,icl 14 101 [.t 13],ifl 15 1 1,il 16 15,icl 17 102 [.t 16],iz 18 (.lit 4 [.int .i64 0,.int .i64 0,.str ⟨#[]⟩,.nilS] 4 [(0,.t 8),(1,.t 11),(2,.t 14),(3,.t 17)]),icl 19 100 [.t 18],icl 20 99 [.t 19],im 2 20] true) .ret))⟩
theorem Zqd : Zm Tryz.prog 53 = some Zlz.erase := by kernel_rfl
def Zi5 : ACode := .seq (.region [ibt 13 .lss 12 11] false) (.seq (.cond (.t 13) .skip (.exit 0)) (.seq (.block 1 (.seq (.region [ixx 14 2 10 12,ii 15 (.load true 2 (.t 14)),ii 5 (.new [.int .i64 0,.str ⟨#[]⟩]),ie (.store 2 (.t 5) (.t 15))] false) (.region [im 16 3,ifl 17 0 5,il 18 17,icl 19 101 [.t 18],ifl 20 1 5,il 21 20,icl 22 102 [.t 21],iz 23 (.lit 4 [.int .i64 0,.int .i64 0,.str ⟨#[]⟩,.nilS] 2 [(0,.t 19),(1,.t 22)]),icl 24 100 [.t 23],iz 25 (.lit 4 [.int .i64 0,.int .i64 0,.str ⟨#[]⟩,.nilS] 1 [(0,.t 24)]),ii 26 (.app 4 56 (.t 16) (.t 25)),im 3 26] true))) (.region [ii 27 (.bin .add (.t 12) (ki 1)),im 12 27] false)))
def Zly : ACode := .fz 3 (.seq (.region [ifl 28 0 1,il 29 28,icl 30 101 [.t 29],ifl 31 1 1,il 32 31,icl 33 102 [.t 32],ifl 34 2 1,il 35 34,icl 36 101 [.t 35],ifl 37 3 1,il 38 37,icl 39 101 [.t 38],im 40 3,icl 41 100 [.t 40],ifl 42 5 1,il 43 42,icl 44 102 [.t 43],iz 45 (.lit 4 [.int .i64 0,.int .i64 0,.str ⟨#[]⟩,.nilS] 6 [(0,.t 30),(1,.t 33),(2,.t 36),(3,.t 39),(4,.t 41),(5,.t 44)]),icl 46 100 [.t 45],icl 47 99 [.t 46],im 2 47] true) .ret)
def Znn : AFun := ⟨[.tmp 2],.seq (.region [iz 1 (.box (.t 0)),ii 2 (.mv (.k (.c (.str ⟨#[]⟩))))] false) (.seq (.seq (.region [ii 6 (.load true 6 (.t 1)),icl 7 67 [.t 6],ii 8 (.un .not (.t 7))] false) (.cond (.t 8) (.seq (.region [ii 2 (.mv (.k (.c (.str ⟨#[]⟩))))] false) .ret) .skip)) (.seq (.region [ii 3 (.mv (.k (.c .nilS)))] false) (.seq (.seq (.region [ifl 9 4 1,il 10 9,ii 11 (.len (.t 10)),ii 12 (.mv (ki 0))] false) (.block 0 (.loop Zi5))) Zly)))⟩
theorem Zr2 : Zm Tryz.prog 69 = some Znn.erase := by kernel_rfl
def Zr0 : AFun := ⟨[.tmp 2],.seq (.region [iz 1 (.box (.t 0)),ii 2 (.mv (.k (.c (.str ⟨#[]⟩))))] false) (.seq (.region [ii 3 (.load true 6 (.t 1)),icl 4 69 [.t 3],iz 5 (.lit 1 [.str ⟨#[]⟩] 1 [(0,.t 4)]),icl 6 110 [.t 5],im 2 6] false) .ret)⟩
theorem Zzn : Zm Tryz.prog 98 = some Zr0.erase := by kernel_rfl
def Zs5 : AFun := ⟨[.tmp 2],.seq (.region [ii 2 (.mv (.k (.c (.bool false))))] false) (.seq (.region [im 3 0,ii 4 (.bin .geq (.t 3) (ki 0)),im 5 4,ig 6 (.mv (.t 0)) 5 true,ig 7 (.bin .lss (.t 6) (ki 8)) 5 true,ii 8 (.pick (.t 5) (.t 7) (.k (.c (.bool false)))),im 2 8] false) .ret)⟩
theorem Z10 : Zm Tryz.prog 108 = some Zs5.erase := by kernel_rfl
def Zcq : ACode := .seq (.seq (.region [im 60 3,ifl 61 4 1,il 62 61,ii 63 (.len (.t 62)),ibt 64 .lss 60 63] false) (.cond (.t 64) .skip (.exit 0))) (.seq (.block 1 (.seq (.region [ifl 67 4 1,il 68 67,im 69 3,ixx 70 2 68 69,ii 71 (.load true 2 (.t 70)),ii 4 (.new [.int .i64 0,.str ⟨#[]⟩]),ie (.store 2 (.t 4) (.t 71))] false) (.seq (.region [ifl 72 0 4,il 73 72,ii 74 (.bin .lss (.t 73) (ki 0)),im 75 74,ig 76 (.fld 0 (.t 4)) 75 false,ig 77 (.load false 1 (.t 76)) 75 false,ig 78 (.bin .geq (.t 77) (ki 8)) 75 false,ii 79 (.pick (.t 75) (.k (.c (.bool true))) (.t 78)),im 80 79,ig 81 (.fld 1 (.t 4)) 80 false,ig 82 (.load false 1 (.t 81)) 80 false,ig 83 (.lenS (.t 82)) 80 false,ig 84 (.bin .gtr (.t 83) (ki 200)) 80 false,ii 85 (.pick (.t 80) (.k (.c (.bool true))) (.t 84)),im 86 85,ig 87 (.mv (.t 3)) 86 false,ig 88 (.bin .gtr (.t 87) (ki 0)) 86 false,ig 89 (.mv (.t 88)) 86 false,ig 90 (.fld 4 (.t 1)) 89 true,ig 91 (.load false 1 (.t 90)) 89 true,ig 92 (.mv (.t 3)) 89 true,ig 93 (.bin .sub (.t 92) (ki 1)) 89 true,ig 94 (.ix 2 (.t 91) (.t 93)) 89 true,ig 95 (.fld 0 (.t 94)) 89 true,ig 96 (.load false 1 (.t 95)) 89 true,ig 97 (.fld 0 (.t 4)) 89 true,ig 98 (.load false 1 (.t 97)) 89 true,ig 99 (.bin .geq (.t 96) (.t 98)) 89 true,ig 100 (.pick (.t 89) (.t 99) (.k (.c (.bool false)))) 86 false,ii 101 (.pick (.t 86) (.k (.c (.bool true))) (.t 100))] true) (.cond (.t 101) (.seq (.region [ii 2 (.mv (.k (.c (.bool false))))] false) .ret) .skip)))) (.region [im 65 3,ii 66 (.bin .add (.t 65) (ki 1)),im 3 66] false))
def Zjc : ACode := .seq (.region [ii 2 (.mv (.k (.c (.bool true))))] false) .ret
def Zou : AFun := ⟨[.tmp 2],.seq (.region [iz 1 (.box (.t 0)),ii 2 (.mv (.k (.c (.bool false))))] false) (.seq (.seq (.region [ifl 5 0 1,il 6 5,ii 7 (.bin .lss (.t 6) (ki 1)),im 8 7,ig 9 (.fld 0 (.t 1)) 8 false,ig 10 (.load false 1 (.t 9)) 8 false,ig 11 (.bin .gtr (.t 10) (ki 1048576)) 8 false,ii 12 (.pick (.t 8) (.k (.c (.bool true))) (.t 11)),im 13 12,ig 14 (.fld 1 (.t 1)) 13 false,ig 15 (.load false 1 (.t 14)) 13 false,ig 16 (.lenS (.t 15)) 13 false,ig 17 (.bin .neq (.t 16) (ki 32)) 13 false,ig 18 (.mv (.t 17)) 13 false,ig 19 (.fld 0 (.t 1)) 18 true,ig 20 (.load false 1 (.t 19)) 18 true,ig 21 (.bin .neq (.t 20) (ki 1)) 18 true,ig 22 (.mv (.t 21)) 18 true,ig 23 (.fld 1 (.t 1)) 22 false,ig 24 (.load false 1 (.t 23)) 22 false,ig 25 (.bin .neq (.t 24) (.k (.c (.str ⟨#[]⟩)))) 22 false,ig 26 (.pick (.t 22) (.k (.c (.bool true))) (.t 25)) 18 true,ig 27 (.pick (.t 18) (.t 26) (.k (.c (.bool false)))) 13 false,ii 28 (.pick (.t 13) (.k (.c (.bool true))) (.t 27)),im 29 28,ig 30 (.fld 2 (.t 1)) 29 false,ig 31 (.load false 1 (.t 30)) 29 false,ig 32 (.bin .neq (.t 31) (ki 1)) 29 false,ig 33 (.mv (.t 32)) 29 false,ig 34 (.fld 2 (.t 1)) 33 true,ig 35 (.load false 1 (.t 34)) 33 true,ig 36 (.bin .neq (.t 35) (ki 2)) 33 true,ig 37 (.pick (.t 33) (.t 36) (.k (.c (.bool false)))) 29 false,ii 38 (.pick (.t 29) (.k (.c (.bool true))) (.t 37)),im 39 38,ig 40 (.fld 3 (.t 1)) 39 false,ig 41 (.load false 1 (.t 40)) 39 false,ig 42 (.bin .lss (.t 41) (ki 0)) 39 false,ii 43 (.pick (.t 39) (.k (.c (.bool true))) (.t 42)),im 44 43,ig 45 (.fld 3 (.t 1)) 44 false,ig 46 (.load false 1 (.t 45)) 44 false,ig 47 (.bin .geq (.t 46) (ki 8)) 44 false,ii 48 (.pick (.t 44) (.k (.c (.bool true))) (.t 47)),im 49 48,ig 50 (.fld 5 (.t 1)) 49 false,ig 51 (.load false 1 (.t 50)) 49 false,ig 52 (.lenS (.t 51)) 49 false,ig 53 (.bin .neq (.t 52) (ki 16)) 49 false,ig 54 (.mv (.t 53)) 49 false,ig 55 (.fld 5 (.t 1)) 54 true,ig 56 (.load false 1 (.t 55)) 54 true,ig 57 (.bin .neq (.t 56) (.k (.c (.str ⟨#[]⟩)))) 54 true,ig 58 (.pick (.t 54) (.t 57) (.k (.c (.bool false)))) 49 false,ii 59 (.pick (.t 49) (.k (.c (.bool true))) (.t 58))] false) (.cond (.t 59) (.seq (.region [ii 2 (.mv (.k (.c (.bool false))))] false) .ret) .skip)) (.seq (.seq (.region [ii 3 (.mv (ki 0))] false) (.block 0 (.loop Zcq))) Zjc))⟩
theorem Zw6 : Zm Tryz.prog 61 = some Zou.erase := by kernel_rfl
def Zre : AFun := ⟨[.tmp 2],.seq (.region [iz 1 (.box (.t 0)),ii 2 (.mv (.k (.c (.str ⟨#[]⟩))))] false) (.seq (.seq (.region [ii 3 (.load true 6 (.t 1)),icl 4 61 [.t 3],ii 5 (.un .not (.t 4))] false) (.cond (.t 5) (.seq (.region [ii 2 (.mv (.k (.c (.str ⟨#[]⟩))))] false) .ret) .skip)) (.seq (.region [ifl 6 0 1,il 7 6,icl 8 117 [.t 7],ifl 9 2 1,il 10 9,icl 11 117 [.t 10],ifl 12 3 1,il 13 12,icl 14 117 [.t 13],ifl 15 1 1,il 16 15,icl 17 118 [.t 16],iz 18 (.lit 4 [.int .i64 0,.int .i64 0,.str ⟨#[]⟩,.nilS] 4 [(0,.t 8),(1,.t 11),(2,.t 14),(3,.t 17)]),icl 19 116 [.t 18],icl 20 119 [.t 19],im 2 20] true) .ret))⟩
theorem Zwq : Zm Tryz.prog 75 = some Zre.erase := by kernel_rfl
def Zgo : ACode := .seq (.seq (.region [im 8 4,ifl 9 4 1,il 10 9,ii 11 (.len (.t 10)),ibt 12 .lss 8 11] false) (.cond (.t 12) .skip (.exit 0))) (.seq (.block 1 (.region [im 15 3,ifl 16 4 1,il 17 16,im 18 4,ixx 19 2 17 18,ifl 20 0 19,il 21 20,icl 22 117 [.t 21],ifl 23 4 1,il 24 23,im 25 4,ixx 26 2 24 25,ifl 27 1 26,il 28 27,icl 29 118 [.t 28],iz 30 (.lit 4 [.int .i64 0,.int .i64 0,.str ⟨#[]⟩,.nilS] 2 [(0,.t 22),(1,.t 29)]),icl 31 116 [.t 30],iz 32 (.lit 4 [.int .i64 0,.int .i64 0,.str ⟨#[]⟩,.nilS] 1 [(0,.t 31)]),ii 33 (.app 4 56 (.t 15) (.t 32)),im 3 33] true)) (.region [im 13 4,ii 14 (.bin .add (.t 13) (ki 1)),im 4 14] false))
def Zje : ACode := .fz 3 (.seq (.region [ifl 34 0 1,il 35 34,icl 36 117 [.t 35],ifl 37 1 1,il 38 37,icl 39 118 [.t 38],ifl 40 2 1,il 41 40,icl 42 117 [.t 41],ifl 43 3 1,il 44 43,icl 45 117 [.t 44],im 46 3,icl 47 116 [.t 46],ifl 48 5 1,il 49 48,icl 50 118 [.t 49],iz 51 (.lit 4 [.int .i64 0,.int .i64 0,.str ⟨#[]⟩,.nilS] 6 [(0,.t 36),(1,.t 39),(2,.t 42),(3,.t 45),(4,.t 47),(5,.t 50)]),icl 52 116 [.t 51],icl 53 119 [.t 52],im 2 53] true) .ret)
def Zjr : AFun := ⟨[.tmp 2],.seq (.region [iz 1 (.box (.t 0)),ii 2 (.mv (.k (.c (.str ⟨#[]⟩))))] false) (.seq (.seq (.region [ii 5 (.load true 6 (.t 1)),icl 6 61 [.t 5],ii 7 (.un .not (.t 6))] false) (.cond (.t 7) (.seq (.region [ii 2 (.mv (.k (.c (.str ⟨#[]⟩))))] false) .ret) .skip)) (.seq (.region [ii 3 (.mv (.k (.c .nilS)))] false) (.seq (.seq (.region [ii 4 (.mv (ki 0))] false) (.block 0 (.loop Zgo))) Zje)))⟩
theorem Znv : Zm Tryz.prog 71 = some Zjr.erase := by kernel_rfl
def Zx1 : AFun := ⟨[.tmp 2],.seq (.region [iz 1 (.box (.t 0)),ii 2 (.mv (.k (.c (.str ⟨#[]⟩))))] false) (.seq (.region [ii 3 (.load true 6 (.t 1)),icl 4 71 [.t 3],icl 5 70 [.t 4],im 2 5] false) .ret)⟩
theorem Z5t : Zm Tryz.prog 27 = some Zx1.erase := by kernel_rfl
def Zlp : ACode := .seq (.seq (.region [im 9 8,im 10 0,ii 11 (.len (.t 10)),ibt 12 .lss 9 11] false) (.cond (.t 12) .skip (.exit 0))) (.seq (.block 1 (.seq (.region [im 15 0,im 16 8,ixx 17 6 15 16,ifl 18 0 17,il 19 18,im 20 1,ibt 21 .leq 19 20,im 22 21,ig 23 (.mv (.t 0)) 22 true,ig 24 (.mv (.t 8)) 22 true,ig 25 (.ix 6 (.t 23) (.t 24)) 22 true,ig 26 (.fld 3 (.t 25)) 22 true,ig 27 (.load false 1 (.t 26)) 22 true,ig 28 (.mv (.t 2)) 22 true,ig 29 (.bin .eql (.t 27) (.t 28)) 22 true,ii 30 (.pick (.t 22) (.t 29) (.k (.c (.bool false)))),im 31 30,ig 32 (.mv (.t 0)) 31 true,ig 33 (.mv (.t 8)) 31 true,ig 34 (.ix 6 (.t 32) (.t 33)) 31 true,ig 35 (.fld 2 (.t 34)) 31 true,ig 36 (.load false 1 (.t 35)) 31 true,ig 37 (.bin .eql (.t 36) (ki 1)) 31 true,ig 38 (.mv (.t 37)) 31 true,ig 39 (.mv (.t 0)) 38 false,ig 40 (.mv (.t 8)) 38 false,ig 41 (.ix 6 (.t 39) (.t 40)) 38 false,ig 42 (.fld 2 (.t 41)) 38 false,ig 43 (.load false 1 (.t 42)) 38 false,ig 44 (.bin .eql (.t 43) (ki 2)) 38 false,ig 45 (.pick (.t 38) (.k (.c (.bool true))) (.t 44)) 31 true,ii 46 (.pick (.t 31) (.t 45) (.k (.c (.bool false))))] false) (.cond (.t 46) (.region [im 47 0,im 48 8,ixx 49 6 47 48,ifl 50 2 49,il 51 50,ii 52 (.bin .eql (.t 51) (ki 1)),im 7 52] false) .skip))) (.region [im 13 8,ii 14 (.bin .add (.t 13) (ki 1)),im 8 14] false))
def Zo7 : ACode := .seq (.region [im 53 7,im 54 53,ig 55 (.mv (.t 2)) 54 true,ig 56 (.bin .geq (.t 55) (ki 0)) 54 true,ii 57 (.pick (.t 54) (.t 56) (.k (.c (.bool false)))),im 58 57,ig 59 (.mv (.t 2)) 58 true,ig 60 (.bin .lss (.t 59) (ki 8)) 58 true,ii 61 (.pick (.t 58) (.t 60) (.k (.c (.bool false)))),im 6 61] false) .ret
def Z3r : AFun := ⟨[.tmp 6],.seq (.region [ii 6 (.mv (.k (.c (.bool false))))] false) (.seq (.region [ii 7 (.mv (.k (.c (.bool false))))] false) (.seq (.seq (.region [ii 8 (.mv (ki 0))] false) (.block 0 (.loop Zlp))) Zo7))⟩
theorem Zbad : Zm Tryz.prog 18 = some Z3r.erase := by kernel_rfl
def Zh3 : ACode := .seq (.seq (.region [im 7 6,ii 8 (.bin .lss (.t 7) (ki 8))] false) (.cond (.t 8) .skip (.exit 0))) (.seq (.block 1 (.seq (.region [im 11 0,im 12 1,im 13 6,icl 14 18 [.t 11,.t 12,.t 13]] false) (.cond (.t 14) (.region [im 15 5,im 16 6,iz 17 (.lit 1 [.int .i64 0] 1 [(0,.t 16)]),ii 18 (.app 1 8 (.t 15) (.t 17)),im 5 18] false) .skip))) (.region [im 9 6,ii 10 (.bin .add (.t 9) (ki 1)),im 6 10] false))
def Zkk : ACode := .seq (.region [im 19 5,im 4 19] false) .ret
def Zsc : AFun := ⟨[.tmp 4],.seq (.region [ii 4 (.mv (.k (.c .nilS)))] false) (.seq (.region [ii 5 (.mv (.k (.c .nilS)))] false) (.seq (.seq (.region [ii 6 (.mv (ki 0))] false) (.block 0 (.loop Zh3))) Zkk))⟩
theorem Zzo : Zm Tryz.prog 21 = some Zsc.erase := by kernel_rfl
def Zer : ACode := .seq (.region [ibt 15 .lss 14 13] false) (.seq (.cond (.t 15) .skip (.exit 0)) (.seq (.block 1 (.seq (.region [ixx 16 6 12 14,ii 17 (.load true 6 (.t 16)),ii 7 (.new [.int .i64 0,.str ⟨#[]⟩,.int .i64 0,.int .i64 0,.nilS,.str ⟨#[]⟩]),ie (.store 6 (.t 7) (.t 17))] false) (.seq (.seq (.region [ifl 18 0 7,il 19 18,im 20 1,ibt 21 .gtr 19 20,im 22 21,ig 23 (.fld 3 (.t 7)) 22 false,ig 24 (.load false 1 (.t 23)) 22 false,ig 25 (.bin .lss (.t 24) (ki 0)) 22 false,ii 26 (.pick (.t 22) (.k (.c (.bool true))) (.t 25)),im 27 26,ig 28 (.fld 3 (.t 7)) 27 false,ig 29 (.load false 1 (.t 28)) 27 false,ig 30 (.bin .geq (.t 29) (ki 8)) 27 false,ii 31 (.pick (.t 27) (.k (.c (.bool true))) (.t 30))] false) (.cond (.t 31) (.exit 1) .skip)) (.seq (.region [ii 8 (.mv (.k (.c (.bool false))))] false) (.seq (.region [ifl 32 2 7,il 33 32] false) (.block 2 (.seq (.block 4 (.seq (.block 3 (.seq (.seq (.seq (.region [ii 35 (.bin .eql (.t 33) (ki 1)),im 34 35] false) (.cond (.t 34) (.exit 3) .skip)) (.seq (.region [ii 37 (.bin .eql (.t 33) (ki 2)),im 36 37] false) (.cond (.t 36) (.exit 4) .skip))) (.exit 2))) (.region [ii 8 (.mv (.k (.c (.bool true))))] false))) (.seq (.region [ifl 38 3 7,il 39 38,im 40 8,ii 41 (.ixA 8 1 (.t 5) (.t 39)),ie (.store 1 (.t 41) (.t 40))] false) (.exit 2))))))))) (.region [ii 42 (.bin .add (.t 14) (ki 1)),im 14 42] false)))
def Zfz : ACode := .seq (.region [ii 45 (.bin .lss (.t 44) (ki 8))] false) (.seq (.cond (.t 45) .skip (.exit 5)) (.seq (.block 6 (.seq (.region [im 46 44,ii 47 (.ixV false 8 1 (.t 43) (.t 44)),im 10 46,im 11 47] false) (.seq (.region [im 48 11] false) (.cond (.t 48) (.region [im 49 9,im 50 10,iz 51 (.lit 1 [.int .i64 0] 1 [(0,.t 50)]),ii 52 (.app 1 8 (.t 49) (.t 51)),im 9 52] false) .skip)))) (.region [ii 53 (.bin .add (.t 44) (ki 1)),im 44 53] false)))
def Zij : ACode := .seq (.region [im 54 9,im 4 54] false) .ret
def Zf0 : ACode := .seq (.region [ii 9 (.mv (.k (.c .nilS)))] false) (.seq (.seq (.region [ii 43 (.load true 8 (.t 5)),ii 44 (.mv (ki 0))] false) (.block 5 (.loop Zfz))) Zij)
def Zga : AFun := ⟨[.tmp 4],.seq (.region [ii 4 (.mv (.k (.c .nilS)))] false) (.seq (.region [ii 5 (.new [.bool false,.bool false,.bool false,.bool false,.bool false,.bool false,.bool false,.bool false])] false) (.seq (.seq (.region [im 12 0,ii 13 (.len (.t 12)),ii 14 (.mv (ki 0))] false) (.block 0 (.loop Zer))) Zf0))⟩
theorem Zl8 : Zm Tryz.prog 54 = some Zga.erase := by kernel_rfl
def Zve : AFun := ⟨[.tmp 6],.seq (.region [ii 6 (.mv (.k (.c (.bool false))))] false) (.seq (.region [im 7 0,im 8 1,icl 9 54 [.t 7,.t 8],im 10 2,icl 11 129 [.t 9,.t 10],im 6 11] false) .ret)⟩
theorem Z4d : Zm Tryz.prog 80 = some Zve.erase := by kernel_rfl
def Ziq : AFun := ⟨[.tmp 4],.seq (.region [ii 4 (.mv (.k (.c (.bool false))))] false) (.seq (.region [im 5 0,im 6 1,icl 7 164 [.t 5,.t 6],ii 8 (.bin .geq (.t 7) (ki 0)),im 4 8] false) .ret)⟩
theorem Zob : Zm Tryz.prog 129 = some Ziq.erase := by kernel_rfl
def Zes : ACode := .seq (.region [ibt 9 .lss 8 7] false) (.seq (.cond (.t 9) .skip (.exit 0)) (.seq (.block 1 (.seq (.region [im 10 8,im 5 10] false) (.seq (.region [im 11 1,im 12 0,im 13 5,ixx 14 1 12 13,il 15 14,ibt 16 .eql 11 15] false) (.cond (.t 16) (.seq (.region [im 17 5,im 4 17] false) .ret) .skip)))) (.region [ii 18 (.bin .add (.t 8) (ki 1)),im 8 18] false)))
def Zge : ACode := .seq (.region [ii 4 (.mv (ki (-1)))] false) .ret
def Zkh : AFun := ⟨[.tmp 4],.seq (.region [ii 4 (.mv (ki 0))] false) (.seq (.seq (.region [im 6 0,ii 7 (.len (.t 6)),ii 8 (.mv (ki 0))] false) (.block 0 (.loop Zes))) Zge)⟩
theorem Zq4 : Zm Tryz.prog 164 = some Zkh.erase := by kernel_rfl
theorem Zjy (l : List Wrp) : closedR (l.map Wrp.cells) = true := Zcf (f := Wrp.cells) (fun _ => rfl) l
theorem Rec.closed (r : Rec) : Zb r.cells = true := by simp [Rec.cells,Zv,Zb,Zc,Zjy]
theorem Zb5 (l : List Rec) : closedR (l.map Rec.cells) = true := Zcf (f := Rec.cells) Rec.closed l
theorem Zrx (n : Int) : Pr 108 [iC n] (bC (decide (0 ≤ n ∧ n < 8))) := by
 refine Zl mixed Z10 rfl fun hl T => ?_
 unfold Zs5
 by_cases h1 : 0 ≤ n
 ·by_cases h2 : n < 8
  ·simp only [go_sem,simprocAttr,h1,h2]
   simp [Zf,Ze,Zk,Zg,Zh,Zd,Zc,Zb]
  ·simp only [go_sem,simprocAttr,h1,h2]
   simp [Zf,Ze,Zk,Zg,Zh,Zd,Zc,Zb]
 ·simp only [go_sem,simprocAttr,h1]
  simp [Zf,Ze,Zk,Zg,Zh,Zd,Zc,Zb]
def Zbgq (l : List Wrp) (i : Nat) (q : Option Int) : Prop := (i = 0 ∧ q = none) ∨ ∃ w,0 < i ∧ l[i - 1]? = some w ∧ q = some w.dev
theorem Zsi (l : List Wrp) : Pr 109 [.c (Zv l)] (bC (Zcn none l)) := by
 refine Zl mixed Zt6 (by simp [Zq,Zp,Zc,Zv,Zjy]) fun hl T => ?_
 have hlen : l.length ≤ maxLen := by simp [Zgh,lenA,lenC,Zv] at hl; exact hl
 unfold Zl9
 generalize hv : Zcn none l = v
 dsimp only [Zv]
 have loop : ∀ (rest pre : List Wrp) (q : Option Int) (e : Env) (H : Heap),l = pre ++ rest → Zbgq l pre.length q → e 0 = .c (.lst 2 (l.map Wrp.cells)) → e 5 = .c (.lst 2 (l.map Wrp.cells)) → e 6 = iC (l.map Wrp.cells).length → e 7 = iC pre.length → Zcn q rest = v →
   Run (Zt Tryz.prog T) ⟨[.tmp 2],fun u E => Zf E u = some (bC v)⟩ [.loop Zfn,.blk 0,.code Zhl] e H := by
  intro rest
  induction rest with
  | nil =>
   intro pre q e H hp hq h0 h5 h6 h7 hm
   have hc := Zdm (f := Wrp.cells) hp
   refine Zi ?_
   conv => enter [3,1]; unfold Zfn
   simp only [go_sem,simprocAttr,h6,h7,hc]
   unfold Zhl
   simp only [go_sem,simprocAttr]
   simp only [Zcn] at hm
   rw [← hm]
   simp [Zf,Ze,Zk,Zg,Zh,Zd,Zc,Zb]
  | cons r rest ih =>
   intro pre q e H hp hq h0 h5 h6 h7 hm
   have hc := Zh0 (f := Wrp.cells) hp
   have hr := Zeh (f := Wrp.cells) hp
   have hn := Zcy hp hlen
   obtain ⟨dv,bx⟩ := r
   have hdv := Zrx dv
   refine Zi ?_
   conv => enter [3,1]; unfold Zfn
   simp only [go_sem,simprocAttr,h0,h5,h6,h7,hc,hr,Wrp.cells]
   refine Za hdv ?_
   by_cases d1 : 0 ≤ dv ∧ dv < 8
   ·by_cases d2 : (200 : Int) < (bx.size : Int)
    ·have hf : v = false := by
      rw [← hm]
      simp only [Zcn]
      have : decide (0 ≤ dv ∧ dv < 8 ∧ bx.size ≤ 200) = false := decide_eq_false (by omega)
      rw [this]; rfl
     rw [hf]
     simp only [go_sem,simprocAttr,d1,d2,decide_true]
     simp [Zf,Ze,Zk,Zg,Zh,Zd,Zc,Zb]
    ·have hd : decide (0 ≤ dv ∧ dv < 8 ∧ bx.size ≤ 200) = true := decide_eq_true (by omega)
     simp only [Zcn,hd,Bool.true_and] at hm
     rcases hq with ⟨hi,rfl⟩ | ⟨w,hi,hw,rfl⟩
     ·have c0 : ¬ ((0 : Int) < (pre.length : Int)) := by omega
      simp only [go_sem,simprocAttr,d1,d2,decide_true,c0,h7,hn]
      refine ih (pre ++ [⟨dv,bx⟩]) (some dv) _ _ (by rw [hp]; simp) (.inr ⟨⟨dv,bx⟩,by simp,by rw [hp]; simp,rfl⟩) ?_ ?_ ?_ ?_ (by simpa using hm)
      ·simp only [go_sem,simprocAttr,h0]
      ·simp only [go_sem,simprocAttr,h5]
      ·simp only [go_sem,simprocAttr,h6]
      ·simp only [go_sem,simprocAttr,hn]
     ·have c0 : ((0 : Int) < (pre.length : Int)) := by omega
      have hpl : pre.length ≤ l.length := by rw [hp]; simp
      have wm : IntKind.wrap .i64 ((pre.length : Int) - 1) = ((pre.length - 1 : Nat) : Int) := by
       have hlen := hlen
       unfold maxLen at hlen
       rw [Zn (by omega)]; omega
      have hw' : (l.map Wrp.cells)[pre.length - 1]? = some w.cells := by rw [List.getElem?_map,hw]; rfl
      obtain ⟨wd,wb⟩ := w
      by_cases d3 : dv ≤ wd
      ·have hf : v = false := by
        rw [← hm]
        have : decide (wd < dv) = false := decide_eq_false (by omega)
        simp only [this,Bool.false_and]
       rw [hf]
       simp only [go_sem,simprocAttr,d1,d2,decide_true,c0,h0,h7,wm,hw',Wrp.cells,d3]
       simp [Zf,Ze,Zk,Zg,Zh,Zd,Zc,Zb]
      ·have : decide (wd < dv) = true := decide_eq_true (by omega)
       simp only [this,Bool.true_and] at hm
       simp only [go_sem,simprocAttr,d1,d2,decide_true,c0,h0,h7,wm,hw',Wrp.cells,d3,hn]
       refine ih (pre ++ [⟨dv,bx⟩]) (some dv) _ _ (by rw [hp]; simp) (.inr ⟨⟨dv,bx⟩,by simp,by rw [hp]; simp,rfl⟩) ?_ ?_ ?_ ?_ hm
       ·simp only [go_sem,simprocAttr,h0]
       ·simp only [go_sem,simprocAttr,h5]
       ·simp only [go_sem,simprocAttr,h6]
       ·simp only [go_sem,simprocAttr,hn]
   ·have hf : v = false := by
     rw [← hm]
     simp only [Zcn]
     have : decide (0 ≤ dv ∧ dv < 8 ∧ bx.size ≤ 200) = false := decide_eq_false (fun h => d1 ⟨h.1,h.2.1⟩)
     rw [this]; rfl
    rw [hf]
    simp only [go_sem,simprocAttr,d1,decide_false]
    simp [Zf,Ze,Zk,Zg,Zh,Zd,Zc,Zb]
 simp only [go_sem,simprocAttr]
 refine loop l [] none _ _ rfl (.inl ⟨rfl,rfl⟩) ?_ ?_ ?_ ?_ hv
 all_goals simp only [go_sem,simprocAttr,List.length_nil,Int.natCast_zero]
theorem Zbji {t : Nat} {c : Cell} {H : Heap} : vMkI t (.c c) H = some (.c (.iface t false [c]),H) := rfl
theorem Zbep {t : Nat} {cs : List Cell} {H : Heap} : vMkI t (.agg cs) H = some (.c (.iface t true cs),H) := rfl
theorem Zbgy {e : Env} {H : Heap} {a n t : Nat} {agg : Bool} {R : AVal → Heap → Prop} : resW e H [.cell a agg n,.tmp t] R = Zq5 (Zfa agg n (e a) H) (fun v E => R (.tup [v,e t]) E) H := by
 have h : ev (.load agg n (.t a)) e H = Zfa agg n (e a) H := rfl
 have : Zg4 e H [.cell a agg n,.tmp t] = (Zfa agg n (e a) H).map (fun r => AVal.tup [r.1,e t]) := by
  simp only [Zg4,List.mapM_cons,List.mapM_nil,Zeo,h]
  cases Zfa agg n (e a) H with
  | none => rfl
  | some r => rfl
 simp only [resW,Zq5,this]
 cases Zfa agg n (e a) H with
 | none => simp
 | some r =>
  simp
  exact ⟨fun h => ⟨_,⟨_,rfl⟩,h⟩,fun ⟨v,⟨x,e⟩,h⟩ => by subst e; exact h⟩
theorem Zbh3 {e : Env} {H : Heap} {a n t : Nat} {agg : Bool} {R : AVal → Heap → Prop} : resW e H [.tmp t,.cell a agg n] R = Zq5 (Zfa agg n (e a) H) (fun v E => R (.tup [e t,v]) E) H := by
 have h : ev (.load agg n (.t a)) e H = Zfa agg n (e a) H := rfl
 have : Zg4 e H [.tmp t,.cell a agg n] = (Zfa agg n (e a) H).map (fun r => AVal.tup [e t,r.1]) := by
  simp only [Zg4,List.mapM_cons,List.mapM_nil,Zeo,h]
  cases Zfa agg n (e a) H with
  | none => rfl
  | some r => rfl
 simp only [resW,Zq5,this]
 cases Zfa agg n (e a) H with
 | none => simp
 | some r =>
  simp
  exact ⟨fun h => ⟨_,⟨_,rfl⟩,h⟩,fun ⟨v,⟨x,e⟩,h⟩ => by subst e; exact h⟩
attribute [go_sem] Zbji Zbep Zbgy Zbh3
section
variable {H : Heap} {k0 k1 k2 k3 k4 k5 k6 k7 k8 k9 k10 k11 k12 : Blk} {sz : Nat} {r q : List Cell} {ow lv : Bool} {rows : List (List Cell)}
theorem Zbkh : Heap.row (k0 :: k1 :: k2 :: k3 :: k4 :: k5 :: k6 :: k7 :: { sz := sz,rows := [r],own := ow,live := true } :: H) 8 0 = some r := rfl
theorem Zbia : Heap.mine (k0 :: k1 :: k2 :: k3 :: k4 :: k5 :: k6 :: k7 :: { sz := sz,rows := rows,own := true,live := true } :: H) 8 = true := rfl
theorem Zbi8 : Heap.put (k0 :: k1 :: k2 :: k3 :: k4 :: k5 :: k6 :: k7 :: { sz := sz,rows := [r],own := ow,live := lv } :: H) 8 0 q = k0 :: k1 :: k2 :: k3 :: k4 :: k5 :: k6 :: k7 :: { sz := sz,rows := [q],own := ow,live := lv } :: H := rfl
theorem Zbj8 : Heap.row (k0 :: k1 :: k2 :: k3 :: k4 :: k5 :: k6 :: k7 :: k8 :: { sz := sz,rows := [r],own := ow,live := true } :: H) 9 0 = some r := rfl
theorem Zbib : Heap.mine (k0 :: k1 :: k2 :: k3 :: k4 :: k5 :: k6 :: k7 :: k8 :: { sz := sz,rows := rows,own := true,live := true } :: H) 9 = true := rfl
theorem Zbi6 : Heap.put (k0 :: k1 :: k2 :: k3 :: k4 :: k5 :: k6 :: k7 :: k8 :: { sz := sz,rows := [r],own := ow,live := lv } :: H) 9 0 q = k0 :: k1 :: k2 :: k3 :: k4 :: k5 :: k6 :: k7 :: k8 :: { sz := sz,rows := [q],own := ow,live := lv } :: H := rfl
theorem Zbid : Heap.row (k0 :: k1 :: k2 :: k3 :: k4 :: k5 :: k6 :: k7 :: k8 :: k9 :: { sz := sz,rows := [r],own := ow,live := true } :: H) 10 0 = some r := rfl
theorem Zbfh : Heap.mine (k0 :: k1 :: k2 :: k3 :: k4 :: k5 :: k6 :: k7 :: k8 :: k9 :: { sz := sz,rows := rows,own := true,live := true } :: H) 10 = true := rfl
theorem Zbhi : Heap.put (k0 :: k1 :: k2 :: k3 :: k4 :: k5 :: k6 :: k7 :: k8 :: k9 :: { sz := sz,rows := [r],own := ow,live := lv } :: H) 10 0 q = k0 :: k1 :: k2 :: k3 :: k4 :: k5 :: k6 :: k7 :: k8 :: k9 :: { sz := sz,rows := [q],own := ow,live := lv } :: H := rfl
theorem Zbho : Heap.row (k0 :: k1 :: k2 :: k3 :: k4 :: k5 :: k6 :: k7 :: k8 :: k9 :: k10 :: { sz := sz,rows := [r],own := ow,live := true } :: H) 11 0 = some r := rfl
theorem Zbfg : Heap.mine (k0 :: k1 :: k2 :: k3 :: k4 :: k5 :: k6 :: k7 :: k8 :: k9 :: k10 :: { sz := sz,rows := rows,own := true,live := true } :: H) 11 = true := rfl
theorem Zbhn : Heap.put (k0 :: k1 :: k2 :: k3 :: k4 :: k5 :: k6 :: k7 :: k8 :: k9 :: k10 :: { sz := sz,rows := [r],own := ow,live := lv } :: H) 11 0 q = k0 :: k1 :: k2 :: k3 :: k4 :: k5 :: k6 :: k7 :: k8 :: k9 :: k10 :: { sz := sz,rows := [q],own := ow,live := lv } :: H := rfl
theorem Zbip : Heap.row (k0 :: k1 :: k2 :: k3 :: k4 :: k5 :: k6 :: k7 :: k8 :: k9 :: k10 :: k11 :: { sz := sz,rows := [r],own := ow,live := true } :: H) 12 0 = some r := rfl
theorem Zbgm : Heap.mine (k0 :: k1 :: k2 :: k3 :: k4 :: k5 :: k6 :: k7 :: k8 :: k9 :: k10 :: k11 :: { sz := sz,rows := rows,own := true,live := true } :: H) 12 = true := rfl
theorem Zbiv : Heap.put (k0 :: k1 :: k2 :: k3 :: k4 :: k5 :: k6 :: k7 :: k8 :: k9 :: k10 :: k11 :: { sz := sz,rows := [r],own := ow,live := lv } :: H) 12 0 q = k0 :: k1 :: k2 :: k3 :: k4 :: k5 :: k6 :: k7 :: k8 :: k9 :: k10 :: k11 :: { sz := sz,rows := [q],own := ow,live := lv } :: H := rfl
theorem Zbg8 : Heap.row (k0 :: k1 :: k2 :: k3 :: k4 :: k5 :: k6 :: k7 :: k8 :: k9 :: k10 :: k11 :: k12 :: { sz := sz,rows := [r],own := ow,live := true } :: H) 13 0 = some r := rfl
theorem Zbe1 : Heap.mine (k0 :: k1 :: k2 :: k3 :: k4 :: k5 :: k6 :: k7 :: k8 :: k9 :: k10 :: k11 :: k12 :: { sz := sz,rows := rows,own := true,live := true } :: H) 13 = true := rfl
theorem Zbg4 : Heap.put (k0 :: k1 :: k2 :: k3 :: k4 :: k5 :: k6 :: k7 :: k8 :: k9 :: k10 :: k11 :: k12 :: { sz := sz,rows := [r],own := ow,live := lv } :: H) 13 0 q = k0 :: k1 :: k2 :: k3 :: k4 :: k5 :: k6 :: k7 :: k8 :: k9 :: k10 :: k11 :: k12 :: { sz := sz,rows := [q],own := ow,live := lv } :: H := rfl
end
attribute [go_sem] Zbkh Zbia Zbi8 Zbj8 Zbib Zbi6 Zbid Zbfh Zbhi Zbho Zbfg Zbhn Zbip Zbgm Zbiv Zbg8 Zbe1 Zbg4
end Go.Proofs.YticmfblfghdkbaaGreatDoor.Eng
