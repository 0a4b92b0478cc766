/- Parts of this claim's proof, joined. No statement of the seat is proved here. -/
import Derived.Test.YticmfblfghdkbaaGreatDoorY26
set_option linter.unusedVariables false
set_option linter.unusedSimpArgs false
namespace Go.Proofs.YticmfblfghdkbaaGreatDoor.Eng
open Go
theorem Zxj : ∀ l : List Int,Zgr (l.map iRow) = true
 | [] => rfl
 | n :: l => by simp only [List.map_cons,Zgr,Zxj l,Bool.and_true]; rfl
theorem Z1c {α : Type} (f : α → Wrp) (pre : List α) (m : α) : ((pre ++ [m]).map f).map Wrp.cells = (pre.map f).map Wrp.cells ++ [[.int .i64 (f m).dev,.str (f m).box]] := by simp [Wrp.cells]
theorem Zna {H : Heap} {y : Cell} {rows : List (List Cell)} (h : Acc 2 rows (.c y) H) (hc : closedR rows = true) (a c d : Int) (b t : ByteArray) : ∃ x,Ze H y = some x ∧ WkC x (.lst 2 rows) ∧ Zf H (.agg [.int .i64 a,.str b,.int .i64 c,.int .i64 d,y,.str t]) = some (.agg [.int .i64 a,.str b,.int .i64 c,.int .i64 d,x,.str t]) ∧ WkA (.agg [.int .i64 a,.str b,.int .i64 c,.int .i64 d,x,.str t]) (.agg [.int .i64 a,.str b,.int .i64 c,.int .i64 d,.lst 2 rows,.str t]) := by
 obtain ⟨v,hv,hw⟩ := h.told hc
 have key : ∃ x,Ze H y = some x ∧ WkC x (.lst 2 rows) := by
  simp only [Zf] at hv
  split at hv <;> try (cases hv; done)
  rename_i x hx
  injection hv with hv
  subst hv
  cases hw with
  | same => exact ⟨_,hx,.same _⟩
  | c k => exact ⟨_,hx,k⟩
 obtain ⟨x,hx,hk⟩ := key
 refine ⟨x,hx,hk,?_,.agg (.cons (.same _) (.cons (.same _) (.cons (.same _) (.cons (.same _) (.cons hk (.cons (.same _) .nil))))))⟩
 simp only [Zf,Zg,hx]
 simp [Ze,Zk,Zc]
theorem Zly (secret master : ByteArray) (log : List Rec) (kind dev : Int) : (Zdl secret master log kind dev).cells = [.int .i64 ((log.length : Int) + 1),.str (Zbe log),.int .i64 kind,.int .i64 dev,.lst 2 (((Zca (log ++ [Zbl log kind dev]) ((log.length : Int) + 1)).map (Zd5 secret master (Zbl log kind dev))).map Wrp.cells),.str ⟨#[]⟩] := rfl
theorem Zxl (secret master : ByteArray) (log : List Rec) (kind dev : Int) (h0 : log.length ≠ 0) : (Zbx secret master log kind dev).cells = [.int .i64 ((log.length : Int) + 1),.str (Zbe log),.int .i64 kind,.int .i64 dev,.lst 2 (((Zca (log ++ [Zbl log kind dev]) ((log.length : Int) + 1)).map (Zd5 secret master (Zbl log kind dev))).map Wrp.cells),.str (tagR (Zcb secret log.length) (Zdl secret master log kind dev))] := by
 unfold Zbx
 rw [if_neg h0]; rfl
theorem Zvn (secret master : ByteArray) (log : List Rec) (kind dev : Int) (h0 : log.length = 0) : (Zbx secret master log kind dev).cells = (Zdl secret master log kind dev).cells := by
 unfold Zbx
 rw [if_pos h0]
set_option maxHeartbeats 4000000 in
theorem Ztk (secret master : ByteArray) (log : List Rec) (kind dev : Int) (hs : secret.size ≤ 1000000) (hm : master.size ≤ 1000000) (h9 : log.length ≤ 100000) :
  Pr 17 [sC secret,sC master,.c (Z7 log),iC kind,iC dev] (.tup [.agg (Zco secret master log kind dev).cells,iC (Zb4 log kind dev)]) := by
 have hmk := Z2h log kind dev
 have hnum := Z0b Zza (Zb4 log kind dev)
 refine Zhp mixed Z4b (by simp [Zq,Zp,Zc,Z7,Zb7]) fun hl T => ?_
 clear hl
 unfold Zv6
 by_cases hz : Zb4 log kind dev = 0
 ·have hmr : Zco secret master log kind dev = Zbx secret master log kind dev := by unfold Zco; rw [if_pos hz]
  have hsv : Zbf Zza (Zb4 log kind dev) = .c .nilI := by rw [hz]; rfl
  rw [hsv] at hmk
  rw [hmr,hz]
  obtain ⟨z1,z2,z3,z4,z5,z6,z7,z8⟩ := Zh4 hz
  have h40 : log.length ≤ 40 := by omega
  have hnx := Z2n log kind dev h40
  have hbm := Zrk hz
  have hhd : Pr 53 [.agg [.int .i64 ((log.length : Int) + 1),.str (Zbe log),.int .i64 kind,.int .i64 dev,.nilS,.str ⟨#[]⟩]] (sC (Zcs (Zbl log kind dev))) :=
   (Zqc (Zbl log kind dev)).wk (.cons (.agg (.cons (.same _) (.cons (.same _) (.cons (.same _) (.cons (.same _) (.cons (.nilS _) (.cons (.same _) .nil))))))) .nil)
  have hhs := Zrd (Zbl log kind dev)
  have hsrc : ∀ H : Heap,CallSound Tryz.prog 55 ([.c (.lst 6 (log.map Rec.cells))] ++ List.map AVal.c []) H (Zd3 6 (log.map Rec.cells) H) (Zel 6 (log.map Rec.cells) H) := fun H => Zoa (.inl rfl) (by omega)
  obtain ⟨vm,Em,hm1,hm2⟩ := Zld (log ++ [Zbl log kind dev]) ((log.length : Int) + 1) (by unfold maxLen; simp; omega)
  obtain ⟨ms,hms⟩ : ∃ ms,ms = Zca (log ++ [Zbl log kind dev]) ((log.length : Int) + 1) := ⟨_,rfl⟩
  have hms8 : ∀ m ∈ ms,0 ≤ m ∧ m < 8 := fun m h => Zwo (by rw [hms] at h; exact h)
  have hmsl : ms.length ≤ 8 := by
   rw [hms]
   unfold Zca
   exact List.length_filter_le _ _
  rw [← hms] at hm2
  have hep := Zr6 secret (log.length + 1) hs (by omega)
  have hen : ((log.length + 1 : Nat) : Int) = (log.length : Int) + 1 := by omega
  rw [hen] at hep
  have hno := Zsa ((log.length : Int) + 1)
  have hown := fun k : Nat => fun hk : k < 8 => Z54 master k hm (by omega)
  have hwrp := fun k : Nat => Zt0 (ownK master k) (by rw [Zon]; omega)
  have hseal := fun k : Nat => Z6k (Zde (ownK master k)) (Zc7 ((log.length : Int) + 1)) (Zcs (Zbl log kind dev)) (Zcb secret ((log.length : Int) + 1)) hhs
  have htag := Z6u (Zcb secret log.length) (Zdl secret master log kind dev) (by rw [Zij]; omega)
  rw [Zly,← hms] at htag
  have hepl := Zr6 secret log.length hs (by omega)
  have hnc := Zxl secret master log kind dev
  have hnc0 := Zvn secret master log kind dev
  rw [Zly,← hms] at hnc0
  rw [← hms] at hnc
  have hrow2 := Zb7 (log ++ [Zbl log kind dev])
  have hml : ((log.map Rec.cells).length : Int) = (log.length : Int) := by simp
  have hbc : (Zbl log kind dev).cells = [.int .i64 ((log.length : Int) + 1),.str (Zbe log),.int .i64 kind,.int .i64 dev,.lst 2 [],.str ⟨#[]⟩] := rfl
  simp only [Z7] at hmk hnx hm1 ⊢
  rw [← Z1g,hbc] at hm1
  have hm1' : CallSound Tryz.prog 54 [.c (.lst 6 (log.map Rec.cells ++ [[.int .i64 ((log.length : Int) + 1),.str (Zbe log),.int .i64 kind,.int .i64 dev,.nilS,.str ⟨#[]⟩]])),iC ((log.length : Int) + 1)] [] vm Em :=
   hm1.wk_row (Zz3 (.cons (.same _) (.cons (.same _) (.cons (.same _) (.cons (.same _) (.cons (.nilS _) (.cons (.same _) .nil)))))) _)
  have hrow2 : closedR (log.map Rec.cells ++ [[.int .i64 ((log.length : Int) + 1),.str (Zbe log),.int .i64 kind,.int .i64 dev,.nilS,.str ⟨#[]⟩]]) = true := by
   have := Zb7 log
   have key : ∀ rows : List (List Cell),closedR rows = true → closedR (rows ++ [[.int .i64 ((log.length : Int) + 1),.str (Zbe log),.int .i64 kind,.int .i64 dev,.nilS,.str ⟨#[]⟩]]) = true := by
    intro rows
    induction rows with
    | nil => intro _; rfl
    | cons x rows ih =>
     intro h
     simp only [List.cons_append,closedR,Bool.and_eq_true] at h ⊢
     exact ⟨h.1,ih h.2⟩
   exact key _ this
  have hmem : ∀ (v : AVal) (H : Heap),Acc 6 (log.map Rec.cells ++ [[.int .i64 ((log.length : Int) + 1),.str (Zbe log),.int .i64 kind,.int .i64 dev,.nilS,.str ⟨#[]⟩]]) v H → CallSound Tryz.prog 54 ([v,iC ((log.length : Int) + 1)] ++ List.map AVal.c []) H (.c (.lst 1 (ms.map iRow))) H := fun v H h =>
   hm1'.freshL hm2 (Zxj ms) (by simp [Zd,h.view_ne (by simp) hrow2,Zf,Ze,Zk,Zc])
  have hwf : ∀ m,Zd5 secret master (Zbl log kind dev) m = ⟨m,Zc4 (Zde (ownK master m)) (Zc7 ((log.length : Int) + 1)) (Zcs (Zbl log kind dev)) (Zcb secret ((log.length : Int) + 1))⟩ := fun m => rfl
  generalize Zcs (Zbl log kind dev) = hd at hhd hhs hseal hwf
  generalize tagR (Zcb secret log.length) (Zdl secret master log kind dev) = TG at htag hnc
  generalize Zd5 secret master (Zbl log kind dev) = wf at htag hnc hnc0 hwf
  generalize Zbe log = pv at *
  generalize Zcb secret ((log.length : Int) + 1) = ek at hep hseal hwf
  generalize Zc7 ((log.length : Int) + 1) = nn at hno hseal hwf
  generalize Zcb secret log.length = el at htag hepl
  have hmsl' : ∀ pre rest : List Int,ms = pre ++ rest → pre.length ≤ 8 := fun pre rest h => by rw [h] at hmsl; simp at hmsl; omega
  have hseq : IntKind.wrap .i64 ((log.length : Int) + 1 - 1) = (log.length : Int) := by rw [Zn (by omega)]; omega
  have hclw : ∀ l : List Wrp,closedR (l.map Wrp.cells) = true := Zj6
  obtain ⟨N,hN⟩ : ∃ N : Int,N = (log.length : Int) + 1 := ⟨_,rfl⟩
  have loop : ∀ (rest pre : List Int) (y : Cell) (e : Env) (H : Heap),ms = pre ++ rest → e 0 = sC secret → e 1 = sC master → e 10 = .c (.ptr 0 0 0) → e 13 = .c (.ptr 1 0 0) → e 14 = sC hd → e 40 = .c (.lst 1 (ms.map iRow)) → e 41 = iC (ms.map iRow).length → e 42 = iC pre.length →
    H[0]? = some { sz := 6,rows := [[.int .i64 0,.str ⟨#[]⟩,.int .i64 0,.int .i64 0,.nilS,.str ⟨#[]⟩]],own := true,live := true } → H[1]? = some { sz := 6,rows := [[.int .i64 ((log.length : Int) + 1),.str pv,.int .i64 kind,.int .i64 dev,y,.str ⟨#[]⟩]],own := true,live := true } → Acc 2 ((pre.map wf).map Wrp.cells) (.c y) H →
    Run (Zt Tryz.prog T) ⟨[.cell 10 true 6,.tmp 11],fun u E => Zkt E u (.tup [.agg (Zbx secret master log kind dev).cells,iC 0])⟩ [.loop Zjq,.blk 0,.code Znw] e H := by
   intro rest
   induction rest with
   | nil =>
    intro pre y e H hp h0 h1 h10 h13 h14 h40' h41 h42 b0 b1 ha
    have hc := Zdg (f := iRow) hp
    rw [List.append_nil] at hp
    rw [← hp] at ha
    refine Zi ?_
    conv => enter [3,1]; unfold Zjq
    simp only [go_sem,simprocAttr,h41,h42,hc]
    unfold Znw
    by_cases hl0 : log.length = 0
    ·have c1 : ¬ ((1 : Int) < (log.length : Int) + 1) := by omega
     rw [hnc0 hl0]
     have e0 := ha.set_nb (b := 0) (B := { sz := 6,rows := [[.int .i64 ((log.length : Int) + 1),.str pv,.int .i64 kind,.int .i64 dev,y,.str ⟨#[]⟩]],own := true,live := true }) (ha.nb_sz b0 (by show (6 : Nat) ≠ 2; decide))
     obtain ⟨x,hx1,hx2,hx3,hx4⟩ := Zna e0 (hclw _) ((log.length : Int) + 1) kind dev pv ⟨#[]⟩
     simp only [go_sem,simprocAttr,h10,h13,Zv b1,c1,Zv b0,Zdr b0,Ze0 b0]
     simp only [go_sem,simprocAttr,h10,Zv (Zu b0)]
     refine ⟨_,?_,.tup2 hx4 (.same _)⟩
     simp only [Z1a,Zd,hx3]
     simp [Zf,Ze,Zk,Zg,Zh,Zd,Zc,Zb]
    ·have c1 : ((1 : Int) < (log.length : Int) + 1) := by omega
     rw [hnc hl0]
     have n0 : NB (.c y) 0 := ha.nb_sz b0 (by show (6 : Nat) ≠ 2; decide)
     have n1 : NB (.c y) 1 := ha.nb_sz b1 (by show (6 : Nat) ≠ 2; decide)
     obtain ⟨x,hx1,hx2,hx3,hx4⟩ := Zna ha (hclw _) ((log.length : Int) + 1) kind dev pv ⟨#[]⟩
     have htg : Pr 26 [sC el,.agg [.int .i64 ((log.length : Int) + 1),.str pv,.int .i64 kind,.int .i64 dev,x,.str ⟨#[]⟩]] (sC TG) := htag.wk (.cons (.same _) (.cons hx4 .nil))
     simp only [go_sem,simprocAttr,h0,h13,Zv b1,c1,hseq]
     refine Za hepl ?_
     simp only [go_sem,simprocAttr,h13,Zv b1]
     refine Zfp htg (by simp only [Zd,List.map_nil,List.append_nil,List.cons_append,List.nil_append,hx3]; simp [Zf,Ze,Zk,Zg,Zh,Zd,Zc,Zb]) rfl ?_
     obtain ⟨s1,s0⟩ := Z7u b0 b1 { sz := 6,rows := [[.int .i64 ((log.length : Int) + 1),.str pv,.int .i64 kind,.int .i64 dev,y,.str TG]],own := true,live := true }
     have e1 := (ha.set_nb (b := 1) (B := { sz := 6,rows := [[.int .i64 ((log.length : Int) + 1),.str pv,.int .i64 kind,.int .i64 dev,y,.str TG]],own := true,live := true }) n1).set_nb (b := 0) (B := { sz := 6,rows := [[.int .i64 ((log.length : Int) + 1),.str pv,.int .i64 kind,.int .i64 dev,y,.str TG]],own := true,live := true }) n0
     obtain ⟨x',hy1,hy2,hy3,hy4⟩ := Zna e1 (hclw _) ((log.length : Int) + 1) kind dev pv TG
     simp only [go_sem,simprocAttr,h10,h13,Zv b1,Zdr b1,Ze0 b1]
     simp only [go_sem,simprocAttr,h10,h13,Zv s1,Zv s0,Zdr s0,Ze0 s0,Zv (Zu s0)]
     refine ⟨_,?_,.tup2 hy4 (.same _)⟩
     simp only [Z1a,Zd,hy3]
     simp [Zf,Ze,Zk,Zg,Zh,Zd,Zc,Zb]
   | cons m rest ih =>
    intro pre y e H hp h0 h1 h10 h13 h14 h40' h41 h42 b0 b1 ha
    have hc := Zhz (f := iRow) hp
    have hr := Zef (f := iRow) hp
    have hn := Zcy hp (by unfold maxLen; omega)
    have hpl := hmsl' _ _ hp
    obtain ⟨m0,m8⟩ := hms8 m (by rw [hp]; simp)
    obtain ⟨k,rfl⟩ : ∃ k : Nat,m = (k : Int) := ⟨m.toNat,by omega⟩
    have howk := hown k (by omega)
    have hwk := hwrp k
    have hsk := hseal k
    have hwfk := hwf k
    generalize Zc4 (Zde (ownK master k)) nn hd ek = bx at hsk hwfk
    generalize Zde (ownK master k) = wk at hwk hsk
    generalize ownK master k = ok at howk hwk
    have hlk : ∀ H : Heap,mkF H (vLit 2 1 (some [[.int .i64 (k : Int),.str bx]]) H) = some (.c (.lst 2 [[.int .i64 (k : Int),.str bx]])) := fun H => Zhr rfl
    refine Zi ?_
    conv => enter [3,1]; unfold Zjq
    simp only [go_sem,simprocAttr,h1,h40',h41,h42,hc,hr,iRow]
    refine Za howk ?_
    simp only [go_sem,simprocAttr]
    refine Za hwk ?_
    simp only [go_sem,simprocAttr,h13,h14,Zv b1]
    refine Za hno ?_
    simp only [go_sem,simprocAttr,h0,h13,h14,Zv b1]
    refine Za hep ?_
    simp only [go_sem,simprocAttr]
    refine Za hsk ?_
    simp only [go_sem,simprocAttr,hlk]
    have n0 : NB (.c y) 0 := ha.nb_sz b0 (by decide)
    have n1 : NB (.c y) 1 := ha.nb_sz b1 (by show (6 : Nat) ≠ 2; decide)
    refine Acc.app_keep ha (by simp; omega) fun v' H' ha' keep => ?_
    obtain ⟨b0',m0'⟩ := keep 0 _ n0 b0
    obtain ⟨b1',m1'⟩ := keep 1 _ n1 b1
    obtain ⟨b6,ext6,rfl,_,h6⟩ := ha'.slc (by simp)
    simp only [go_sem,simprocAttr,h13,Zv b1',Zdr b1',Ze0 b1',h42,hn]
    have hrw : ((pre.map wf).map Wrp.cells) ++ [[.int .i64 (k : Int),.str bx]] = ((pre ++ [(k : Int)]).map wf).map Wrp.cells := by rw [Z1c,hwfk]
    refine ih (pre ++ [(k : Int)]) _ _ _ (by rw [hp]; simp) ?_ ?_ ?_ ?_ ?_ ?_ ?_ ?_ (Zo b0' (by omega)) (Zu b1') ?_
    ·simp only [go_sem,simprocAttr,h0]
    ·simp only [go_sem,simprocAttr,h1]
    ·simp only [go_sem,simprocAttr,h10]
    ·simp only [go_sem,simprocAttr,h13]
    ·simp only [go_sem,simprocAttr,h14]
    ·simp only [go_sem,simprocAttr,h40']
    ·simp only [go_sem,simprocAttr,h41]
    ·simp only [go_sem,simprocAttr,hn]
    ·rw [← hrw]; exact ha'.set_nb m1'
  have hlt : ∀ H : Heap,mkF H (vLit 6 1 (some [[.int .i64 ((log.length : Int) + 1),.str pv,.int .i64 kind,.int .i64 dev,.nilS,.str ⟨#[]⟩]]) H) = some (.c (.lst 6 [[.int .i64 ((log.length : Int) + 1),.str pv,.int .i64 kind,.int .i64 dev,.nilS,.str ⟨#[]⟩]])) := fun H => Zhr rfl
  simp only [go_sem,simprocAttr]
  refine Za hmk ?_
  simp only [go_sem,simprocAttr,bne_self_eq_false]
  refine Za hnx ?_
  simp only [go_sem,simprocAttr]
  refine Za hhd ?_
  simp only [go_sem,simprocAttr]
  refine Z1 (hsrc _) (fun _ => Zud _ _ _) ?_
  have a1 := Z0v 6 (log.map Rec.cells) [{ sz := 6,rows := [[.int .i64 0,.str ⟨#[]⟩,.int .i64 0,.int .i64 0,.nilS,.str ⟨#[]⟩]],own := true,live := true },{ sz := 6,rows := [[.int .i64 ((log.length : Int) + 1),.str pv,.int .i64 kind,.int .i64 dev,.nilS,.str ⟨#[]⟩]],own := true,live := true }]
  have p1 := Zud 6 (log.map Rec.cells) [{ sz := 6,rows := [[.int .i64 0,.str ⟨#[]⟩,.int .i64 0,.int .i64 0,.nilS,.str ⟨#[]⟩]],own := true,live := true },{ sz := 6,rows := [[.int .i64 ((log.length : Int) + 1),.str pv,.int .i64 kind,.int .i64 dev,.nilS,.str ⟨#[]⟩]],own := true,live := true }]
  have n0 : NB (Zd3 6 (log.map Rec.cells) [{ sz := 6,rows := [[.int .i64 0,.str ⟨#[]⟩,.int .i64 0,.int .i64 0,.nilS,.str ⟨#[]⟩]],own := true,live := true },{ sz := 6,rows := [[.int .i64 ((log.length : Int) + 1),.str pv,.int .i64 kind,.int .i64 dev,.nilS,.str ⟨#[]⟩]],own := true,live := true }]) 0 := Zro _ _ (by simp)
  have n1 : NB (Zd3 6 (log.map Rec.cells) [{ sz := 6,rows := [[.int .i64 0,.str ⟨#[]⟩,.int .i64 0,.int .i64 0,.nilS,.str ⟨#[]⟩]],own := true,live := true },{ sz := 6,rows := [[.int .i64 ((log.length : Int) + 1),.str pv,.int .i64 kind,.int .i64 dev,.nilS,.str ⟨#[]⟩]],own := true,live := true }]) 1 := Zro _ _ (by simp)
  have q0 := Zp1 (b := 0) p1 rfl
  have q1 := Zp1 (b := 1) p1 rfl
  generalize Zd3 6 (log.map Rec.cells) [{ sz := 6,rows := [[.int .i64 0,.str ⟨#[]⟩,.int .i64 0,.int .i64 0,.nilS,.str ⟨#[]⟩]],own := true,live := true },{ sz := 6,rows := [[.int .i64 ((log.length : Int) + 1),.str pv,.int .i64 kind,.int .i64 dev,.nilS,.str ⟨#[]⟩]],own := true,live := true }] = V1 at a1 n0 n1 ⊢
  generalize Zel 6 (log.map Rec.cells) [{ sz := 6,rows := [[.int .i64 0,.str ⟨#[]⟩,.int .i64 0,.int .i64 0,.nilS,.str ⟨#[]⟩]],own := true,live := true },{ sz := 6,rows := [[.int .i64 ((log.length : Int) + 1),.str pv,.int .i64 kind,.int .i64 dev,.nilS,.str ⟨#[]⟩]],own := true,live := true }] = H1 at a1 q0 q1 ⊢
  simp only [go_sem,simprocAttr,Zv q1,hlt]
  refine Acc.app_keep a1 (by simp; omega) fun V2 H2 a2 keep => ?_
  obtain ⟨b0,_⟩ := keep 0 _ n0 q0
  obtain ⟨b1,_⟩ := keep 1 _ n1 q1
  simp only [go_sem,simprocAttr,Zv b1]
  refine Z1 (hmem V2 H2 a2) (fun _ => List.prefix_refl _) ?_
  simp only [go_sem,simprocAttr]
  refine loop ms [] .nilS _ _ rfl ?_ ?_ ?_ ?_ ?_ ?_ ?_ ?_ b0 b1 .nil
  all_goals simp only [go_sem,simprocAttr,List.length_nil,Int.natCast_zero]
 ·have hmr : Zco secret master log kind dev = Zrt := by unfold Zco; rw [if_neg hz]
  have hsv : Zbf Zza (Zb4 log kind dev) = .c (Z25 Zza (Zb4 log kind dev)) := by unfold Zbf; rw [if_neg hz]
  rw [hsv] at hmk hnum
  rw [hmr]
  generalize Zb4 log kind dev = E at *
  simp only [Z7] at hmk ⊢
  simp only [go_sem,simprocAttr]
  refine Za hmk ?_
  simp only [go_sem,simprocAttr,bne_self_eq_false,Bool.true_bne,Bool.not_false]
  refine Za hnum ?_
  simp only [go_sem,simprocAttr]
  refine ⟨.tup [.agg [.int .i64 0,.str ⟨#[]⟩,.int .i64 0,.int .i64 0,.nilS,.str ⟨#[]⟩],iC E],?_,.tup2 (.agg (.cons (.same _) (.cons (.same _) (.cons (.same _) (.cons (.same _) (.cons (.nilS _) (.cons (.same _) .nil))))))) (.same _)⟩
  simp [Zf,Ze,Zk,Zg,Zh,Zd,Zc,Zb]
def Zlg (r : Rec) (e : Int) : List Cell := r.cells ++ [.int .i64 e]
abbrev Zbgw : List Cell := [.int .i64 0,.str ⟨#[]⟩,.int .i64 0,.int .i64 0,.nilS,.str ⟨#[]⟩,.int .i64 0]
def Z8u (secret master : ByteArray) (rows : List (List Cell)) (kind dev N : Int) (m : Bool) (e : Env) (H : Heap) : Prop :=
 e 0 = sC secret ∧ e 1 = sC master ∧ e 2 = .c (.lst 6 rows) ∧ e 3 = iC kind ∧ e 4 = iC dev ∧ e 10 = .c (.ptr 0 0 0) ∧ e 11 = iC N ∧ e 12 = bC m ∧ H = [{ sz := 7,rows := [Zbgw],own := true,live := true }]
def MadeV (cs : List Cell) (n : Int) (u : AVal) (E : Heap) : Prop := ∃ a b c d t y rows,cs = [a,b,c,d,.lst 2 rows,t] ∧ Zez [a,b,c,d,t] = true ∧ Zgr rows = true ∧ u = .agg [a,b,c,d,y,t,.int .i64 n] ∧ Acc 2 rows (.c y) E
theorem Zb6 (E : Int) (G : Heap) : MadeV Zrt.cells E (.agg [.int .i64 0,.str ⟨#[]⟩,.int .i64 0,.int .i64 0,.nilS,.str ⟨#[]⟩,.int .i64 E]) G := ⟨_,_,_,_,_,.nilS,[],rfl,rfl,rfl,rfl,.nil⟩
def Zvw : ACode := .block 0 (.seq (.region [im 23 3,ii 24 (.bin .neq (.t 23) (ki 1)),im 25 24,ig 26 (.mv (.t 3)) 25 true,ig 27 (.bin .neq (.t 26) (ki 2)) 25 true,ii 28 (.pick (.t 25) (.t 27) (.k (.c (.bool false)))),im 29 28,ig 30 (.mv (.t 4)) 29 false,ig 31 (.bin .lss (.t 30) (ki 0)) 29 false,ii 32 (.pick (.t 29) (.k (.c (.bool true))) (.t 31)),im 33 32,ig 34 (.mv (.t 4)) 33 false,ig 35 (.bin .geq (.t 34) (ki 8)) 33 false,ii 36 (.pick (.t 33) (.k (.c (.bool true))) (.t 35)),im 37 36,ig 38 (.mv (.t 2)) 37 false,ig 39 (.call (.f 20) [.t 38]) 37 false,ig 40 (.un .not (.t 39)) 37 false,ii 41 (.pick (.t 37) (.k (.c (.bool true))) (.t 40)),im 42 41,ig 43 (.mv (.t 11)) 42 false,ig 44 (.bin .eql (.t 43) (ki 0)) 42 false,ig 45 (.mv (.t 44)) 42 false,ig 46 (.mv (.t 3)) 45 true,ig 47 (.bin .neq (.t 46) (ki 1)) 45 true,ig 48 (.mv (.t 47)) 45 true,ig 49 (.mv (.t 4)) 48 false,ig 50 (.bin .neq (.t 49) (ki 0)) 48 false,ig 51 (.pick (.t 48) (.k (.c (.bool true))) (.t 50)) 45 true,ig 52 (.pick (.t 45) (.t 51) (.k (.c (.bool false)))) 42 false,ii 53 (.pick (.t 42) (.k (.c (.bool true))) (.t 52)),im 54 53,ig 55 (.mv (.t 3)) 54 false,ig 56 (.bin .eql (.t 55) (ki 2)) 54 false,ig 57 (.mv (.t 56)) 54 false,ig 58 (.mv (.t 4)) 57 true,ig 59 (.bin .eql (.t 58) (ki 0)) 57 true,ig 60 (.pick (.t 57) (.t 59) (.k (.c (.bool false)))) 54 false,ii 61 (.pick (.t 54) (.k (.c (.bool true))) (.t 60)),im 22 61] false) (.cond (.t 22) (.seq (.region [ii 62 (.build [.int .i64 0,.str ⟨#[]⟩,.int .i64 0,.int .i64 0,.nilS,.str ⟨#[]⟩,.int .i64 0] [(6,1,.k (.c (.int .i64 1)))]),ie (.store 7 (.t 10) (.t 62))] false) .ret) (.seq (.region [im 64 3,ii 65 (.bin .eql (.t 64) (ki 1)),im 66 65,ig 67 (.mv (.t 12)) 66 true,ii 68 (.pick (.t 66) (.t 67) (.k (.c (.bool false)))),im 63 68] false) (.cond (.t 63) (.seq (.region [ii 69 (.build [.int .i64 0,.str ⟨#[]⟩,.int .i64 0,.int .i64 0,.nilS,.str ⟨#[]⟩,.int .i64 0] [(6,1,.k (.c (.int .i64 3)))]),ie (.store 7 (.t 10) (.t 69))] false) .ret) (.seq (.region [im 71 3,ii 72 (.bin .eql (.t 71) (ki 2)),im 73 72,ig 74 (.mv (.t 12)) 73 true,ig 75 (.un .not (.t 74)) 73 true,ii 76 (.pick (.t 73) (.t 75) (.k (.c (.bool false)))),im 70 76] false) (.cond (.t 70) (.seq (.region [ii 77 (.build [.int .i64 0,.str ⟨#[]⟩,.int .i64 0,.int .i64 0,.nilS,.str ⟨#[]⟩,.int .i64 0] [(6,1,.k (.c (.int .i64 2)))]),ie (.store 7 (.t 10) (.t 77))] false) .ret) (.seq (.region [im 79 11,ii 80 (.bin .geq (.t 79) (ki 40)),im 78 80] false) (.cond (.t 78) (.seq (.region [ii 81 (.build [.int .i64 0,.str ⟨#[]⟩,.int .i64 0,.int .i64 0,.nilS,.str ⟨#[]⟩,.int .i64 0] [(6,1,.k (.c (.int .i64 12)))]),ie (.store 7 (.t 10) (.t 81))] false) .ret) .skip))))))))
set_option maxHeartbeats 8000000 in
theorem Zy7 (secret master : ByteArray) (log : List Rec) (kind dev : Int) (T : Nat → Option AFun) (p : Post) (k : List Itm) (e : Env) (H : Heap) (h : Z8u secret master (log.map Rec.cells) kind dev log.length (memL log log.length dev) e H)
  (hp : p = ⟨[.cell 10 true 7],fun u E => MadeV (Zco secret master log kind dev).cells (Zb4 log kind dev) u E⟩)
  (hok : Zb4 log kind dev = 0 → ∀ e',Z8u secret master (log.map Rec.cells) kind dev log.length (memL log log.length dev) e' H → Run (Zt Tryz.prog T) p k e' H) : Run (Zt Tryz.prog T) p (.code Zvw :: k) e H := by
 have hck := Z3q log
 obtain ⟨E,hE⟩ : ∃ E,E = Zb4 log kind dev := ⟨_,rfl⟩
 have hR : E ≠ 0 → Zco secret master log kind dev = Zrt := fun h => by unfold Zco; rw [if_neg (by rw [← hE]; exact h)]
 rw [← hE] at hok hp
 generalize Zco secret master log kind dev = RR at hR hp
 unfold Zb4 at hE
 simp only [Z7] at hck
 generalize memL log log.length dev = m at hE h hok
 generalize Zdp log = ck at hck hE
 generalize log.map Rec.cells = rows at hck h hok
 have n0 : (log.length = 0) = ((log.length : Int) = 0) := by rw [Int.natCast_eq_zero]
 have n40 : (40 ≤ log.length) = ((40 : Int) ≤ (log.length : Int)) := by apply propext; omega
 simp only [n0,n40] at hE
 clear n0 n40
 generalize (log.length : Int) = N at hE h hok
 obtain ⟨h0,h1,h2,h3,h4,h10,h11,h12,rfl⟩ := h
 have q21 : ¬ ((2 : Int) = 1) := by omega
 have q12 : ¬ ((1 : Int) = 2) := by omega
 unfold Zvw
 by_cases k1 : kind = 1
 ·subst k1
  by_cases d1 : dev < 0
  ·have d0 : ¬ dev = 0 := by omega
   simp only [go_sem,simprocAttr,h2,h3,h4,h10,h11,h12,hp,q21,q12,eq_self,d1,d0]
   have hf : E = 1 := by simp [hE,q21,q12,eq_self,d1,d0]
   rw [hR (by omega),hf]
   exact Zb6 _ _
  by_cases d2 : 8 ≤ dev
  ·have d0 : ¬ dev = 0 := by omega
   simp only [go_sem,simprocAttr,h2,h3,h4,h10,h11,h12,hp,q21,q12,eq_self,d1,d2,d0]
   have hf : E = 1 := by simp [hE,q21,q12,eq_self,d1,d2,d0]
   rw [hR (by omega),hf]
   exact Zb6 _ _
  cases ck with
  | false =>
   simp only [go_sem,simprocAttr,h2,h3,h4,h10,h11,h12,hp,q21,q12,eq_self,d1,d2]
   refine Za hck ?_
   simp only [go_sem,simprocAttr,h2,h3,h4,h10,h11,h12,hp,q21,q12,eq_self,d1,d2]
   have hf : E = 1 := by simp [hE,q21,q12,eq_self,d1,d2]
   rw [hR (by omega),hf]
   exact Zb6 _ _
  | true =>
   by_cases d0 : dev = 0
   ·by_cases l0 : N = 0
    ·have l40 : ¬ (40 ≤ N) := by omega
     cases m with
     | false =>
      simp only [go_sem,simprocAttr,h2,h3,h4,h10,h11,h12,hp,q21,q12,eq_self,d1,d2,d0,l0,l40]
      refine Za hck ?_
      simp only [go_sem,simprocAttr,h2,h3,h4,h10,h11,h12,hp,q21,q12,eq_self,d1,d2,d0,l0,l40]
      have hf : E = 0 := by simp [hE,q21,q12,eq_self,d1,d2,d0,l0,l40]
      subst hp
      refine hok hf _ ⟨?_,?_,?_,?_,?_,?_,?_,?_,rfl⟩
      all_goals simp only [go_sem,simprocAttr,h0,h1,h2,h3,h4,h10,h11,h12]
     | true =>
      simp only [go_sem,simprocAttr,h2,h3,h4,h10,h11,h12,hp,q21,q12,eq_self,d1,d2,d0,l0,l40]
      refine Za hck ?_
      simp only [go_sem,simprocAttr,h2,h3,h4,h10,h11,h12,hp,q21,q12,eq_self,d1,d2,d0,l0,l40]
      have hf : E = 3 := by simp [hE,q21,q12,eq_self,d1,d2,d0,l0,l40]
      rw [hR (by omega),hf]
      exact Zb6 _ _
    ·by_cases l40 : 40 ≤ N
     ·cases m with
      | false =>
       simp only [go_sem,simprocAttr,h2,h3,h4,h10,h11,h12,hp,q21,q12,eq_self,d1,d2,d0,l0,l40]
       refine Za hck ?_
       simp only [go_sem,simprocAttr,h2,h3,h4,h10,h11,h12,hp,q21,q12,eq_self,d1,d2,d0,l0,l40]
       have hf : E = 12 := by simp [hE,q21,q12,eq_self,d1,d2,d0,l0,l40]
       rw [hR (by omega),hf]
       exact Zb6 _ _
      | true =>
       simp only [go_sem,simprocAttr,h2,h3,h4,h10,h11,h12,hp,q21,q12,eq_self,d1,d2,d0,l0,l40]
       refine Za hck ?_
       simp only [go_sem,simprocAttr,h2,h3,h4,h10,h11,h12,hp,q21,q12,eq_self,d1,d2,d0,l0,l40]
       have hf : E = 3 := by simp [hE,q21,q12,eq_self,d1,d2,d0,l0,l40]
       rw [hR (by omega),hf]
       exact Zb6 _ _
     ·cases m with
      | false =>
       simp only [go_sem,simprocAttr,h2,h3,h4,h10,h11,h12,hp,q21,q12,eq_self,d1,d2,d0,l0,l40]
       refine Za hck ?_
       simp only [go_sem,simprocAttr,h2,h3,h4,h10,h11,h12,hp,q21,q12,eq_self,d1,d2,d0,l0,l40]
       have hf : E = 0 := by simp [hE,q21,q12,eq_self,d1,d2,d0,l0,l40]
       subst hp
       refine hok hf _ ⟨?_,?_,?_,?_,?_,?_,?_,?_,rfl⟩
       all_goals simp only [go_sem,simprocAttr,h0,h1,h2,h3,h4,h10,h11,h12]
      | true =>
       simp only [go_sem,simprocAttr,h2,h3,h4,h10,h11,h12,hp,q21,q12,eq_self,d1,d2,d0,l0,l40]
       refine Za hck ?_
       simp only [go_sem,simprocAttr,h2,h3,h4,h10,h11,h12,hp,q21,q12,eq_self,d1,d2,d0,l0,l40]
       have hf : E = 3 := by simp [hE,q21,q12,eq_self,d1,d2,d0,l0,l40]
       rw [hR (by omega),hf]
       exact Zb6 _ _
   ·by_cases l0 : N = 0
    ·simp only [go_sem,simprocAttr,h2,h3,h4,h10,h11,h12,hp,q21,q12,eq_self,d1,d2,d0,l0]
     refine Za hck ?_
     simp only [go_sem,simprocAttr,h2,h3,h4,h10,h11,h12,hp,q21,q12,eq_self,d1,d2,d0,l0]
     have hf : E = 1 := by simp [hE,q21,q12,eq_self,d1,d2,d0,l0]
     rw [hR (by omega),hf]
     exact Zb6 _ _
    ·by_cases l40 : 40 ≤ N
     ·cases m with
      | false =>
       simp only [go_sem,simprocAttr,h2,h3,h4,h10,h11,h12,hp,q21,q12,eq_self,d1,d2,d0,l0,l40]
       refine Za hck ?_
       simp only [go_sem,simprocAttr,h2,h3,h4,h10,h11,h12,hp,q21,q12,eq_self,d1,d2,d0,l0,l40]
       have hf : E = 12 := by simp [hE,q21,q12,eq_self,d1,d2,d0,l0,l40]
       rw [hR (by omega),hf]
       exact Zb6 _ _
      | true =>
       simp only [go_sem,simprocAttr,h2,h3,h4,h10,h11,h12,hp,q21,q12,eq_self,d1,d2,d0,l0,l40]
       refine Za hck ?_
       simp only [go_sem,simprocAttr,h2,h3,h4,h10,h11,h12,hp,q21,q12,eq_self,d1,d2,d0,l0,l40]
       have hf : E = 3 := by simp [hE,q21,q12,eq_self,d1,d2,d0,l0,l40]
       rw [hR (by omega),hf]
       exact Zb6 _ _
     ·cases m with
      | false =>
       simp only [go_sem,simprocAttr,h2,h3,h4,h10,h11,h12,hp,q21,q12,eq_self,d1,d2,d0,l0,l40]
       refine Za hck ?_
       simp only [go_sem,simprocAttr,h2,h3,h4,h10,h11,h12,hp,q21,q12,eq_self,d1,d2,d0,l0,l40]
       have hf : E = 0 := by simp [hE,q21,q12,eq_self,d1,d2,d0,l0,l40]
       subst hp
       refine hok hf _ ⟨?_,?_,?_,?_,?_,?_,?_,?_,rfl⟩
       all_goals simp only [go_sem,simprocAttr,h0,h1,h2,h3,h4,h10,h11,h12]
      | true =>
       simp only [go_sem,simprocAttr,h2,h3,h4,h10,h11,h12,hp,q21,q12,eq_self,d1,d2,d0,l0,l40]
       refine Za hck ?_
       simp only [go_sem,simprocAttr,h2,h3,h4,h10,h11,h12,hp,q21,q12,eq_self,d1,d2,d0,l0,l40]
       have hf : E = 3 := by simp [hE,q21,q12,eq_self,d1,d2,d0,l0,l40]
       rw [hR (by omega),hf]
       exact Zb6 _ _
 ·by_cases k2 : kind = 2
  ·subst k2
   by_cases d1 : dev < 0
   ·have d0 : ¬ dev = 0 := by omega
    simp only [go_sem,simprocAttr,h2,h3,h4,h10,h11,h12,hp,q21,q12,k1,d1,d0]
    have hf : E = 1 := by simp [hE,q21,q12,k1,d1,d0]
    rw [hR (by omega),hf]
    exact Zb6 _ _
   by_cases d2 : 8 ≤ dev
   ·have d0 : ¬ dev = 0 := by omega
    simp only [go_sem,simprocAttr,h2,h3,h4,h10,h11,h12,hp,q21,q12,k1,d1,d2,d0]
    have hf : E = 1 := by simp [hE,q21,q12,k1,d1,d2,d0]
    rw [hR (by omega),hf]
    exact Zb6 _ _
   cases ck with
   | false =>
    simp only [go_sem,simprocAttr,h2,h3,h4,h10,h11,h12,hp,q21,q12,k1,d1,d2]
    refine Za hck ?_
    simp only [go_sem,simprocAttr,h2,h3,h4,h10,h11,h12,hp,q21,q12,k1,d1,d2]
    have hf : E = 1 := by simp [hE,q21,q12,k1,d1,d2]
    rw [hR (by omega),hf]
    exact Zb6 _ _
   | true =>
    by_cases d0 : dev = 0
    ·by_cases l0 : N = 0
     ·simp only [go_sem,simprocAttr,h2,h3,h4,h10,h11,h12,hp,q21,q12,k1,d1,d2,d0,l0]
      refine Za hck ?_
      simp only [go_sem,simprocAttr,h2,h3,h4,h10,h11,h12,hp,q21,q12,k1,d1,d2,d0,l0]
      have hf : E = 1 := by simp [hE,q21,q12,k1,d1,d2,d0,l0]
      rw [hR (by omega),hf]
      exact Zb6 _ _
     ·simp only [go_sem,simprocAttr,h2,h3,h4,h10,h11,h12,hp,q21,q12,k1,d1,d2,d0,l0]
      refine Za hck ?_
      simp only [go_sem,simprocAttr,h2,h3,h4,h10,h11,h12,hp,q21,q12,k1,d1,d2,d0,l0]
      have hf : E = 1 := by simp [hE,q21,q12,k1,d1,d2,d0,l0]
      rw [hR (by omega),hf]
      exact Zb6 _ _
    ·by_cases l0 : N = 0
     ·simp only [go_sem,simprocAttr,h2,h3,h4,h10,h11,h12,hp,q21,q12,k1,d1,d2,d0,l0]
      refine Za hck ?_
      simp only [go_sem,simprocAttr,h2,h3,h4,h10,h11,h12,hp,q21,q12,k1,d1,d2,d0,l0]
      have hf : E = 1 := by simp [hE,q21,q12,k1,d1,d2,d0,l0]
      rw [hR (by omega),hf]
      exact Zb6 _ _
     ·by_cases l40 : 40 ≤ N
      ·cases m with
       | false =>
        simp only [go_sem,simprocAttr,h2,h3,h4,h10,h11,h12,hp,q21,q12,k1,d1,d2,d0,l0,l40]
        refine Za hck ?_
        simp only [go_sem,simprocAttr,h2,h3,h4,h10,h11,h12,hp,q21,q12,k1,d1,d2,d0,l0,l40]
        have hf : E = 2 := by simp [hE,q21,q12,k1,d1,d2,d0,l0,l40]
        rw [hR (by omega),hf]
        exact Zb6 _ _
       | true =>
        simp only [go_sem,simprocAttr,h2,h3,h4,h10,h11,h12,hp,q21,q12,k1,d1,d2,d0,l0,l40]
        refine Za hck ?_
        simp only [go_sem,simprocAttr,h2,h3,h4,h10,h11,h12,hp,q21,q12,k1,d1,d2,d0,l0,l40]
        have hf : E = 12 := by simp [hE,q21,q12,k1,d1,d2,d0,l0,l40]
        rw [hR (by omega),hf]
        exact Zb6 _ _
      ·cases m with
       | false =>
        simp only [go_sem,simprocAttr,h2,h3,h4,h10,h11,h12,hp,q21,q12,k1,d1,d2,d0,l0,l40]
        refine Za hck ?_
        simp only [go_sem,simprocAttr,h2,h3,h4,h10,h11,h12,hp,q21,q12,k1,d1,d2,d0,l0,l40]
        have hf : E = 2 := by simp [hE,q21,q12,k1,d1,d2,d0,l0,l40]
        rw [hR (by omega),hf]
        exact Zb6 _ _
       | true =>
        simp only [go_sem,simprocAttr,h2,h3,h4,h10,h11,h12,hp,q21,q12,k1,d1,d2,d0,l0,l40]
        refine Za hck ?_
        simp only [go_sem,simprocAttr,h2,h3,h4,h10,h11,h12,hp,q21,q12,k1,d1,d2,d0,l0,l40]
        have hf : E = 0 := by simp [hE,q21,q12,k1,d1,d2,d0,l0,l40]
        subst hp
        refine hok hf _ ⟨?_,?_,?_,?_,?_,?_,?_,?_,rfl⟩
        all_goals simp only [go_sem,simprocAttr,h0,h1,h2,h3,h4,h10,h11,h12]
  ·simp only [go_sem,simprocAttr,h2,h3,h4,h10,h11,h12,hp,q21,q12,k1,k2]
   have hf : E = 1 := by simp [hE,q21,q12,k1,k2]
   rw [hR (by omega),hf]
   exact Zb6 _ _
theorem Pure.wk_row {P : Program} {f sz : Nat} {more : List AVal} {rows rows' : List (List Cell)} {v : AVal} (h : Pure P f (.c (.lst sz rows') :: more) v) (k : All2 (All2 WkC) rows rows') : Pure P f (.c (.lst sz rows) :: more) v := fun H => (h H).wk_row k
theorem Zwv : ∀ l : List Wrp,Zgr (l.map Wrp.cells) = true
 | [] => rfl
 | w :: l => by simp only [List.map_cons,Zgr,Zwv l,Bool.and_true]; rfl
abbrev boxM : Blk := { sz := 7,rows := [Zbgw],own := true,live := true }
abbrev rowR (n : Int) (pv : ByteArray) (kind dev : Int) (y : Cell) (tag : ByteArray) : List Cell := [.int .i64 n,.str pv,.int .i64 kind,.int .i64 dev,y,.str tag]
abbrev boxR (n : Int) (pv : ByteArray) (kind dev : Int) (y : Cell) (tag : ByteArray) : Blk := { sz := 6,rows := [rowR n pv kind dev y tag],own := true,live := true }
theorem Zbak {secret master : ByteArray} {log : List Rec} {kind dev : Int} (hz : Zb4 log kind dev = 0) {pre rest : List Int} (hp : Zej = pre ++ rest) (q : Int → Bool) :
  Zcs { Zbl log kind dev with wraps := (pre.filter q).map (Zd5 secret master (Zbl log kind dev)) } = Zcs (Zbl log kind dev) := by
 have hb := Zrk hz
 have hs : pre.Pairwise (· < ·) := by
  have h : Zej.Pairwise (· < ·) := by decide
  rw [hp,List.pairwise_append] at h
  exact h.1
 have h8 : ∀ m ∈ pre,0 ≤ m ∧ m < 8 := fun m h => Zw2.1 (by rw [hp]; simp [h])
 refine Z0x hb (Zxb hb rfl rfl rfl rfl (.inr rfl) ?_) rfl rfl rfl rfl
 exact Zth _ (fun _ => rfl) (fun m => by rw [Znr]; omega) _ none (hs.filter q) (fun m hm => h8 m (List.mem_filter.1 hm).1) (fun q hq => by cases hq)
theorem Zvh {x : List Cell} (hx : Zb x = true) : ∀ rows : List (List Cell),closedR rows = true → closedR (rows ++ [x]) = true
 | [],_ => by simp [closedR,hx]
 | y :: rows,h => by
  simp only [List.cons_append,closedR,Bool.and_eq_true] at h ⊢
  exact ⟨h.1,Zvh hx rows h.2⟩
set_option maxHeartbeats 4000000 in
theorem Z5l (secret master : ByteArray) (log : List Rec) (kind dev : Int) (hs : secret.size ≤ 1000000) (hm : master.size ≤ 1000000) (h9 : log.length ≤ 100000) (T : Nat → Option AFun) :
  Run (Zt Tryz.prog T) ⟨Zm3.res,fun u E => MadeV (Zco secret master log kind dev).cells (Zb4 log kind dev) u E⟩ [.code Zm3.body] (Zcz [sC secret,sC master,.c (Z7 log),iC kind,iC dev]) [] := by
 have hin := Zln log log.length dev
 unfold Zm3
 have hml : ((log.map Rec.cells).length : Int) = (log.length : Int) := by simp
 simp only [Z7] at hin ⊢
 refine Zft (P := fun e H => e 0 = sC secret ∧ e 1 = sC master ∧ e 2 = .c (.lst 6 (log.map Rec.cells)) ∧ e 3 = iC kind ∧ e 4 = iC dev ∧ e 10 = .c (.ptr 0 0 0) ∧ H = [boxM]) (fun K hK => ?_) fun e H h => ?_
 ·simp only [go_sem,simprocAttr]
  refine hK _ _ ⟨?_,?_,?_,?_,?_,?_,rfl⟩
  all_goals simp only [go_sem,simprocAttr]
 obtain ⟨h0,h1,h2,h3,h4,h10,rfl⟩ := h
 refine Zft (P := fun e H => e 0 = sC secret ∧ e 1 = sC master ∧ e 2 = .c (.lst 6 (log.map Rec.cells)) ∧ e 3 = iC kind ∧ e 4 = iC dev ∧ e 10 = .c (.ptr 0 0 0) ∧ e 11 = iC log.length ∧ H = [boxM]) (fun K hK => ?_) fun e' H h => ?_
 ·simp only [go_sem,simprocAttr,h2,hml]
  refine hK _ _ ⟨?_,?_,?_,?_,?_,?_,?_,rfl⟩
  all_goals simp only [go_sem,simprocAttr,h0,h1,h2,h3,h4,h10]
 clear h0 h1 h2 h3 h4 h10
 obtain ⟨h0,h1,h2,h3,h4,h10,h11,rfl⟩ := h
 refine Zft (P := Z8u secret master (log.map Rec.cells) kind dev log.length (memL log log.length dev)) (fun K hK => ?_) fun e2 H h => ?_
 ·simp only [go_sem,simprocAttr,h2,h4,h11]
  refine Za hin ?_
  simp only [go_sem,simprocAttr]
  refine hK _ _ ⟨?_,?_,?_,?_,?_,?_,?_,?_,rfl⟩
  all_goals simp only [go_sem,simprocAttr,h0,h1,h2,h3,h4,h10,h11]
 clear h0 h1 h2 h3 h4 h10 h11 e e'
 rw [Zus]
 refine Zy7 secret master log kind dev T _ _ e2 H h rfl fun hz e h' => ?_
 have hH := h.2.2.2.2.2.2.2.2
 clear h
 obtain ⟨h0,h1,h2,h3,h4,h10,h11,h12,_⟩ := h'
 subst hH
 clear e2 h12
 have hmr : Zco secret master log kind dev = Zbx secret master log kind dev := by unfold Zco; rw [if_pos hz]
 rw [hmr,hz]
 obtain ⟨z1,z2,z3,z4,z5,z6,z7,z8⟩ := Zh4 hz
 have hw1 : IntKind.wrap .i64 ((log.length : Int) + 1) = (log.length : Int) + 1 := Zn (by omega)
 have hw2 : IntKind.wrap .i64 ((log.length : Int) - 1) = (log.length : Int) - 1 := Zn (by omega)
 refine Zft (P := fun e H => e 0 = sC secret ∧ e 1 = sC master ∧ e 2 = .c (.lst 6 (log.map Rec.cells)) ∧ e 10 = .c (.ptr 0 0 0) ∧ e 11 = iC log.length ∧ e 13 = .c (.ptr 1 0 0) ∧ H = [boxM,boxR ((log.length : Int) + 1) ⟨#[]⟩ kind dev .nilS ⟨#[]⟩]) (fun K hK => ?_) fun e' H h => ?_
 ·simp only [go_sem,simprocAttr,h3,h4,h11,hw1]
  refine hK _ _ ⟨?_,?_,?_,?_,?_,?_,rfl⟩
  all_goals simp only [go_sem,simprocAttr,h0,h1,h2,h10,h11]
 clear h0 h1 h2 h3 h4 h10 h11 e
 obtain ⟨h0,h1,h2,h10,h11,h13,rfl⟩ := h
 refine Zft (P := fun e H => e 0 = sC secret ∧ e 1 = sC master ∧ e 2 = .c (.lst 6 (log.map Rec.cells)) ∧ e 10 = .c (.ptr 0 0 0) ∧ e 11 = iC log.length ∧ e 13 = .c (.ptr 1 0 0) ∧ H = [boxM,boxR ((log.length : Int) + 1) (Zbe log) kind dev .nilS ⟨#[]⟩]) (fun K hK => ?_) fun e H h => ?_
 ·by_cases hn : log = []
  ·have hpos : ¬ ((0 : Int) < (log.length : Int)) := by rw [hn]; simp
   have hp0 : Zbe log = ⟨#[]⟩ := by rw [hn]; rfl
   rw [hp0] at hK
   simp only [go_sem,simprocAttr,h11,hpos]
   refine hK _ _ ⟨?_,?_,?_,?_,?_,?_,rfl⟩
   all_goals simp only [go_sem,simprocAttr,h0,h1,h2,h10,h11,h13]
  ·obtain ⟨l,hl1,hl2⟩ := Z3j hn
   have hpos : (0 : Int) < (log.length : Int) := by have := List.length_pos_iff.2 hn; omega
   have hti : ((log.length : Int) - 1).toNat = log.length - 1 := by omega
   have hge : (0 : Int) ≤ (log.length : Int) - 1 := by omega
   have hhash := Zwi l
   rw [hl2] at hhash
   have hlen6 : l.cells.length = 6 := rfl
   have htk6 : l.cells.take 6 = l.cells := rfl
   have hix : ∀ H : Heap,vIx 6 (.c (.lst 6 (log.map Rec.cells))) (iC ((log.length : Int) - 1)) H = some (.c (.fp l.cells 0),H) := fun H => by
    simp only [vIx]
    rw [if_pos ⟨trivial,hge⟩,hti,hl1]
   simp only [go_sem,simprocAttr,h2,h11,hpos,hw2,hix,hlen6,htk6]
   refine Za hhash ?_
   simp only [go_sem,simprocAttr,h13]
   refine hK _ _ ⟨?_,?_,?_,?_,?_,?_,rfl⟩
   all_goals simp only [go_sem,simprocAttr,h0,h1,h2,h10,h11,h13]
 clear h0 h1 h2 h10 h11 h13 e'
 obtain ⟨h0,h1,h2,h10,h11,h13,rfl⟩ := h
 have hcb : Zb (rowR ((log.length : Int) + 1) (Zbe log) kind dev .nilS ⟨#[]⟩) = true := rfl
 have hinB := fun d : Int => Zln (log ++ [Zbl log kind dev]) ((log.length : Int) + 1) d
 have hbc : (Zbl log kind dev).cells = [.int .i64 ((log.length : Int) + 1),.str (Zbe log),.int .i64 kind,.int .i64 dev,.lst 2 [],.str ⟨#[]⟩] := rfl
 have hinB' : ∀ d : Int,Pr 18 [.c (.lst 6 (log.map Rec.cells ++ [rowR ((log.length : Int) + 1) (Zbe log) kind dev .nilS ⟨#[]⟩])),iC ((log.length : Int) + 1),iC d] (bC (memL (log ++ [Zbl log kind dev]) ((log.length : Int) + 1) d)) := fun d => by
  have := hinB d
  simp only [Z7] at this
  rw [← Z1g,hbc] at this
  exact this.wk_row (Zz3 (.cons (.same _) (.cons (.same _) (.cons (.same _) (.cons (.same _) (.cons (.nilS _) (.cons (.same _) .nil)))))) _)
 have hrow2 : closedR (log.map Rec.cells ++ [rowR ((log.length : Int) + 1) (Zbe log) kind dev .nilS ⟨#[]⟩]) = true := Zvh hcb _ (Zb7 log)
 have hhead := fun pre rest (hp : Zej = pre ++ rest) => Zbak (secret := secret) (master := master) hz hp (memL (log ++ [Zbl log kind dev]) ((log.length : Int) + 1))
 have hhd := fun ws : List Wrp => Z6i { Zbl log kind dev with wraps := ws }
 have hhs := Zrd (Zbl log kind dev)
 have hep := Zj3 secret (log.length + 1) hs (by omega)
 have hen : ((log.length + 1 : Nat) : Int) = (log.length : Int) + 1 := by omega
 rw [hen] at hep
 have hno := Z4g ((log.length : Int) + 1)
 have hown := fun k : Nat => fun hk : k < 8 => Zru master k hm (by omega)
 have hwrp := fun k : Nat => Z6t (ownK master k) (by rw [Zon]; omega)
 have hseal := fun k : Nat => Z9r (Zde (ownK master k)) (Zc7 ((log.length : Int) + 1)) (Zcs (Zbl log kind dev)) (Zcb secret ((log.length : Int) + 1)) hhs
 have htag := Z8m (Zcb secret log.length) (Zdl secret master log kind dev) (by rw [Zij]; omega)
 have hepl := Zj3 secret log.length hs (by omega)
 have hnc := Zxl secret master log kind dev
 have hnc0 := Zvn secret master log kind dev
 have hms : Zca (log ++ [Zbl log kind dev]) ((log.length : Int) + 1) = Zej.filter (memL (log ++ [Zbl log kind dev]) ((log.length : Int) + 1)) := rfl
 rw [Zly,hms] at htag hnc0
 rw [hms] at hnc
 have hwf : ∀ m,Zd5 secret master (Zbl log kind dev) m = ⟨m,Zc4 (Zde (ownK master m)) (Zc7 ((log.length : Int) + 1)) (Zcs (Zbl log kind dev)) (Zcb secret ((log.length : Int) + 1))⟩ := fun m => rfl
 have hhd' : ∀ ws : List Wrp,Pr 75 [.agg (rowR ((log.length : Int) + 1) (Zbe log) kind dev (.lst 2 (ws.map Wrp.cells)) ⟨#[]⟩)] (sC (Zcs { Zbl log kind dev with wraps := ws })) := hhd
 clear hhd hinB hms
 have hhd2 : ∀ pre rest,Zej = pre ++ rest → Pr 75 [.agg (rowR ((log.length : Int) + 1) (Zbe log) kind dev (.lst 2 (((pre.filter (memL (log ++ [Zbl log kind dev]) ((log.length : Int) + 1))).map (Zd5 secret master (Zbl log kind dev))).map Wrp.cells)) ⟨#[]⟩)] (sC (Zcs (Zbl log kind dev))) := fun pre rest hp => by
  have := hhd' ((pre.filter (memL (log ++ [Zbl log kind dev]) ((log.length : Int) + 1))).map (Zd5 secret master (Zbl log kind dev)))
  rw [hhead pre rest hp] at this
  exact this
 clear hhd' hhead
 generalize Zcs (Zbl log kind dev) = hd at hhd2 hhs hseal hwf
 generalize tagR (Zcb secret log.length) (Zdl secret master log kind dev) = TG at htag hnc
 generalize Zd5 secret master (Zbl log kind dev) = wf at htag hnc hnc0 hwf hhd2
 generalize memL (log ++ [Zbl log kind dev]) ((log.length : Int) + 1) = mq at htag hnc hnc0 hhd2 hinB'
 generalize Zbe log = pv at *
 generalize Zcb secret ((log.length : Int) + 1) = ek at hep hseal hwf
 generalize Zc7 ((log.length : Int) + 1) = nn at hno hseal hwf
 generalize Zcb secret log.length = el at htag hepl
 have hclw : ∀ l : List Wrp,closedR (l.map Wrp.cells) = true := Zj6
 have hlt : ∀ H : Heap,mkF H (vLit 6 1 (some [rowR ((log.length : Int) + 1) pv kind dev .nilS ⟨#[]⟩]) H) = some (.c (.lst 6 [rowR ((log.length : Int) + 1) pv kind dev .nilS ⟨#[]⟩])) := fun H => Zhr rfl
 have hap : ∀ H : Heap,Zes 6 80 (.c (.zer 6)) (.c (.lst 6 (log.map Rec.cells))) H = some (Zd3 6 (log.map Rec.cells) H,Zel 6 (log.map Rec.cells) H) := fun H => Zbeq (by simp; omega)
 have loop : ∀ (rest pre : List Int) (y : Cell) (e : Env) (H : Heap),Zej = pre ++ rest → e 0 = sC secret → e 1 = sC master → e 10 = .c (.ptr 0 0 0) → e 11 = iC log.length → e 13 = .c (.ptr 1 0 0) → e 14 = .c (.lst 6 (log.map Rec.cells ++ [rowR ((log.length : Int) + 1) pv kind dev .nilS ⟨#[]⟩])) → e 15 = iC pre.length →
   H[0]? = some boxM → H[1]? = some (boxR ((log.length : Int) + 1) pv kind dev y ⟨#[]⟩) → Acc 2 (((pre.filter mq).map wf).map Wrp.cells) (.c y) H →
   Run (Zt Tryz.prog T) ⟨[.cell 10 true 7],fun u E => MadeV (Zbx secret master log kind dev).cells 0 u E⟩ [.loop Zk0,.blk 1,.code Zpk] e H := by
  intro rest
  induction rest with
  | nil =>
   intro pre y e H hp h0 h1 h10 h11 h13 h14 h15 b0 b1 ha
   have hpl : pre.length = 8 := by have := congrArg List.length hp; simpa [Zej] using this.symm
   have hc : ¬ ((pre.length : Int) < 8) := by omega
   rw [List.append_nil] at hp
   rw [← hp] at ha
   have n0 : NB (.c y) 0 := ha.nb_sz b0 (by show (7 : Nat) ≠ 2; decide)
   have n1 : NB (.c y) 1 := ha.nb_sz b1 (by show (6 : Nat) ≠ 2; decide)
   refine Zi ?_
   conv => enter [3,1]; unfold Zk0
   simp only [go_sem,simprocAttr,h15,hc]
   unfold Zpk
   have hpw : ∀ l : List Wrp,Zgr (l.map Wrp.cells) = true := Zwv
   by_cases hl0 : log.length = 0
   ·have c1 : ¬ ((0 : Int) < (log.length : Int)) := by omega
    rw [hnc0 hl0]
    have e1 := ha.set_nb (b := 0) (B := { sz := 7,rows := [[.int .i64 ((log.length : Int) + 1),.str pv,.int .i64 kind,.int .i64 dev,y,.str ⟨#[]⟩,.int .i64 0]],own := true,live := true }) n0
    simp only [go_sem,simprocAttr,h10,h11,h13,Zv b1,c1,Zv b0,Zdr b0,Ze0 b0]
    simp only [go_sem,simprocAttr,h10,Zv (Zu b0)]
    exact ⟨_,_,_,_,_,y,_,rfl,rfl,hpw _,rfl,e1⟩
   ·have c1 : ((0 : Int) < (log.length : Int)) := by omega
    rw [hnc hl0]
    obtain ⟨x,hx1,hx2,hx3,hx4⟩ := Zna ha (hclw _) ((log.length : Int) + 1) kind dev pv ⟨#[]⟩
    have htg : Pr 35 [sC el,.agg [.int .i64 ((log.length : Int) + 1),.str pv,.int .i64 kind,.int .i64 dev,x,.str ⟨#[]⟩]] (sC TG) := htag.wk (.cons (.same _) (.cons hx4 .nil))
    simp only [go_sem,simprocAttr,h0,h11,c1]
    refine Za hepl ?_
    simp only [go_sem,simprocAttr,h13,Zv b1]
    refine Zfp htg (by simp only [Zd,List.map_nil,List.append_nil,List.cons_append,List.nil_append,hx3]; simp [Zf,Ze,Zk,Zg,Zh,Zd,Zc,Zb]) rfl ?_
    obtain ⟨s1,s0⟩ := Z7u b0 b1 (boxR ((log.length : Int) + 1) pv kind dev y TG)
    have e1 := (ha.set_nb (b := 1) (B := boxR ((log.length : Int) + 1) pv kind dev y TG) n1).set_nb (b := 0) (B := { sz := 7,rows := [[.int .i64 ((log.length : Int) + 1),.str pv,.int .i64 kind,.int .i64 dev,y,.str TG,.int .i64 0]],own := true,live := true }) n0
    simp only [go_sem,simprocAttr,h10,h13,Zv b1,Zdr b1,Ze0 b1]
    simp only [go_sem,simprocAttr,h10,h13,Zv s1,Zv s0,Zdr s0,Ze0 s0,Zv (Zu s0)]
    exact ⟨_,_,_,_,_,y,_,rfl,rfl,hpw _,rfl,e1⟩
  | cons d rest ih =>
   intro pre y e H hp h0 h1 h10 h11 h13 h14 h15 b0 b1 ha
   have hpl : pre.length < 8 := by have := congrArg List.length hp; simp [Zej] at this; omega
   have hc : ((pre.length : Int) < 8) := by omega
   have hd' : d = (pre.length : Int) := by
    have h1 : Zej[pre.length]? = some d := by rw [hp]; simp
    rw [Zzx _ hpl] at h1
    injection h1 with h1
    exact h1.symm
   have hn : IntKind.wrap .i64 ((pre.length : Int) + 1) = ((pre.length + 1 : Nat) : Int) := by rw [Zn (by omega)]; omega
   have hf := List.filter_append (p := mq) pre [d]
   have hind := hinB' d
   rw [hd'] at hind
   refine Zi ?_
   conv => enter [3,1]; unfold Zk0
   simp only [go_sem,simprocAttr,h11,h14,h15,hc,hw1]
   refine Za hind ?_
   cases hmq : mq (pre.length : Int) with
   | false =>
    simp only [go_sem,simprocAttr,h15,hn]
    refine ih (pre ++ [d]) y _ _ (by rw [hp]; simp) ?_ ?_ ?_ ?_ ?_ ?_ ?_ b0 b1 ?_
    ·simp only [go_sem,simprocAttr,h0]
    ·simp only [go_sem,simprocAttr,h1]
    ·simp only [go_sem,simprocAttr,h10]
    ·simp only [go_sem,simprocAttr,h11]
    ·simp only [go_sem,simprocAttr,h13]
    ·simp only [go_sem,simprocAttr,h14]
    ·simp only [go_sem,simprocAttr,hn]; simp
    ·rw [hf]
     have : [d].filter mq = [] := by rw [hd']; simp [hmq]
     rw [this,List.append_nil]
     exact ha
   | true =>
    have howk := hown pre.length hpl
    have hwk := hwrp pre.length
    have hsk := hseal pre.length
    have hwfk := hwf (pre.length : Int)
    have hhdp := hhd2 pre (d :: rest) hp
    generalize Zc4 (Zde (ownK master pre.length)) nn hd ek = bx at hsk hwfk
    generalize Zde (ownK master pre.length) = wk at hwk hsk
    generalize ownK master pre.length = ok at howk hwk
    have hlk : ∀ H : Heap,mkF H (vLit 2 1 (some [[.int .i64 (pre.length : Int),.str bx]]) H) = some (.c (.lst 2 [[.int .i64 (pre.length : Int),.str bx]])) := fun H => Zhr rfl
    obtain ⟨x,hx1,hx2,hx3,hx4⟩ := Zna ha (hclw _) ((log.length : Int) + 1) kind dev pv ⟨#[]⟩
    have hhx := hhdp.wk (.cons hx4 .nil)
    have hpl2 : (pre.filter mq).length ≤ 8 := Nat.le_trans (List.length_filter_le _ _) (by omega)
    simp only [go_sem,simprocAttr,h1,h13,h15,Zv b1]
    refine Za howk ?_
    simp only [go_sem,simprocAttr]
    refine Za hwk ?_
    simp only [go_sem,simprocAttr,h13,Zv b1]
    refine Za hno ?_
    simp only [go_sem,simprocAttr,h13,Zv b1]
    refine Zfp hhx (by simp only [Zd,List.map_nil,List.append_nil,List.cons_append,List.nil_append,hx3]) rfl ?_
    simp only [go_sem,simprocAttr,h0,h13,Zv b1]
    refine Za hep ?_
    simp only [go_sem,simprocAttr]
    refine Za hsk ?_
    simp only [go_sem,simprocAttr,hlk]
    have n0 : NB (.c y) 0 := ha.nb_sz b0 (by show (7 : Nat) ≠ 2; decide)
    have n1 : NB (.c y) 1 := ha.nb_sz b1 (by show (6 : Nat) ≠ 2; decide)
    refine Acc.app_keep ha (by simp; omega) fun v' H' ha' keep => ?_
    obtain ⟨b0',m0'⟩ := keep 0 _ n0 b0
    obtain ⟨b1',m1'⟩ := keep 1 _ n1 b1
    obtain ⟨b6,ext6,rfl,_,h6⟩ := ha'.slc (by simp)
    simp only [go_sem,simprocAttr,h13,Zv b1',Zdr b1',Ze0 b1',h15,hn]
    have hrw : (((pre.filter mq).map wf).map Wrp.cells) ++ [[.int .i64 (pre.length : Int),.str bx]] = (((pre ++ [d]).filter mq).map wf).map Wrp.cells := by
     have : [d].filter mq = [d] := by rw [hd']; simp [hmq]
     rw [hf,this,Z1c,hd',hwfk]
    refine ih (pre ++ [d]) _ _ _ (by rw [hp]; simp) ?_ ?_ ?_ ?_ ?_ ?_ ?_ (Zo b0' (by omega)) (Zu b1') ?_
    ·simp only [go_sem,simprocAttr,h0]
    ·simp only [go_sem,simprocAttr,h1]
    ·simp only [go_sem,simprocAttr,h10]
    ·simp only [go_sem,simprocAttr,h11]
    ·simp only [go_sem,simprocAttr,h13]
    ·simp only [go_sem,simprocAttr,h14]
    ·simp only [go_sem,simprocAttr,hn]; simp
    ·rw [← hrw]; exact ha'.set_nb m1'
 have a1 := Z0v 6 (log.map Rec.cells) [boxM,boxR ((log.length : Int) + 1) pv kind dev .nilS ⟨#[]⟩]
 have p1 := Zud 6 (log.map Rec.cells) [boxM,boxR ((log.length : Int) + 1) pv kind dev .nilS ⟨#[]⟩]
 have n0 : NB (Zd3 6 (log.map Rec.cells) [boxM,boxR ((log.length : Int) + 1) pv kind dev .nilS ⟨#[]⟩]) 0 := Zro _ _ (by simp)
 have n1 : NB (Zd3 6 (log.map Rec.cells) [boxM,boxR ((log.length : Int) + 1) pv kind dev .nilS ⟨#[]⟩]) 1 := Zro _ _ (by simp)
 have q0 : (Zel 6 (log.map Rec.cells) [boxM,boxR ((log.length : Int) + 1) pv kind dev .nilS ⟨#[]⟩])[0]? = some boxM := Zp1 p1 rfl
 have q1 : (Zel 6 (log.map Rec.cells) [boxM,boxR ((log.length : Int) + 1) pv kind dev .nilS ⟨#[]⟩])[1]? = some (boxR ((log.length : Int) + 1) pv kind dev .nilS ⟨#[]⟩) := Zp1 p1 rfl
 simp only [go_sem,simprocAttr,h2,hap]
 generalize Zd3 6 (log.map Rec.cells) [boxM,boxR ((log.length : Int) + 1) pv kind dev .nilS ⟨#[]⟩] = V1 at a1 n0 n1 ⊢
 generalize Zel 6 (log.map Rec.cells) [boxM,boxR ((log.length : Int) + 1) pv kind dev .nilS ⟨#[]⟩] = H1 at a1 q0 q1 ⊢
 simp only [go_sem,simprocAttr,h13,Zv q1,hlt]
 refine Acc.app_keep a1 (by simp; omega) fun V2 H2 a2 k2 => ?_
 obtain ⟨q0',m0⟩ := k2 0 _ n0 q0
 obtain ⟨q1',m1⟩ := k2 1 _ n1 q1
 simp only [go_sem,simprocAttr]
 refine Acc.fz_keep (sz := 6) (rows := log.map Rec.cells ++ [rowR ((log.length : Int) + 1) pv kind dev .nilS ⟨#[]⟩]) (by simp only [go_sem,simprocAttr]; exact a2) fun e' G k14 kc kp kb kl => ?_
 have g0 := kc 0 (sC secret) (by simp only [go_sem,simprocAttr,h0]) rfl (by omega)
 have g1 := kc 1 (sC master) (by simp only [go_sem,simprocAttr,h1]) rfl (by omega)
 have g11 := kc 11 (iC log.length) (by simp only [go_sem,simprocAttr,h11]) rfl (by omega)
 have g10 := kp 10 0 0 0 (by simp only [go_sem,simprocAttr,h10]) (by simp only [go_sem,simprocAttr]; exact m0)
 have g13 := kp 13 1 0 0 (by simp only [go_sem,simprocAttr,h13]) (by simp only [go_sem,simprocAttr]; exact m1)
 have b0 := kb 0 _ q0' (by simp only [go_sem,simprocAttr]; exact m0)
 have b1 := kb 1 _ q1' (by simp only [go_sem,simprocAttr]; exact m1)
 simp only [go_sem,simprocAttr]
 refine loop Zej [] .nilS _ _ rfl ?_ ?_ ?_ ?_ ?_ ?_ ?_ b0 b1 .nil
 all_goals simp only [go_sem,simprocAttr,List.length_nil,Int.natCast_zero,g0,g1,g10,g11,g13,k14]
theorem Z29 (secret master : ByteArray) (log : List Rec) (kind dev : Int) (hs : secret.size ≤ 1000000) (hm : master.size ≤ 1000000) (h9 : log.length ≤ 100000) :
  ∃ v E,CallSound Tryz.prog 30 [sC secret,sC master,.c (Z7 log),iC kind,iC dev] [] v E ∧ MadeV (Zco secret master log kind dev).cells (Zb4 log kind dev) v E :=
 Zko mixed Z6n (Z5l secret master log kind dev hs hm h9)
theorem MadeV.new {cs : List Cell} {n : Int} {u : AVal} {E : Heap} (h : MadeV cs n u E) : NewA E u (.agg (cs ++ [.int .i64 n])) := by
 obtain ⟨a,b,c,d,t,y,rows,rfl,hp,hr,rfl,hacc⟩ := h
 simp only [Zez,Bool.and_eq_true,Bool.and_true] at hp
 obtain ⟨h1,h2,h3,h4,h5⟩ := hp
 exact .agg (.cons (.inl ⟨h1,rfl⟩) (.cons (.inl ⟨h2,rfl⟩) (.cons (.inl ⟨h3,rfl⟩) (.cons (.inl ⟨h4,rfl⟩) (.cons (.inr ⟨2,rows,rfl,hacc,hr⟩) (.cons (.inl ⟨h5,rfl⟩) (.cons (.inl ⟨rfl,rfl⟩) .nil)))))))
theorem Zv8 (secret master : ByteArray) (log : List Rec) (kind dev : Int) (hs : secret.size ≤ 1000000) (hm : master.size ≤ 1000000) (h9 : log.length ≤ 100000) {H : Heap} {args : List AVal} (ha : Zd H args = some [sC secret,sC master,.c (Z7 log),iC kind,iC dev]) :
  CallSound Tryz.prog 30 args H (.agg (Zlg (Zco secret master log kind dev) (Zb4 log kind dev))) H := by
 obtain ⟨v,E,h1,h2⟩ := Z29 secret master log kind dev hs hm h9
 exact h1.freshV h2.new ha
theorem Z6f (secret master : ByteArray) (log : List Rec) (kind dev : Int) (hs : secret.size ≤ 1000000) (hm : master.size ≤ 1000000) (h9 : log.length ≤ 100000) :
  Pr 30 [sC secret,sC master,.c (Z7 log),iC kind,iC dev] (.agg (Zlg (Zco secret master log kind dev) (Zb4 log kind dev))) := fun H =>
 Zv8 secret master log kind dev hs hm h9 (by simp [Zd,Zf,Ze,Zk,Zc,Z7,Zb7])
end Go.Proofs.YticmfblfghdkbaaGreatDoor.Eng
