/- Parts of this claim's proof, joined. No statement of the seat is proved here. -/
import Derived.Test.YticmfblfghdkbaaGreatDoorY27
set_option linter.unusedVariables false
set_option linter.unusedSimpArgs false
namespace Go.Proofs.YticmfblfghdkbaaGreatDoor.Eng
open Go
theorem Zzg {sz bytes : Nat} {rows : List (List Cell)} {H : Heap} (hb : rows.length * bytes ≤ 140737488355328) : Zc8 sz bytes (.c (.zer sz)) (.c (.lst sz rows)) H = some (Zy sz rows H,Z8 sz rows H) := by
 unfold Zy Z8
 by_cases h0 : rows = []
 ·subst h0; simp [Zc8,Zc7,Heap.rowsOf,Z5]
 ·rw [if_neg h0,if_neg h0]
  simp only [Zc8,Zc7,Heap.rowsOf,Z5,beq_self_eq_true,if_true]
  rw [if_neg (by intro e; exact h0 (List.eq_nil_of_length_eq_zero e)),if_pos (by omega)]
theorem Z0f {H : Heap} {b sz : Nat} {rows ext : List (List Cell)} (h : H[b]? = some { sz := sz,rows := rows ++ ext,own := true,live := true }) (h0 : rows ≠ []) (hc : closedR rows = true) : Ze H (.slc b 0 rows.length sz false) = some (.lst sz rows) := by
 have hl : rows.length ≠ 0 := fun e => h0 (List.eq_nil_of_length_eq_zero e)
 simp [Ze,Zi,h,hc,hl]
abbrev box3 (a b : Cell) (n : Int) : Blk := { sz := 3,rows := [[a,b,.int .i64 n]],own := true,live := true }
theorem Zf5 {H : Heap} {B0 B1 : Blk} (h0 : H[0]? = some B0) (h1 : H[1]? = some B1) (C : Blk) : (H.set 1 C)[1]? = some C ∧ (H.set 1 C)[0]? = some B0 := ⟨Zv h1,Zq h0 (by omega)⟩
set_option maxHeartbeats 4000000 in
theorem Z9i (log : List Rec) (keys : List EKey) (own : ByteArray) (id : Int) (r : Rec) (hk : ∀ k ∈ keys,k.key.size ≤ 1000000) (h9 : log.length ≤ 100000) (hk9 : keys.length ≤ 100000) (ho : own.size ≤ 1000000)
  (hb : ∀ w ∈ r.wraps,w.box.size ≤ 4611686018427387904) :
  Pr 33 [.c (Zw log),.c (Zbj keys),sC own,iC id,.agg r.cells] (.agg [Zw (Zf7 log keys own id r),Zbj (Ze5 log keys own id r),.int .i64 (Zld log keys own id r)]) := by
 have hck := Zpk log
 have hrk := Zxn keys
 have hck2 := Zpk (log ++ [r])
 have hko := Z6y keys log.length
 have hun := Zt1 own r id ho hb
 have hin := Zqr (log ++ [r]) ((log.length : Int) + 1) id
 have hsame := fun x : Rec => Zjj x r
 have htag := fun (key : ByteArray) (h : key.size ≤ 1000000) => Ztq key r h
 have hcl := Rec.closed r
 have hkeys : ∀ key,Zh3 keys log.length = some key → key.size ≤ 1000000 := fun key h => by
  rw [Znw] at h
  cases hfk : keys.find? fun k => decide (k.epoch = (log.length : Int)) with
  | none => rw [hfk] at h; cases h
  | some k =>
   rw [hfk] at h
   injection h with h
   subst h
   exact hk k (List.mem_of_find?_eq_some hfk)
 have hrows := Z4 log
 have hrows2 := Z4 (log ++ [r])
 rw [← Zgh] at hrows2
 have hkrows := Zcm keys
 obtain ⟨RL,hRL⟩ : ∃ RL,RL = Zw (Zf7 log keys own id r) := ⟨_,rfl⟩
 obtain ⟨RK,hRK⟩ : ∃ RK,RK = Zbj (Ze5 log keys own id r) := ⟨_,rfl⟩
 obtain ⟨RE,hRE⟩ : ∃ RE,RE = Zld log keys own id r := ⟨_,rfl⟩
 rw [← hRL,← hRK,← hRE]
 unfold Zf7 at hRL
 unfold Ze5 at hRK
 rw [← hRE] at hRL hRK
 unfold Zld at hRE
 have hno : RE ≠ 0 → RL = Zw log ∧ RK = Zbj keys := fun h => by
  rw [if_neg h] at hRL
  rw [if_neg (fun h' => h h'.1)] at hRK
  exact ⟨hRL,hRK⟩
 refine Zl mixed Z9b (by simp [Zo,Zn,Zc,Zw,Z4,Zbj,Zcm,hcl]) fun hl T => ?_
 clear hl
 have hbx : ∀ H : Heap,mkF H (vBox (.agg r.cells) H) = some (.c (.fp r.cells 0)) := fun H => Zbs hcl
 have hlt : ∀ H : Heap,mkF H (vLit 6 1 (some [r.cells]) H) = some (.c (.lst 6 [r.cells])) := fun H => Ze4 hcl
 unfold Z1w
 have hl6 : r.cells.length = 6 := rfl
 have ht6 : r.cells.take 6 = r.cells := rfl
 have hr0 : r.cells[0]? = some (.int .i64 r.seq) := rfl
 have hr5 : r.cells[5]? = some (.str r.tag) := rfl
 have hml : ((log.map Rec.cells).length : Int) = (log.length : Int) := by simp
 have hwl : IntKind.wrap .i64 ((log.length : Int) + 1) = (log.length : Int) + 1 := Zr (by omega)
 have hmax : log.length ≤ maxLen := by unfold maxLen; omega
 simp only [Zw,Zbj] at hck hrk hck2 hko hin hno ⊢
 rw [← Zgh] at hck2 hin
 simp only [go_sem,simprocAttr,hbx]
 refine Za hck ?_
 cases hc1 : Zcx log with
 | false =>
  rw [hc1,if_pos (.inl rfl)] at hRE
  obtain ⟨e1,e2⟩ := hno (by omega)
  simp only [go_sem,simprocAttr]
  simp [Zf,Ze,Zi,Zg,Zh,Zd,Zc,Zb,hRE,e1,e2,hrows,hkrows]
 | true =>
 rw [hc1] at hRE
 simp only [go_sem,simprocAttr]
 refine Za hrk ?_
 cases hc2 : Zde keys with
 | false =>
  rw [hc2,if_pos (.inr rfl)] at hRE
  obtain ⟨e1,e2⟩ := hno (by omega)
  simp only [go_sem,simprocAttr]
  simp [Zf,Ze,Zi,Zg,Zh,Zd,Zc,Zb,hRE,e1,e2,hrows,hkrows]
 | true =>
 rw [hc2,if_neg (by simp)] at hRE
 have loop : ∀ (rest pre : List Rec) (e : Env),log = pre ++ rest → (log.find? fun x => decide (x.seq = r.seq)) = (rest.find? fun x => decide (x.seq = r.seq)) → e 0 = .c (.lst 6 (log.map Rec.cells)) → e 1 = .c (.lst 2 (keys.map EKey.cells)) → e 2 = sC own → e 3 = iC id → e 9 = .c (.fp r.cells 0) → e 10 = .c (.ptr 0 0 0) → e 11 = .c (.ptr 1 0 0) → e 12 = iC log.length → e 13 = iC pre.length →
   Run (Zu Tryz.prog T) ⟨[.cell 10 true 3],fun u E => Zf E u = some (.agg [RL,RK,.int .i64 RE])⟩ [.loop Zme,.blk 0,.code Zrb] e [box3 .nilS .nilS 0,box3 (.lst 6 (log.map Rec.cells)) (.lst 2 (keys.map EKey.cells)) 0] := by
  intro rest
  induction rest with
  | nil =>
   intro pre e hp hf h0 h1 h2 h3 h9' h10 h11 h12 h13
   have hc : ¬ ((pre.length : Int) < (log.length : Int)) := by rw [hp]; simp
   rw [hf] at hRE
   simp only [List.find?_nil] at hRE
   refine Zj ?_
   conv => enter [3,1]; unfold Zme
   simp only [go_sem,simprocAttr,h12,h13,hc]
   unfold Zrb
   by_cases c1 : (log.length : Int) + 1 < r.seq
   ·rw [if_pos c1] at hRE
    obtain ⟨e1,e2⟩ := hno (by omega)
    simp only [go_sem,simprocAttr,h9',h10,h11,h12,hr0,hwl,c1]
    simp [Zf,Ze,Zi,Zg,Zh,Zd,Zc,Zb,hRE,e1,e2,hrows,hkrows]
   rw [if_neg c1] at hRE
   have hap : ∀ H : Heap,Zc8 6 80 (.c (.zer 6)) (.c (.lst 6 (log.map Rec.cells))) H = some (Zy 6 (log.map Rec.cells) H,Z8 6 (log.map Rec.cells) H) := fun H => Zzg (by simp; omega)
   simp only [go_sem,simprocAttr,h0,h9',h12,hr0,hwl,c1,hap,hl6,ht6,hlt]
   have a1 := Zfi 6 (log.map Rec.cells) [box3 .nilS .nilS 0,box3 (.lst 6 (log.map Rec.cells)) (.lst 2 (keys.map EKey.cells)) 0]
   have p1 := Zef 6 (log.map Rec.cells) [box3 .nilS .nilS 0,box3 (.lst 6 (log.map Rec.cells)) (.lst 2 (keys.map EKey.cells)) 0]
   have n0 : NB (Zy 6 (log.map Rec.cells) [box3 .nilS .nilS 0,box3 (.lst 6 (log.map Rec.cells)) (.lst 2 (keys.map EKey.cells)) 0]) 0 := Zkg _ _ (by simp)
   have n1 : NB (Zy 6 (log.map Rec.cells) [box3 .nilS .nilS 0,box3 (.lst 6 (log.map Rec.cells)) (.lst 2 (keys.map EKey.cells)) 0]) 1 := Zkg _ _ (by simp)
   have q0 : (Z8 6 (log.map Rec.cells) [box3 .nilS .nilS 0,box3 (.lst 6 (log.map Rec.cells)) (.lst 2 (keys.map EKey.cells)) 0])[0]? = some (box3 .nilS .nilS 0) := Zdi p1 rfl
   have q1 : (Z8 6 (log.map Rec.cells) [box3 .nilS .nilS 0,box3 (.lst 6 (log.map Rec.cells)) (.lst 2 (keys.map EKey.cells)) 0])[1]? = some (box3 (.lst 6 (log.map Rec.cells)) (.lst 2 (keys.map EKey.cells)) 0) := Zdi p1 rfl
   generalize Zy 6 (log.map Rec.cells) [box3 .nilS .nilS 0,box3 (.lst 6 (log.map Rec.cells)) (.lst 2 (keys.map EKey.cells)) 0] = V1 at a1 n0 n1 ⊢
   generalize Z8 6 (log.map Rec.cells) [box3 .nilS .nilS 0,box3 (.lst 6 (log.map Rec.cells)) (.lst 2 (keys.map EKey.cells)) 0] = H1 at a1 q0 q1 ⊢
   refine Acc.app_keep a1 (by simp; omega) fun V2 H2 a2 k2 => ?_
   obtain ⟨q0',m0⟩ := k2 0 _ n0 q0
   obtain ⟨q1',m1⟩ := k2 1 _ n1 q1
   simp only [go_sem,simprocAttr]
   refine Acc.fz_keep (sz := 6) (rows := log.map Rec.cells ++ [r.cells]) (by simp only [go_sem,simprocAttr]; exact a2) fun e' G k14 kc kp kb kl => ?_
   have g1 := kc 1 (.c (.lst 2 (keys.map EKey.cells))) (by simp only [go_sem,simprocAttr,h1]) (by simpa [Zn,Zc] using hkrows) (by omega)
   have g2 := kc 2 (sC own) (by simp only [go_sem,simprocAttr,h2]) rfl (by omega)
   have g3 := kc 3 (iC id) (by simp only [go_sem,simprocAttr,h3]) rfl (by omega)
   have g9 := kc 9 (.c (.fp r.cells 0)) (by simp only [go_sem,simprocAttr,h9']) (by simpa [Zn,Zc] using hcl) (by omega)
   have g12 := kc 12 (iC log.length) (by simp only [go_sem,simprocAttr,h12]) rfl (by omega)
   have g10 := kp 10 0 0 0 (by simp only [go_sem,simprocAttr,h10]) (by simp only [go_sem,simprocAttr]; exact m0)
   have g11 := kp 11 1 0 0 (by simp only [go_sem,simprocAttr,h11]) (by simp only [go_sem,simprocAttr]; exact m1)
   have b0 := kb 0 _ q0' (by simp only [go_sem,simprocAttr]; exact m0)
   have b1 := kb 1 _ q1' (by simp only [go_sem,simprocAttr]; exact m1)
   clear kc kp kb kl
   simp only [go_sem,simprocAttr,k14]
   refine Za hck2 ?_
   cases hc3 : Zcx (log ++ [r]) with
   | false =>
    rw [hc3,if_pos rfl] at hRE
    obtain ⟨e1,e2⟩ := hno (by omega)
    obtain ⟨s1,s0⟩ := Zf5 b0 b1 (box3 (.lst 6 (log.map Rec.cells)) (.lst 2 (keys.map EKey.cells)) 11)
    simp only [go_sem,simprocAttr,g10,g11,Zp b1,Zbk b1,Zb4 b1]
    simp only [go_sem,simprocAttr,g10,g11,Zp s1,Zp s0,Zbk s0,Zb4 s0,Zp (Zv s0)]
    simp [Zf,Ze,Zi,Zg,Zh,Zd,Zc,Zb,hRE,e1,e2,hrows,hkrows]
   | true =>
   rw [hc3,if_neg (by simp)] at hRE
   simp only [go_sem,simprocAttr,g1,g12]
   refine Za hko ?_
   simp only [go_sem,simprocAttr,g2,g3,g9,hl6,ht6]
   refine Za hun ?_
   have hapk : ∀ H : Heap,Zc8 2 24 (.c (.zer 2)) (.c (.lst 2 (keys.map EKey.cells))) H = some (Zy 2 (keys.map EKey.cells) H,Z8 2 (keys.map EKey.cells) H) := fun H => Zzg (by simp; omega)
   simp only [go_sem,simprocAttr,k14,g3,g12,hwl]
   refine Za hin ?_
   have hG2 : 1 < G.length := (List.getElem?_eq_some_iff.1 b1).1
   generalize Zh3 keys log.length = ko at hRE hkeys ⊢
   generalize Zfz own r id = oo at hRE hRK ⊢
   generalize memL (log ++ [r]) ((log.length : Int) + 1) id = mm at hRE hRK ⊢
   obtain ⟨K,hK⟩ : ∃ K : Heap,K = G ++ [{ sz := 2,rows := [[.str (optS ko),.bool ko.isSome]],own := true,live := true }] ++ [{ sz := 2,rows := [[.str (optS oo),.bool oo.isSome]],own := true,live := true }] := ⟨_,rfl⟩
   have hpre : G <+: K := by rw [hK]; exact (List.prefix_append _ _).trans (List.prefix_append _ _)
   have c0 := Zdi hpre b0
   have c1' := Zdi hpre b1
   have ckk : K[G.length]? = some { sz := 2,rows := [[.str (optS ko),.bool ko.isSome]],own := true,live := true } := by rw [hK,List.getElem?_append_left (by simp)]; simp
   have cu : K[(G ++ [({ sz := 2,rows := [[.str (optS ko),.bool ko.isSome]],own := true,live := true } : Blk)]).length]? = some { sz := 2,rows := [[.str (optS oo),.bool oo.isSome]],own := true,live := true } := by rw [hK]; simp
   have hiu : 1 < (G ++ [({ sz := 2,rows := [[.str (optS ko),.bool ko.isSome]],own := true,live := true } : Blk)]).length := by simp; omega
   rw [← hK]
   generalize (G ++ [({ sz := 2,rows := [[.str (optS ko),.bool ko.isSome]],own := true,live := true } : Blk)]).length = iu at cu hiu ⊢
   generalize G.length = ik at ckk hG2 ⊢
   clear hK hpre b0 b1
   cases ko with
   | none =>
    simp only [Zjr,Bool.false_eq_true,if_false] at hRE
    cases mm with
    | false =>
     simp only [go_sem,simprocAttr,Zp ckk,Option.isSome]
     rw [if_neg (by simp)] at hRE
     rw [if_pos hRE] at hRL
     rw [if_neg (by simp)] at hRK
     obtain ⟨s1,s0⟩ := Zf5 c0 c1' (box3 (.lst 6 (log.map Rec.cells ++ [r.cells])) (.lst 2 (keys.map EKey.cells)) 0)
     simp only [go_sem,simprocAttr,k14,g10,g11,Zp c1',Zbk c1',Zb4 c1']
     simp only [go_sem,simprocAttr,g10,g11,Zp s1,Zp s0,Zbk s0,Zb4 s0,Zp (Zv s0)]
     simp [Zf,Ze,Zi,Zg,Zh,Zd,Zc,Zb,hRE,hRL,hRK,Zw,Zbj,hrows2,hkrows]
    | true =>
     cases oo with
     | none =>
      simp only [go_sem,simprocAttr,Zp ckk,Zp cu,Option.isSome]
      rw [if_pos ⟨rfl,rfl⟩] at hRE
      obtain ⟨e1,e2⟩ := hno (by omega)
      obtain ⟨s1,s0⟩ := Zf5 c0 c1' (box3 (.lst 6 (log.map Rec.cells)) (.lst 2 (keys.map EKey.cells)) 9)
      simp only [go_sem,simprocAttr,g10,g11,Zp c1',Zbk c1',Zb4 c1']
      simp only [go_sem,simprocAttr,g10,g11,Zp s1,Zp s0,Zbk s0,Zb4 s0,Zp (Zv s0)]
      simp [Zf,Ze,Zi,Zg,Zh,Zd,Zc,Zb,hRE,e1,e2,hrows,hkrows]
     | some ky =>
      simp only [go_sem,simprocAttr,Zp ckk,Zp cu,Option.isSome]
      rw [if_neg (by simp)] at hRE
      rw [if_pos hRE] at hRL
      rw [if_pos ⟨hRE,rfl⟩] at hRK
      simp only [Option.getD] at hRK
      obtain ⟨s1,s0⟩ := Zf5 c0 c1' (box3 (.lst 6 (log.map Rec.cells ++ [r.cells])) (.lst 2 (keys.map EKey.cells)) 0)
      have su : (K.set 1 (box3 (.lst 6 (log.map Rec.cells ++ [r.cells])) (.lst 2 (keys.map EKey.cells)) 0))[iu]? = some { sz := 2,rows := [[.str (optS (some ky)),.bool (some ky).isSome]],own := true,live := true } := Zq cu (by omega)
      have hlk : ∀ H : Heap,mkF H (vLit 2 1 (some [[.int .i64 ((log.length : Int) + 1),.str ky]]) H) = some (.c (.lst 2 [[.int .i64 ((log.length : Int) + 1),.str ky]])) := fun H => Ze4 rfl
      have hkc : closedR (keys.map EKey.cells ++ [[Cell.int .i64 ((log.length : Int) + 1),.str ky]]) = true := by
       have := Zcm (keys ++ [⟨(log.length : Int) + 1,ky⟩])
       simpa [EKey.cells] using this
      simp only [go_sem,simprocAttr,k14,g1,g10,g11,g12,hwl,Zp c1',Zbk c1',Zb4 c1',hapk]
      generalize K.set 1 (box3 (.lst 6 (log.map Rec.cells ++ [r.cells])) (.lst 2 (keys.map EKey.cells)) 0) = K2 at s0 s1 su ⊢
      have a3 := Zfi 2 (keys.map EKey.cells) K2
      have p3 := Zef 2 (keys.map EKey.cells) K2
      have n30 : NB (Zy 2 (keys.map EKey.cells) K2) 0 := Zhw s0
      have n31 : NB (Zy 2 (keys.map EKey.cells) K2) 1 := Zhw s1
      have su' := Zdi p3 su
      have s0' := Zdi p3 s0
      have s1' := Zdi p3 s1
      generalize Zy 2 (keys.map EKey.cells) K2 = V5 at a3 n30 n31 ⊢
      generalize Z8 2 (keys.map EKey.cells) K2 = K3 at a3 su' s0' s1' ⊢
      simp only [go_sem,simprocAttr,Zp su',optS,Option.getD,hlk]
      refine Acc.app_keep a3 (by simp; omega) fun V6 H6 a6 k6 => ?_
      obtain ⟨z0,m60⟩ := k6 0 _ n30 s0'
      obtain ⟨z1,m61⟩ := k6 1 _ n31 s1'
      obtain ⟨b6,ext6,v6,_,h6⟩ := a6.slc (by simp)
      subst v6
      have n60 : b6 ≠ 0 := fun h => m60 _ _ _ _ (by rw [h])
      have n61 : b6 ≠ 1 := fun h => m61 _ _ _ _ (by rw [h])
      simp only [go_sem,simprocAttr,g10,g11,Zp z1,Zbk z1,Zb4 z1]
      obtain ⟨t1,t0⟩ := Zf5 z0 z1 { sz := 3,rows := [[.lst 6 (log.map Rec.cells ++ [r.cells]),.slc b6 0 (keys.map EKey.cells ++ [[Cell.int .i64 ((log.length : Int) + 1),.str ky]]).length 2 false,.int .i64 0]],own := true,live := true }
      have h7 := fun B : Blk => Zq (B' := B) (Zq (B' := { sz := 3,rows := [[.lst 6 (log.map Rec.cells ++ [r.cells]),.slc b6 0 (keys.map EKey.cells ++ [[Cell.int .i64 ((log.length : Int) + 1),.str ky]]).length 2 false,.int .i64 0]],own := true,live := true }) h6 n61) n60
      simp only [go_sem,simprocAttr,g10,g11,Zp t1,Zp t0,Zbk t0,Zb4 t0,Zp (Zv t0)]
      have vv := fun B : Blk => Z0f (h7 B) (by simp) hkc
      rw [hRE,hRL,hRK]
      simp only [Zf,Zg,vv]
      simp [Zf,Ze,Zi,Zg,Zh,Zd,Zc,Zb,Zw,Zbj,hrows2,EKey.cells]
   | some key =>
    have htk := htag key (hkeys key rfl)
    simp only [go_sem,simprocAttr,g9,Zp ckk,Option.isSome,optS,Option.getD,hr5,hl6,ht6]
    refine Za htk ?_
    by_cases hte : r.tag = tagR key r
    ·have hbad : Zjr (some key) r = false := by simp [Zjr,← hte]
     rw [hbad,if_neg (by simp)] at hRE
     cases mm with
     | false =>
      simp only [go_sem,simprocAttr,← hte]
      rw [if_neg (by simp)] at hRE
      rw [if_pos hRE] at hRL
      rw [if_neg (by simp)] at hRK
      obtain ⟨s1,s0⟩ := Zf5 c0 c1' (box3 (.lst 6 (log.map Rec.cells ++ [r.cells])) (.lst 2 (keys.map EKey.cells)) 0)
      simp only [go_sem,simprocAttr,k14,g10,g11,Zp c1',Zbk c1',Zb4 c1']
      simp only [go_sem,simprocAttr,g10,g11,Zp s1,Zp s0,Zbk s0,Zb4 s0,Zp (Zv s0)]
      simp [Zf,Ze,Zi,Zg,Zh,Zd,Zc,Zb,hRE,hRL,hRK,Zw,Zbj,hrows2,hkrows]
     | true =>
      cases oo with
      | none =>
       simp only [go_sem,simprocAttr,← hte,Zp cu,Option.isSome]
       rw [if_pos ⟨rfl,rfl⟩] at hRE
       obtain ⟨e1,e2⟩ := hno (by omega)
       obtain ⟨s1,s0⟩ := Zf5 c0 c1' (box3 (.lst 6 (log.map Rec.cells)) (.lst 2 (keys.map EKey.cells)) 9)
       simp only [go_sem,simprocAttr,g10,g11,Zp c1',Zbk c1',Zb4 c1']
       simp only [go_sem,simprocAttr,g10,g11,Zp s1,Zp s0,Zbk s0,Zb4 s0,Zp (Zv s0)]
       simp [Zf,Ze,Zi,Zg,Zh,Zd,Zc,Zb,hRE,e1,e2,hrows,hkrows]
      | some ky =>
       simp only [go_sem,simprocAttr,← hte,Zp cu,Option.isSome]
       rw [if_neg (by simp)] at hRE
       rw [if_pos hRE] at hRL
       rw [if_pos ⟨hRE,rfl⟩] at hRK
       simp only [Option.getD] at hRK
       obtain ⟨s1,s0⟩ := Zf5 c0 c1' (box3 (.lst 6 (log.map Rec.cells ++ [r.cells])) (.lst 2 (keys.map EKey.cells)) 0)
       have su : (K.set 1 (box3 (.lst 6 (log.map Rec.cells ++ [r.cells])) (.lst 2 (keys.map EKey.cells)) 0))[iu]? = some { sz := 2,rows := [[.str (optS (some ky)),.bool (some ky).isSome]],own := true,live := true } := Zq cu (by omega)
       have hlk : ∀ H : Heap,mkF H (vLit 2 1 (some [[.int .i64 ((log.length : Int) + 1),.str ky]]) H) = some (.c (.lst 2 [[.int .i64 ((log.length : Int) + 1),.str ky]])) := fun H => Ze4 rfl
       have hkc : closedR (keys.map EKey.cells ++ [[Cell.int .i64 ((log.length : Int) + 1),.str ky]]) = true := by
        have := Zcm (keys ++ [⟨(log.length : Int) + 1,ky⟩])
        simpa [EKey.cells] using this
       simp only [go_sem,simprocAttr,k14,g1,g10,g11,g12,hwl,Zp c1',Zbk c1',Zb4 c1',hapk]
       generalize K.set 1 (box3 (.lst 6 (log.map Rec.cells ++ [r.cells])) (.lst 2 (keys.map EKey.cells)) 0) = K2 at s0 s1 su ⊢
       have a3 := Zfi 2 (keys.map EKey.cells) K2
       have p3 := Zef 2 (keys.map EKey.cells) K2
       have n30 : NB (Zy 2 (keys.map EKey.cells) K2) 0 := Zhw s0
       have n31 : NB (Zy 2 (keys.map EKey.cells) K2) 1 := Zhw s1
       have su' := Zdi p3 su
       have s0' := Zdi p3 s0
       have s1' := Zdi p3 s1
       generalize Zy 2 (keys.map EKey.cells) K2 = V5 at a3 n30 n31 ⊢
       generalize Z8 2 (keys.map EKey.cells) K2 = K3 at a3 su' s0' s1' ⊢
       simp only [go_sem,simprocAttr,Zp su',optS,Option.getD,hlk]
       refine Acc.app_keep a3 (by simp; omega) fun V6 H6 a6 k6 => ?_
       obtain ⟨z0,m60⟩ := k6 0 _ n30 s0'
       obtain ⟨z1,m61⟩ := k6 1 _ n31 s1'
       obtain ⟨b6,ext6,v6,_,h6⟩ := a6.slc (by simp)
       subst v6
       have n60 : b6 ≠ 0 := fun h => m60 _ _ _ _ (by rw [h])
       have n61 : b6 ≠ 1 := fun h => m61 _ _ _ _ (by rw [h])
       simp only [go_sem,simprocAttr,g10,g11,Zp z1,Zbk z1,Zb4 z1]
       obtain ⟨t1,t0⟩ := Zf5 z0 z1 { sz := 3,rows := [[.lst 6 (log.map Rec.cells ++ [r.cells]),.slc b6 0 (keys.map EKey.cells ++ [[Cell.int .i64 ((log.length : Int) + 1),.str ky]]).length 2 false,.int .i64 0]],own := true,live := true }
       have h7 := fun B : Blk => Zq (B' := B) (Zq (B' := { sz := 3,rows := [[.lst 6 (log.map Rec.cells ++ [r.cells]),.slc b6 0 (keys.map EKey.cells ++ [[Cell.int .i64 ((log.length : Int) + 1),.str ky]]).length 2 false,.int .i64 0]],own := true,live := true }) h6 n61) n60
       simp only [go_sem,simprocAttr,g10,g11,Zp t1,Zp t0,Zbk t0,Zb4 t0,Zp (Zv t0)]
       have vv := fun B : Blk => Z0f (h7 B) (by simp) hkc
       rw [hRE,hRL,hRK]
       simp only [Zf,Zg,vv]
       simp [Zf,Ze,Zi,Zg,Zh,Zd,Zc,Zb,Zw,Zbj,hrows2,EKey.cells]
    ·have hbad : Zjr (some key) r = true := by simp [Zjr,hte]
     rw [hbad] at hRE
     simp only [go_sem,simprocAttr,hte]
     rw [if_pos rfl] at hRE
     obtain ⟨e1,e2⟩ := hno (by omega)
     obtain ⟨s1,s0⟩ := Zf5 c0 c1' (box3 (.lst 6 (log.map Rec.cells)) (.lst 2 (keys.map EKey.cells)) 9)
     simp only [go_sem,simprocAttr,g10,g11,Zp c1',Zbk c1',Zb4 c1']
     simp only [go_sem,simprocAttr,g10,g11,Zp s1,Zp s0,Zbk s0,Zb4 s0,Zp (Zv s0)]
     simp [Zf,Ze,Zi,Zg,Zh,Zd,Zc,Zb,hRE,e1,e2,hrows,hkrows]
  | cons x rest ih =>
   intro pre e hp hf h0 h1 h2 h3 h9' h10 h11 h12 h13
   have hc : ((pre.length : Int) < (log.length : Int)) := by rw [hp]; simp; omega
   have hr := Zb6 (f := Rec.cells) hp
   have hn := Zbt hp hmax
   have hx0 : x.cells[0]? = some (.int .i64 x.seq) := rfl
   have hxl : x.cells.length = 6 := rfl
   have hxt : x.cells.take 6 = x.cells := rfl
   have hs := hsame x
   refine Zj ?_
   conv => enter [3,1]; unfold Zme
   by_cases c1 : x.seq = r.seq
   ·rw [hf,List.find?_cons_of_pos (by simp [c1])] at hRE
    simp only at hRE
    simp only [go_sem,simprocAttr,h0,h9',h10,h11,h12,h13,hc,hr,hx0,hr0,c1,hxl,hxt,hl6,ht6]
    refine Za hs ?_
    by_cases c2 : x = r
    ·rw [if_pos c2] at hRE
     obtain ⟨e1,e2⟩ := hno (by omega)
     simp only [go_sem,simprocAttr,decide_eq_true c2,h10,h11]
     simp [Zf,Ze,Zi,Zg,Zh,Zd,Zc,Zb,hRE,e1,e2,hrows,hkrows]
    ·rw [if_neg c2] at hRE
     obtain ⟨e1,e2⟩ := hno (by omega)
     simp only [go_sem,simprocAttr,decide_eq_false c2,h10,h11]
     simp [Zf,Ze,Zi,Zg,Zh,Zd,Zc,Zb,hRE,e1,e2,hrows,hkrows]
   ·rw [List.find?_cons_of_neg (by simp [c1])] at hf
    simp only [go_sem,simprocAttr,h0,h9',h12,h13,hc,hr,hx0,hr0,c1,hn]
    refine ih (pre ++ [x]) _ (by rw [hp]; simp) hf ?_ ?_ ?_ ?_ ?_ ?_ ?_ ?_ ?_
    all_goals simp only [go_sem,simprocAttr,h0,h1,h2,h3,h9',h10,h11,h12,hn]
 simp only [go_sem,simprocAttr,hml]
 refine loop log [] _ rfl rfl ?_ ?_ ?_ ?_ ?_ ?_ ?_ ?_ ?_
 all_goals simp only [go_sem,simprocAttr,List.length_nil,Int.natCast_zero,hml]
def Zhp : List (List Cell) → Bool
 | [] => true
 | r :: l => Zfn r && Zhp l
theorem Z0t : ∀ {rows : List (List Cell)},Zhp rows = true → ∀ {i : Nat} {r : List Cell},rows[i]? = some r → Zfn r = true
 | [],_,i,r,h => by simp at h
 | x :: l,hp,i,r,h => by
  simp only [Zhp,Bool.and_eq_true] at hp
  cases i with
  | zero => simp at h; subst h; exact hp.1
  | succ i => exact Z0t hp.2 (by simpa using h)
theorem Z4c {B B0 : Nat} {m0 m1 : LMap} {w w' : World} {E : Heap} {x : Cell} {u : Value} {sz : Nat} {rows : List (List Cell)} {m2 : LMap} (hst : St B0 [] m0 w E m1 w') (h0 : m0.f = fun _ => none) (hz : ∀ g,w.heap.size ≤ g ∧ g < w'.heap.size → m2.z g)
  (hacc : Acc sz rows (.c x) E) (hp : Zhp rows = true) (hr : VR m1 (Zk w') x u) : VR m2 (Zk w') (.lst sz rows) u := by
 rcases hacc with ⟨h0',hx | hx⟩ | ⟨b,ext,hx,hb⟩
 ·injection hx with hx; subst hx; subst h0'
  cases hr; exact .lstN
 ·injection hx with hx; subst hx; subst h0'
  exact Zk7 (c := .zer sz) rfl (hr.plain rfl)
 ·injection hx with hx; subst hx
  cases hr with
  | slc h1 h2 h3 h4 =>
  obtain ⟨L,e,ez,h5⟩ := h4
  obtain ⟨k,hk,hat⟩ := hst.rel.blk b L e
  rw [hb] at hk; injection hk with hk; subst hk
  have hfresh : w.heap.size ≤ L.g ∧ L.g < w'.heap.size := by
   have hm0 : m0 b = none := by rw [h0]
   rcases hst.fresh b L hm0 e with h | ⟨x,_,_,e',_⟩
   ·exact ⟨h,hat.lt (.inr rfl)⟩
   ·rw [h0] at e'; cases e'
  subst ez
  have hrow : ∀ (i : Nat) r,rows[i]? = some r → Z5z m1 w' L i r := fun i r hr => hat.rows rfl i r (by
   rw [List.getElem?_append_left (List.getElem?_eq_some_iff.1 hr).1]; exact hr)
  refine VR.lst' (g := L.g) (o := L.o) (vs := fun i f => (w'.cell? ⟨L.g,L.o + i * L.sz + f,none⟩).getD undef) rfl h1 h3 (fun hr => ⟨?_,hz _ hfresh⟩) (fun i r e => (hrow i r e).1) (fun i r f x e1 e2 => ?_) (fun i r f x e1 e2 => ?_)
  ·have hc0 : ∀ c : Nat,rows.length ≤ c → c ≠ 0 := fun c hc h0 => hr (List.eq_nil_of_length_eq_zero (by omega))
   have := (h5 (hc0 _ h1)).1
   simpa using this
  ·obtain ⟨v,k1,_⟩ := (hrow i r e1).2 f x e2
   rw [Zgz]
   simp [k1]
  ·obtain ⟨v,k1,k2⟩ := (hrow i r e1).2 f x e2
   simp only [k1,Option.getD_some]
   exact k2.plain (Zmr (Z0t hp e1) e2)
def NewC (E : Heap) (x y : Cell) : Prop := (Zhu x = true ∧ y = x) ∨ ∃ sz rows,y = .lst sz rows ∧ Acc sz rows (.c x) E ∧ Zhp rows = true
inductive NewA (E : Heap) : AVal → AVal → Prop where
 | c {x y} : NewC E x y → NewA E (.c x) (.c y)
 | agg {xs ys} : All2 (NewC E) xs ys → NewA E (.agg xs) (.agg ys)
theorem Z3x {B0 : Nat} {m0 m1 : LMap} {w w' : World} {E : Heap} {m2 : LMap} (hst : St B0 [] m0 w E m1 w') (h0 : m0.f = fun _ => none) (hz : ∀ g,w.heap.size ≤ g ∧ g < w'.heap.size → m2.z g) : ∀ {xs ys : List Cell} {us : List Value},All2 (NewC E) xs ys → All2 (VR m1 (Zk w')) xs us → All2 (VR m2 (Zk w')) ys us
 | _,_,_,.nil,h => by cases h; exact .nil
 | _,_,_,.cons k ks,h => by
  cases h with
  | cons a b =>
   refine .cons ?_ (Z3x hst h0 hz ks b)
   rcases k with ⟨hp,rfl⟩ | ⟨sz,rows,rfl,hacc,hp⟩
   ·exact a.plain hp
   ·exact Z4c (B := 0) hst h0 hz hacc hp a
theorem CallSound.freshV {P : Program} {f : Nat} {args args' : List AVal} {v v' : AVal} {E : Heap} (h : CallSound P f args' [] v E) (hn : NewA E v v') {H : Heap} (ha : Zd H args = some args') : CallSound P f args H v' H := by
 refine ⟨h.there,fun B m w vs r hargs => ?_⟩
 have r0 : Rel w.heap.size (flat fun g => g < w.heap.size) [] w := Rel.flat (fun _ h => h) fun g c k => ⟨r.zlt g (r.lib g c k).1,(r.lib g c k).2⟩
 have ha' := Zy5 (z := fun g => g < w.heap.size) r r.zlt (fun b L k e ek hl => by
  obtain ⟨k',ek',hat⟩ := r.blk b L e
  rw [ek] at ek'; injection ek' with ek'; subst ek'
  exact hat.lt (.inr hl)) ha hargs
 refine (h.calls w.heap.size _ w vs r0 ha').mono ?_
 rintro e w' ⟨u,m1,rfl,hst,hr⟩
 refine ⟨u,⟨m.f,fun g => m.z g ∨ (w.heap.size ≤ g ∧ g < w'.heap.size)⟩,rfl,St.ofBelow r (hst.below r0) hst.drawn (fun _ h => .inl h) (fun _ h => h),?_⟩
 cases hn with
 | c k =>
  cases hr with
  | c hr =>
   rcases k with ⟨hp,rfl⟩ | ⟨sz,rows,rfl,hacc,hp⟩
   ·exact .c (hr.plain hp)
   ·exact .c (Z4c (B := 0) (m2 := ⟨m.f,fun g => m.z g ∨ (w.heap.size ≤ g ∧ g < w'.heap.size)⟩) hst rfl (fun g h => Or.inr h) hacc hp hr)
 | agg k =>
  cases hr with
  | agg hr => exact .agg (Z3x (m2 := ⟨m.f,fun g => m.z g ∨ (w.heap.size ≤ g ∧ g < w'.heap.size)⟩) hst rfl (fun g h => Or.inr h) k hr)
theorem CallSound.freshL {P : Program} {f : Nat} {args args' : List AVal} {v : AVal} {E : Heap} {sz : Nat} {rows : List (List Cell)} (h : CallSound P f args' [] v E) (hacc : Acc sz rows v E) (hp : Zhp rows = true)
  {H : Heap} (ha : Zd H args = some args') : CallSound P f args H (.c (.lst sz rows)) H := by
 obtain ⟨x,rfl⟩ : ∃ x,v = .c x := by
  rcases hacc with ⟨_,rfl | rfl⟩ | ⟨b,ext,rfl,_⟩ <;> exact ⟨_,rfl⟩
 exact h.freshV (.c (.inr ⟨sz,rows,rfl,hacc,hp⟩)) ha
theorem All2.getR {α β : Type} {R : α → β → Prop} : ∀ {l : List α} {r : List β},All2 R l r → ∀ {i : Nat} {b : β},r[i]? = some b → ∃ a,l[i]? = some a ∧ R a b
 | _,_,.nil,i,b,h => by simp at h
 | _,_,.cons h t,0,b,e => by simp at e; subst e; exact ⟨_,rfl,h⟩
 | _,_,.cons h t,i + 1,b,e => by simp at e; obtain ⟨a,h1,h2⟩ := All2.getR t e; exact ⟨a,by simpa using h1,h2⟩
theorem All2.len {α β : Type} {R : α → β → Prop} : ∀ {l : List α} {r : List β},All2 R l r → l.length = r.length
 | _,_,.nil => rfl
 | _,_,.cons _ t => by simp [All2.len t]
theorem VR.wk_rows {m : LMap} {σ : Mem} {sz : Nat} {rows rows' : List (List Cell)} {v : Value} (h : VR m σ (.lst sz rows) v) (k : All2 (All2 WkC) rows rows') : VR m σ (.lst sz rows') v := by
 have hl := k.len
 cases h with
 | lstN => have : rows' = [] := List.eq_nil_of_length_eq_zero (by simpa using hl.symm); subst this; exact .lstN
 | @lst _ A c g o _ vs h1 h2 h3 h4 h5 h6 =>
  rw [hl] at h1 ⊢
  refine .lst (vs := vs) h1 h2 (fun hne => h3 (fun e => hne (by subst e; exact List.eq_nil_of_length_eq_zero (by simpa using hl.symm)))) (fun i r hr => ?_) (fun i r f x hr hx => ?_) (fun i r f x hr hx => ?_)
  ·obtain ⟨a,ha,hk⟩ := k.getR hr
   rw [← hk.len]; exact h4 i a ha
  ·obtain ⟨a,ha,hk⟩ := k.getR hr
   obtain ⟨y,hy,_⟩ := hk.getR hx
   exact h5 i a f y ha hy
  ·obtain ⟨a,ha,hk⟩ := k.getR hr
   obtain ⟨y,hy,hw⟩ := hk.getR hx
   exact (h6 i a f y ha hy).wk hw
theorem Zbao : ∀ r : List Cell,All2 WkC r r
 | [] => .nil
 | c :: r => .cons (.same c) (Zbao r)
theorem Z2q {x x' : List Cell} (h : All2 WkC x x') : ∀ rows : List (List Cell),All2 (All2 WkC) (rows ++ [x]) (rows ++ [x'])
 | [] => .cons h .nil
 | r :: rows => .cons (Zbao r) (Z2q h rows)
theorem CallSound.wk_row {P : Program} {f sz : Nat} {more : List AVal} {rows rows' : List (List Cell)} {H H' : Heap} {v : AVal} (h : CallSound P f (.c (.lst sz rows') :: more) H v H') (k : All2 (All2 WkC) rows rows') : CallSound P f (.c (.lst sz rows) :: more) H v H' :=
 ⟨h.there,fun B m w vs r ha => h.calls B m w vs r (by
  obtain ⟨vs⟩ := vs
  cases ha with
  | cons a1 a2 =>
   cases a1 with
   | c a1 => exact .cons (.c (a1.wk_rows k)) a2)⟩
theorem Z19 : ∀ l : List Int,Zhp (l.map iRow) = true
 | [] => rfl
 | n :: l => by simp only [List.map_cons,Zhp,Z19 l,Bool.and_true]; rfl
theorem Z4f {α : Type} (f : α → Wrp) (pre : List α) (m : α) : ((pre ++ [m]).map f).map Wrp.cells = (pre.map f).map Wrp.cells ++ [[.int .i64 (f m).dev,.str (f m).box]] := by simp [Wrp.cells]
theorem Zpn {H : Heap} {y : Cell} {rows : List (List Cell)} (h : Acc 2 rows (.c y) H) (hc : closedR rows = true) (a c d : Int) (b t : ByteArray) : ∃ x,Ze H y = some x ∧ WkC x (.lst 2 rows) ∧ Zf H (.agg [.int .i64 a,.str b,.int .i64 c,.int .i64 d,y,.str t]) = some (.agg [.int .i64 a,.str b,.int .i64 c,.int .i64 d,x,.str t]) ∧ WkA (.agg [.int .i64 a,.str b,.int .i64 c,.int .i64 d,x,.str t]) (.agg [.int .i64 a,.str b,.int .i64 c,.int .i64 d,.lst 2 rows,.str t]) := by
 obtain ⟨v,hv,hw⟩ := h.told hc
 have key : ∃ x,Ze H y = some x ∧ WkC x (.lst 2 rows) := by
  simp only [Zf] at hv
  split at hv <;> try (cases hv; done)
  rename_i x hx
  injection hv with hv
  subst hv
  cases hw with
  | same => exact ⟨_,hx,.same _⟩
  | c k => exact ⟨_,hx,k⟩
 obtain ⟨x,hx,hk⟩ := key
 refine ⟨x,hx,hk,?_,.agg (.cons (.same _) (.cons (.same _) (.cons (.same _) (.cons (.same _) (.cons hk (.cons (.same _) .nil))))))⟩
 simp only [Zf,Zg,hx]
 simp [Ze,Zi,Zc]
theorem Znc (secret master : ByteArray) (log : List Rec) (kind dev : Int) : (Zd1 secret master log kind dev).cells = [.int .i64 ((log.length : Int) + 1),.str (Zbl log),.int .i64 kind,.int .i64 dev,.lst 2 (((Zcj (log ++ [Zbp log kind dev]) ((log.length : Int) + 1)).map (Zeo secret master (Zbp log kind dev))).map Wrp.cells),.str ⟨#[]⟩] := rfl
theorem Z1v (secret master : ByteArray) (log : List Rec) (kind dev : Int) (h0 : log.length ≠ 0) : (Zci secret master log kind dev).cells = [.int .i64 ((log.length : Int) + 1),.str (Zbl log),.int .i64 kind,.int .i64 dev,.lst 2 (((Zcj (log ++ [Zbp log kind dev]) ((log.length : Int) + 1)).map (Zeo secret master (Zbp log kind dev))).map Wrp.cells),.str (tagR (Zck secret log.length) (Zd1 secret master log kind dev))] := by
 unfold Zci
 rw [if_neg h0]; rfl
theorem Zyb (secret master : ByteArray) (log : List Rec) (kind dev : Int) (h0 : log.length = 0) : (Zci secret master log kind dev).cells = (Zd1 secret master log kind dev).cells := by
 unfold Zci
 rw [if_pos h0]
set_option maxHeartbeats 4000000 in
theorem Zpg (secret master : ByteArray) (log : List Rec) (kind dev : Int) (hs : secret.size ≤ 1000000) (hm : master.size ≤ 1000000) (h9 : log.length ≤ 100000) :
  Pr 17 [sC secret,sC master,.c (Zw log),iC kind,iC dev] (.tup [.agg (Ze3 secret master log kind dev).cells,iC (Zcv log kind dev)]) := by
 have hmk := Z4v log kind dev
 have hnum := Zsx Zz9 (Zcv log kind dev)
 refine Zir mixed Z6o (by simp [Zo,Zn,Zc,Zw,Z4]) fun hl T => ?_
 clear hl
 unfold Zyx
 by_cases hz : Zcv log kind dev = 0
 ·have hmr : Ze3 secret master log kind dev = Zci secret master log kind dev := by unfold Ze3; rw [if_pos hz]
  have hsv : Zz Zz9 (Zcv log kind dev) = .c .nilI := by rw [hz]; rfl
  rw [hsv] at hmk
  rw [hmr,hz]
  obtain ⟨z1,z2,z3,z4,z5,z6,z7,z8⟩ := Zn0 hz
  have h40 : log.length ≤ 40 := by omega
  have hnx := Z5i log kind dev h40
  have hbm := Zs3 hz
  have hhd : Pr 53 [.agg [.int .i64 ((log.length : Int) + 1),.str (Zbl log),.int .i64 kind,.int .i64 dev,.nilS,.str ⟨#[]⟩]] (sC (Zcp (Zbp log kind dev))) :=
   (Zr0 (Zbp log kind dev)).wk (.cons (.agg (.cons (.same _) (.cons (.same _) (.cons (.same _) (.cons (.same _) (.cons (.nilS _) (.cons (.same _) .nil))))))) .nil)
  have hhs := Zof (Zbp log kind dev)
  have hsrc : ∀ H : Heap,CallSound Tryz.prog 55 ([.c (.lst 6 (log.map Rec.cells))] ++ List.map AVal.c []) H (Zy 6 (log.map Rec.cells) H) (Z8 6 (log.map Rec.cells) H) := fun H => Zeh (.inl rfl) (by omega)
  obtain ⟨vm,Em,hm1,hm2⟩ := Zmv (log ++ [Zbp log kind dev]) ((log.length : Int) + 1) (by unfold maxLen; simp; omega)
  obtain ⟨ms,hms⟩ : ∃ ms,ms = Zcj (log ++ [Zbp log kind dev]) ((log.length : Int) + 1) := ⟨_,rfl⟩
  have hms8 : ∀ m ∈ ms,0 ≤ m ∧ m < 8 := fun m h => Zxp (by rw [hms] at h; exact h)
  have hmsl : ms.length ≤ 8 := by
   rw [hms]
   unfold Zcj
   exact List.length_filter_le _ _
  rw [← hms] at hm2
  have hep := Zug secret (log.length + 1) hs (by omega)
  have hen : ((log.length + 1 : Nat) : Int) = (log.length : Int) + 1 := by omega
  rw [hen] at hep
  have hno := Ztw ((log.length : Int) + 1)
  have hown := fun k : Nat => fun hk : k < 8 => Zbab master k hm (by omega)
  have hwrp := fun k : Nat => Zvw (ownK master k) (by rw [Zu5]; omega)
  have hseal := fun k : Nat => Z93 (Zdf (ownK master k)) (Zc6 ((log.length : Int) + 1)) (Zcp (Zbp log kind dev)) (Zck secret ((log.length : Int) + 1)) hhs
  have htag := Zrd (Zck secret log.length) (Zd1 secret master log kind dev) (by rw [Zjl]; omega)
  rw [Znc,← hms] at htag
  have hepl := Zug secret log.length hs (by omega)
  have hnc := Z1v secret master log kind dev
  have hnc0 := Zyb secret master log kind dev
  rw [Znc,← hms] at hnc0
  rw [← hms] at hnc
  have hrow2 := Z4 (log ++ [Zbp log kind dev])
  have hml : ((log.map Rec.cells).length : Int) = (log.length : Int) := by simp
  have hbc : (Zbp log kind dev).cells = [.int .i64 ((log.length : Int) + 1),.str (Zbl log),.int .i64 kind,.int .i64 dev,.lst 2 [],.str ⟨#[]⟩] := rfl
  simp only [Zw] at hmk hnx hm1 ⊢
  rw [← Zgh,hbc] at hm1
  have hm1' : CallSound Tryz.prog 54 [.c (.lst 6 (log.map Rec.cells ++ [[.int .i64 ((log.length : Int) + 1),.str (Zbl log),.int .i64 kind,.int .i64 dev,.nilS,.str ⟨#[]⟩]])),iC ((log.length : Int) + 1)] [] vm Em :=
   hm1.wk_row (Z2q (.cons (.same _) (.cons (.same _) (.cons (.same _) (.cons (.same _) (.cons (.nilS _) (.cons (.same _) .nil)))))) _)
  have hrow2 : closedR (log.map Rec.cells ++ [[.int .i64 ((log.length : Int) + 1),.str (Zbl log),.int .i64 kind,.int .i64 dev,.nilS,.str ⟨#[]⟩]]) = true := by
   have := Z4 log
   have key : ∀ rows : List (List Cell),closedR rows = true → closedR (rows ++ [[.int .i64 ((log.length : Int) + 1),.str (Zbl log),.int .i64 kind,.int .i64 dev,.nilS,.str ⟨#[]⟩]]) = true := by
    intro rows
    induction rows with
    | nil => intro _; rfl
    | cons x rows ih =>
     intro h
     simp only [List.cons_append,closedR,Bool.and_eq_true] at h ⊢
     exact ⟨h.1,ih h.2⟩
   exact key _ this
  have hmem : ∀ (v : AVal) (H : Heap),Acc 6 (log.map Rec.cells ++ [[.int .i64 ((log.length : Int) + 1),.str (Zbl log),.int .i64 kind,.int .i64 dev,.nilS,.str ⟨#[]⟩]]) v H → CallSound Tryz.prog 54 ([v,iC ((log.length : Int) + 1)] ++ List.map AVal.c []) H (.c (.lst 1 (ms.map iRow))) H := fun v H h =>
   hm1'.freshL hm2 (Z19 ms) (by simp [Zd,h.view_ne (by simp) hrow2,Zf,Ze,Zi,Zc])
  have hwf : ∀ m,Zeo secret master (Zbp log kind dev) m = ⟨m,Zdj (Zdf (ownK master m)) (Zc6 ((log.length : Int) + 1)) (Zcp (Zbp log kind dev)) (Zck secret ((log.length : Int) + 1))⟩ := fun m => rfl
  generalize Zcp (Zbp log kind dev) = hd at hhd hhs hseal hwf
  generalize tagR (Zck secret log.length) (Zd1 secret master log kind dev) = TG at htag hnc
  generalize Zeo secret master (Zbp log kind dev) = wf at htag hnc hnc0 hwf
  generalize Zbl log = pv at *
  generalize Zck secret ((log.length : Int) + 1) = ek at hep hseal hwf
  generalize Zc6 ((log.length : Int) + 1) = nn at hno hseal hwf
  generalize Zck secret log.length = el at htag hepl
  have hmsl' : ∀ pre rest : List Int,ms = pre ++ rest → pre.length ≤ 8 := fun pre rest h => by rw [h] at hmsl; simp at hmsl; omega
  have hseq : IntKind.wrap .i64 ((log.length : Int) + 1 - 1) = (log.length : Int) := by rw [Zr (by omega)]; omega
  have hclw : ∀ l : List Wrp,closedR (l.map Wrp.cells) = true := Zfv
  obtain ⟨N,hN⟩ : ∃ N : Int,N = (log.length : Int) + 1 := ⟨_,rfl⟩
  have loop : ∀ (rest pre : List Int) (y : Cell) (e : Env) (H : Heap),ms = pre ++ rest → e 0 = sC secret → e 1 = sC master → e 10 = .c (.ptr 0 0 0) → e 13 = .c (.ptr 1 0 0) → e 14 = sC hd → e 40 = .c (.lst 1 (ms.map iRow)) → e 41 = iC (ms.map iRow).length → e 42 = iC pre.length →
    H[0]? = some { sz := 6,rows := [[.int .i64 0,.str ⟨#[]⟩,.int .i64 0,.int .i64 0,.nilS,.str ⟨#[]⟩]],own := true,live := true } → H[1]? = some { sz := 6,rows := [[.int .i64 ((log.length : Int) + 1),.str pv,.int .i64 kind,.int .i64 dev,y,.str ⟨#[]⟩]],own := true,live := true } → Acc 2 ((pre.map wf).map Wrp.cells) (.c y) H →
    Run (Zu Tryz.prog T) ⟨[.cell 10 true 6,.tmp 11],fun u E => Zmt E u (.tup [.agg (Zci secret master log kind dev).cells,iC 0])⟩ [.loop Zlj,.blk 0,.code Zpr] e H := by
   intro rest
   induction rest with
   | nil =>
    intro pre y e H hp h0 h1 h10 h13 h14 h40' h41 h42 b0 b1 ha
    have hc := Zcf (f := iRow) hp
    rw [List.append_nil] at hp
    rw [← hp] at ha
    refine Zj ?_
    conv => enter [3,1]; unfold Zlj
    simp only [go_sem,simprocAttr,h41,h42,hc]
    unfold Zpr
    by_cases hl0 : log.length = 0
    ·have c1 : ¬ ((1 : Int) < (log.length : Int) + 1) := by omega
     rw [hnc0 hl0]
     have e0 := ha.set_nb (b := 0) (B := { sz := 6,rows := [[.int .i64 ((log.length : Int) + 1),.str pv,.int .i64 kind,.int .i64 dev,y,.str ⟨#[]⟩]],own := true,live := true }) (ha.nb_sz b0 (by show (6 : Nat) ≠ 2; decide))
     obtain ⟨x,hx1,hx2,hx3,hx4⟩ := Zpn e0 (hclw _) ((log.length : Int) + 1) kind dev pv ⟨#[]⟩
     simp only [go_sem,simprocAttr,h10,h13,Zp b1,c1,Zp b0,Zbk b0,Zb4 b0]
     simp only [go_sem,simprocAttr,h10,Zp (Zv b0)]
     refine ⟨_,?_,.tup2 hx4 (.same _)⟩
     simp only [Zkr,Zd,hx3]
     simp [Zf,Ze,Zi,Zg,Zh,Zd,Zc,Zb]
    ·have c1 : ((1 : Int) < (log.length : Int) + 1) := by omega
     rw [hnc hl0]
     have n0 : NB (.c y) 0 := ha.nb_sz b0 (by show (6 : Nat) ≠ 2; decide)
     have n1 : NB (.c y) 1 := ha.nb_sz b1 (by show (6 : Nat) ≠ 2; decide)
     obtain ⟨x,hx1,hx2,hx3,hx4⟩ := Zpn ha (hclw _) ((log.length : Int) + 1) kind dev pv ⟨#[]⟩
     have htg : Pr 26 [sC el,.agg [.int .i64 ((log.length : Int) + 1),.str pv,.int .i64 kind,.int .i64 dev,x,.str ⟨#[]⟩]] (sC TG) := htag.wk (.cons (.same _) (.cons hx4 .nil))
     simp only [go_sem,simprocAttr,h0,h13,Zp b1,c1,hseq]
     refine Za hepl ?_
     simp only [go_sem,simprocAttr,h13,Zp b1]
     refine Zfb htg (by simp only [Zd,List.map_nil,List.append_nil,List.cons_append,List.nil_append,hx3]; simp [Zf,Ze,Zi,Zg,Zh,Zd,Zc,Zb]) rfl ?_
     obtain ⟨s1,s0⟩ := Zf5 b0 b1 { sz := 6,rows := [[.int .i64 ((log.length : Int) + 1),.str pv,.int .i64 kind,.int .i64 dev,y,.str TG]],own := true,live := true }
     have e1 := (ha.set_nb (b := 1) (B := { sz := 6,rows := [[.int .i64 ((log.length : Int) + 1),.str pv,.int .i64 kind,.int .i64 dev,y,.str TG]],own := true,live := true }) n1).set_nb (b := 0) (B := { sz := 6,rows := [[.int .i64 ((log.length : Int) + 1),.str pv,.int .i64 kind,.int .i64 dev,y,.str TG]],own := true,live := true }) n0
     obtain ⟨x',hy1,hy2,hy3,hy4⟩ := Zpn e1 (hclw _) ((log.length : Int) + 1) kind dev pv TG
     simp only [go_sem,simprocAttr,h10,h13,Zp b1,Zbk b1,Zb4 b1]
     simp only [go_sem,simprocAttr,h10,h13,Zp s1,Zp s0,Zbk s0,Zb4 s0,Zp (Zv s0)]
     refine ⟨_,?_,.tup2 hy4 (.same _)⟩
     simp only [Zkr,Zd,hy3]
     simp [Zf,Ze,Zi,Zg,Zh,Zd,Zc,Zb]
   | cons m rest ih =>
    intro pre y e H hp h0 h1 h10 h13 h14 h40' h41 h42 b0 b1 ha
    have hc := Zer (f := iRow) hp
    have hr := Zb6 (f := iRow) hp
    have hn := Zbt hp (by unfold maxLen; omega)
    have hpl := hmsl' _ _ hp
    obtain ⟨m0,m8⟩ := hms8 m (by rw [hp]; simp)
    obtain ⟨k,rfl⟩ : ∃ k : Nat,m = (k : Int) := ⟨m.toNat,by omega⟩
    have howk := hown k (by omega)
    have hwk := hwrp k
    have hsk := hseal k
    have hwfk := hwf k
    generalize Zdj (Zdf (ownK master k)) nn hd ek = bx at hsk hwfk
    generalize Zdf (ownK master k) = wk at hwk hsk
    generalize ownK master k = ok at howk hwk
    have hlk : ∀ H : Heap,mkF H (vLit 2 1 (some [[.int .i64 (k : Int),.str bx]]) H) = some (.c (.lst 2 [[.int .i64 (k : Int),.str bx]])) := fun H => Ze4 rfl
    refine Zj ?_
    conv => enter [3,1]; unfold Zlj
    simp only [go_sem,simprocAttr,h1,h40',h41,h42,hc,hr,iRow]
    refine Za howk ?_
    simp only [go_sem,simprocAttr]
    refine Za hwk ?_
    simp only [go_sem,simprocAttr,h13,h14,Zp b1]
    refine Za hno ?_
    simp only [go_sem,simprocAttr,h0,h13,h14,Zp b1]
    refine Za hep ?_
    simp only [go_sem,simprocAttr]
    refine Za hsk ?_
    simp only [go_sem,simprocAttr,hlk]
    have n0 : NB (.c y) 0 := ha.nb_sz b0 (by decide)
    have n1 : NB (.c y) 1 := ha.nb_sz b1 (by show (6 : Nat) ≠ 2; decide)
    refine Acc.app_keep ha (by simp; omega) fun v' H' ha' keep => ?_
    obtain ⟨b0',m0'⟩ := keep 0 _ n0 b0
    obtain ⟨b1',m1'⟩ := keep 1 _ n1 b1
    obtain ⟨b6,ext6,rfl,_,h6⟩ := ha'.slc (by simp)
    simp only [go_sem,simprocAttr,h13,Zp b1',Zbk b1',Zb4 b1',h42,hn]
    have hrw : ((pre.map wf).map Wrp.cells) ++ [[.int .i64 (k : Int),.str bx]] = ((pre ++ [(k : Int)]).map wf).map Wrp.cells := by rw [Z4f,hwfk]
    refine ih (pre ++ [(k : Int)]) _ _ _ (by rw [hp]; simp) ?_ ?_ ?_ ?_ ?_ ?_ ?_ ?_ (Zq b0' (by omega)) (Zv b1') ?_
    ·simp only [go_sem,simprocAttr,h0]
    ·simp only [go_sem,simprocAttr,h1]
    ·simp only [go_sem,simprocAttr,h10]
    ·simp only [go_sem,simprocAttr,h13]
    ·simp only [go_sem,simprocAttr,h14]
    ·simp only [go_sem,simprocAttr,h40']
    ·simp only [go_sem,simprocAttr,h41]
    ·simp only [go_sem,simprocAttr,hn]
    ·rw [← hrw]; exact ha'.set_nb m1'
  have hlt : ∀ H : Heap,mkF H (vLit 6 1 (some [[.int .i64 ((log.length : Int) + 1),.str pv,.int .i64 kind,.int .i64 dev,.nilS,.str ⟨#[]⟩]]) H) = some (.c (.lst 6 [[.int .i64 ((log.length : Int) + 1),.str pv,.int .i64 kind,.int .i64 dev,.nilS,.str ⟨#[]⟩]])) := fun H => Ze4 rfl
  simp only [go_sem,simprocAttr]
  refine Za hmk ?_
  simp only [go_sem,simprocAttr,bne_self_eq_false]
  refine Za hnx ?_
  simp only [go_sem,simprocAttr]
  refine Za hhd ?_
  simp only [go_sem,simprocAttr]
  refine Z0 (hsrc _) (fun _ => Zef _ _ _) ?_
  have a1 := Zfi 6 (log.map Rec.cells) [{ sz := 6,rows := [[.int .i64 0,.str ⟨#[]⟩,.int .i64 0,.int .i64 0,.nilS,.str ⟨#[]⟩]],own := true,live := true },{ sz := 6,rows := [[.int .i64 ((log.length : Int) + 1),.str pv,.int .i64 kind,.int .i64 dev,.nilS,.str ⟨#[]⟩]],own := true,live := true }]
  have p1 := Zef 6 (log.map Rec.cells) [{ sz := 6,rows := [[.int .i64 0,.str ⟨#[]⟩,.int .i64 0,.int .i64 0,.nilS,.str ⟨#[]⟩]],own := true,live := true },{ sz := 6,rows := [[.int .i64 ((log.length : Int) + 1),.str pv,.int .i64 kind,.int .i64 dev,.nilS,.str ⟨#[]⟩]],own := true,live := true }]
  have n0 : NB (Zy 6 (log.map Rec.cells) [{ sz := 6,rows := [[.int .i64 0,.str ⟨#[]⟩,.int .i64 0,.int .i64 0,.nilS,.str ⟨#[]⟩]],own := true,live := true },{ sz := 6,rows := [[.int .i64 ((log.length : Int) + 1),.str pv,.int .i64 kind,.int .i64 dev,.nilS,.str ⟨#[]⟩]],own := true,live := true }]) 0 := Zkg _ _ (by simp)
  have n1 : NB (Zy 6 (log.map Rec.cells) [{ sz := 6,rows := [[.int .i64 0,.str ⟨#[]⟩,.int .i64 0,.int .i64 0,.nilS,.str ⟨#[]⟩]],own := true,live := true },{ sz := 6,rows := [[.int .i64 ((log.length : Int) + 1),.str pv,.int .i64 kind,.int .i64 dev,.nilS,.str ⟨#[]⟩]],own := true,live := true }]) 1 := Zkg _ _ (by simp)
  have q0 := Zdi (b := 0) p1 rfl
  have q1 := Zdi (b := 1) p1 rfl
  generalize Zy 6 (log.map Rec.cells) [{ sz := 6,rows := [[.int .i64 0,.str ⟨#[]⟩,.int .i64 0,.int .i64 0,.nilS,.str ⟨#[]⟩]],own := true,live := true },{ sz := 6,rows := [[.int .i64 ((log.length : Int) + 1),.str pv,.int .i64 kind,.int .i64 dev,.nilS,.str ⟨#[]⟩]],own := true,live := true }] = V1 at a1 n0 n1 ⊢
  generalize Z8 6 (log.map Rec.cells) [{ sz := 6,rows := [[.int .i64 0,.str ⟨#[]⟩,.int .i64 0,.int .i64 0,.nilS,.str ⟨#[]⟩]],own := true,live := true },{ sz := 6,rows := [[.int .i64 ((log.length : Int) + 1),.str pv,.int .i64 kind,.int .i64 dev,.nilS,.str ⟨#[]⟩]],own := true,live := true }] = H1 at a1 q0 q1 ⊢
  simp only [go_sem,simprocAttr,Zp q1,hlt]
  refine Acc.app_keep a1 (by simp; omega) fun V2 H2 a2 keep => ?_
  obtain ⟨b0,_⟩ := keep 0 _ n0 q0
  obtain ⟨b1,_⟩ := keep 1 _ n1 q1
  simp only [go_sem,simprocAttr,Zp b1]
  refine Z0 (hmem V2 H2 a2) (fun _ => List.prefix_refl _) ?_
  simp only [go_sem,simprocAttr]
  refine loop ms [] .nilS _ _ rfl ?_ ?_ ?_ ?_ ?_ ?_ ?_ ?_ b0 b1 .nil
  all_goals simp only [go_sem,simprocAttr,List.length_nil,Int.natCast_zero]
 ·have hmr : Ze3 secret master log kind dev = Ztu := by unfold Ze3; rw [if_neg hz]
  have hsv : Zz Zz9 (Zcv log kind dev) = .c (Z1l Zz9 (Zcv log kind dev)) := by unfold Zz; rw [if_neg hz]
  rw [hsv] at hmk hnum
  rw [hmr]
  generalize Zcv log kind dev = E at *
  simp only [Zw] at hmk ⊢
  simp only [go_sem,simprocAttr]
  refine Za hmk ?_
  simp only [go_sem,simprocAttr,bne_self_eq_false,Bool.true_bne,Bool.not_false]
  refine Za hnum ?_
  simp only [go_sem,simprocAttr]
  refine ⟨.tup [.agg [.int .i64 0,.str ⟨#[]⟩,.int .i64 0,.int .i64 0,.nilS,.str ⟨#[]⟩],iC E],?_,.tup2 (.agg (.cons (.same _) (.cons (.same _) (.cons (.same _) (.cons (.same _) (.cons (.nilS _) (.cons (.same _) .nil))))))) (.same _)⟩
  simp [Zf,Ze,Zi,Zg,Zh,Zd,Zc,Zb]
end Go.Proofs.YticmfblfghdkbaaGreatDoor.Eng
