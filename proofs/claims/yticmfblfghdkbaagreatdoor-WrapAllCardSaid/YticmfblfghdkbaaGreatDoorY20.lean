/- Parts of this claim's proof, joined. No statement of the seat is proved here. -/
import Derived.Test.YticmfblfghdkbaaGreatDoorY19
set_option linter.unusedVariables false
set_option linter.unusedSimpArgs false
namespace Go.Proofs.YticmfblfghdkbaaGreatDoor.Eng
open Go
def mayA (r : Rec) : Bool := decide (1 ≤ r.seq) && decide (r.seq ≤ 1048576)
def mayB (r : Rec) : Bool := decide (r.prev.size = 32 ∨ r.seq = 1 ∧ r.prev = Z2)
def mayC (r : Rec) : Bool := decide (r.kind = 1 ∨ r.kind = 2)
def mayD (r : Rec) : Bool := decide (0 ≤ r.dev ∧ r.dev < 8)
def mayT (r : Rec) : Bool := decide (r.tag.size = 16 ∨ r.tag = Z2)
theorem Z4d (r : Rec) : Z9 r = (mayA r && mayB r && mayC r && mayD r && mayT r && Zcz none r.wraps) := by
 unfold Z9 mayA mayB mayC mayD mayT
 rw [Bool.decide_and]
theorem Zwx {G : Prog} {p : Post} {k : List Itm} {e : Env} {H : Heap} {a b : ACode} {P : Env → Prop} (h1 : ∀ K : List Itm,(∀ e',P e' → Run G p K e' H) → Run G p (.code a :: K) e H) (h2 : ∀ e',P e' → Run G p (.code b :: k) e' H) : Run G p (.code (.seq a b) :: k) e H := by
 rw [Zw4]
 exact h1 _ h2
set_option maxHeartbeats 2000000 in
theorem Zkc (r : Rec) : Pr 67 [.agg r.cells] (bC (Z9 r)) := by
 have hd := Zt9 r.dev
 have hw := Zwn r.wraps
 rw [Z4d]
 have eA : mayA r = (decide (1 ≤ r.seq) && decide (r.seq ≤ 1048576)) := rfl
 have eD : mayD r = decide (0 ≤ r.dev ∧ r.dev < 8) := rfl
 rw [← eD] at hd
 obtain ⟨vB,hB⟩ : ∃ v,v = mayB r := ⟨_,rfl⟩
 obtain ⟨vC,hC⟩ : ∃ v,v = mayC r := ⟨_,rfl⟩
 obtain ⟨vT,hT⟩ : ∃ v,v = mayT r := ⟨_,rfl⟩
 unfold mayB at hB
 unfold mayC at hC
 unfold mayT at hT
 have eB : mayB r = vB := hB.symm
 have eC : mayC r = vC := hC.symm
 have eT : mayT r = vT := hT.symm
 rw [eA,eB,eC,eT]
 generalize mayD r = vD at hd ⊢
 generalize Zcz none r.wraps = vW at hw ⊢
 have hcl := Rec.closed r
 obtain ⟨seq,prev,kind,dev,wraps,tag⟩ := r
 simp only at hB hC hT hd hw ⊢
 refine Zl mixed Z5h (by simp [Zo,Zn,hcl]) fun hl T => ?_
 unfold Zvh
 simp only [Rec.cells] at hcl ⊢
 generalize Zx wraps = W at hcl hw ⊢
 have kB : ((prev.size : Int) = 32 ∧ vB = true) ∨ (¬ (prev.size : Int) = 32 ∧ ((seq = 1 ∧ ((prev = ⟨#[]⟩ ∧ vB = true) ∨ (¬ prev = ⟨#[]⟩ ∧ vB = false))) ∨ (¬ seq = 1 ∧ vB = false))) := by
  rw [hB]
  by_cases p1 : (prev.size : Int) = 32
  ·left; exact ⟨p1,decide_eq_true (.inl (by omega))⟩
  ·right
   refine ⟨p1,?_⟩
   by_cases p2 : seq = 1
   ·left
    refine ⟨p2,?_⟩
    by_cases p3 : prev = ⟨#[]⟩
    ·left; exact ⟨p3,decide_eq_true (.inr ⟨p2,p3⟩)⟩
    ·right; exact ⟨p3,decide_eq_false (fun h => h.elim (fun h => p1 (by omega)) (fun h => p3 h.2))⟩
   ·right; exact ⟨p2,decide_eq_false (fun h => h.elim (fun h => p1 (by omega)) (fun h => p2 h.1))⟩
 have kC : (kind = 1 ∧ vC = true) ∨ (¬ kind = 1 ∧ ((kind = 2 ∧ vC = true) ∨ (¬ kind = 2 ∧ vC = false))) := by
  rw [hC]
  by_cases p1 : kind = 1
  ·left; exact ⟨p1,decide_eq_true (.inl p1)⟩
  ·right
   refine ⟨p1,?_⟩
   by_cases p2 : kind = 2
   ·left; exact ⟨p2,decide_eq_true (.inr p2)⟩
   ·right; exact ⟨p2,decide_eq_false (fun h => h.elim p1 p2)⟩
 have kT : (tag = ⟨#[]⟩ ∧ vT = true) ∨ (¬ tag = ⟨#[]⟩ ∧ (((tag.size : Int) = 16 ∧ vT = true) ∨ (¬ (tag.size : Int) = 16 ∧ vT = false))) := by
  rw [hT]
  by_cases p1 : tag = ⟨#[]⟩
  ·left; exact ⟨p1,decide_eq_true (.inr p1)⟩
  ·right
   refine ⟨p1,?_⟩
   by_cases p2 : (tag.size : Int) = 16
   ·left; exact ⟨p2,decide_eq_true (.inl (by omega))⟩
   ·right; exact ⟨p2,decide_eq_false (fun h => h.elim (fun h => p2 (by omega)) p1)⟩
 clear hB hC hT eA eB eC eD eT
 have hbx : ∀ H : Heap,mkF H (vBox (.agg [.int .i64 seq,.str prev,.int .i64 kind,.int .i64 dev,W,.str tag]) H) = some (.c (.fp [.int .i64 seq,.str prev,.int .i64 kind,.int .i64 dev,W,.str tag] 0)) := fun H => Zbs hcl
 have tailA : ∀ (b : Bool),b = vD → Pr 108 [iC dev] (bC b) := fun b h => by rw [h]; exact hd
 obtain ⟨res,hres⟩ : ∃ res,res = (decide (1 ≤ seq) && decide (seq ≤ 1048576) && vB && vC && vD && vT && vW) := ⟨_,rfl⟩
 rw [← hres]
 have z0 : ¬ (((#[] : Array UInt8).size : Int) = 32) := by decide
 have z1 : ¬ (((#[] : Array UInt8).size : Int) = 16) := by decide
 obtain ⟨row,hrow⟩ : ∃ row : List Cell,row = [.int .i64 seq,.str prev,.int .i64 kind,.int .i64 dev,W,.str tag] := ⟨_,rfl⟩
 refine Zwx (P := fun e => e 1 = .c (.fp row 0)) (fun K hK => ?_) fun e h1 => ?_
 ·rw [hrow] at hK
  simp only [go_sem,simprocAttr,hbx]
  refine hK _ ?_
  simp only [go_sem,simprocAttr]
 refine Zwx (P := fun e => e 1 = .c (.fp row 0) ∧ e 3 = bC vB) (fun K hK => ?_) fun e ⟨h1,h3⟩ => ?_
 ·clear hd hw kC kT hbx hcl tailA hl hres
  rw [hrow] at h1
  rcases kB with ⟨p1,rfl⟩ | ⟨p1,⟨p2,⟨p3,rfl⟩ | ⟨p3,rfl⟩⟩ | ⟨p2,rfl⟩⟩
  ·simp only [go_sem,simprocAttr,h1,p1]
   refine hK _ ⟨?_,?_⟩ <;> simp only [go_sem,simprocAttr,h1,hrow]
  ·simp only [go_sem,simprocAttr,h1,p1,p2,p3,z0]
   refine hK _ ⟨?_,?_⟩ <;> simp only [go_sem,simprocAttr,h1,hrow]
  ·simp only [go_sem,simprocAttr,h1,p1,p2,p3,z0]
   refine hK _ ⟨?_,?_⟩ <;> simp only [go_sem,simprocAttr,h1,hrow]
  ·simp only [go_sem,simprocAttr,h1,p1,p2]
   refine hK _ ⟨?_,?_⟩ <;> simp only [go_sem,simprocAttr,h1,hrow]
 refine Zwx (P := fun e => e 1 = .c (.fp row 0) ∧ e 3 = bC vB ∧ e 4 = bC vC) (fun K hK => ?_) fun e ⟨h1,h3,h4⟩ => ?_
 ·clear hd hw kB kT hbx hcl tailA hl hres
  rw [hrow] at h1
  rcases kC with ⟨q1,rfl⟩ | ⟨q1,⟨q2,rfl⟩ | ⟨q2,rfl⟩⟩
  ·simp only [go_sem,simprocAttr,h1,q1]
   refine hK _ ⟨?_,?_,?_⟩ <;> simp only [go_sem,simprocAttr,h1,h3,hrow]
  ·simp only [go_sem,simprocAttr,h1,q1,q2]
   refine hK _ ⟨?_,?_,?_⟩ <;> simp only [go_sem,simprocAttr,h1,h3,hrow]
  ·simp only [go_sem,simprocAttr,h1,q1,q2]
   refine hK _ ⟨?_,?_,?_⟩ <;> simp only [go_sem,simprocAttr,h1,h3,hrow]
 refine Zwx (P := fun e => e 1 = .c (.fp row 0) ∧ e 3 = bC vB ∧ e 4 = bC vC ∧ e 5 = bC vT) (fun K hK => ?_) fun e ⟨h1,h3,h4,h5⟩ => ?_
 ·clear hd hw kB kC hbx hcl tailA hl hres
  rw [hrow] at h1
  rcases kT with ⟨r1,rfl⟩ | ⟨r1,⟨r2,rfl⟩ | ⟨r2,rfl⟩⟩
  ·simp only [go_sem,simprocAttr,h1,r1]
   refine hK _ ⟨?_,?_,?_,?_⟩ <;> simp only [go_sem,simprocAttr,h1,h3,h4,hrow]
  ·simp only [go_sem,simprocAttr,h1,r1,r2]
   refine hK _ ⟨?_,?_,?_,?_⟩ <;> simp only [go_sem,simprocAttr,h1,h3,h4,hrow]
  ·simp only [go_sem,simprocAttr,h1,r1,r2]
   refine hK _ ⟨?_,?_,?_,?_⟩ <;> simp only [go_sem,simprocAttr,h1,h3,h4,hrow]
 rw [hrow] at h1
 by_cases s1 : 1 ≤ seq
 ·by_cases s2 : seq ≤ 1048576
  ·cases vB with
   | false =>
    simp only [go_sem,simprocAttr,h1,h3,h4,h5,s1,s2]
    simp [Zf,Ze,Zi,Zg,Zh,Zd,Zc,Zb,hres,s1,s2]
   | true =>
    cases vC with
    | false =>
     simp only [go_sem,simprocAttr,h1,h3,h4,h5,s1,s2]
     simp [Zf,Ze,Zi,Zg,Zh,Zd,Zc,Zb,hres,s1,s2]
    | true =>
     simp only [go_sem,simprocAttr,h1,h3,h4,h5,s1,s2]
     refine Za hd ?_
     cases vD with
     | false =>
      simp only [go_sem,simprocAttr,h1,h5]
      simp [Zf,Ze,Zi,Zg,Zh,Zd,Zc,Zb,hres,s1,s2]
     | true =>
      cases vT with
      | false =>
       simp only [go_sem,simprocAttr,h1,h5]
       simp [Zf,Ze,Zi,Zg,Zh,Zd,Zc,Zb,hres,s1,s2]
      | true =>
       simp only [go_sem,simprocAttr,h1,h5]
       refine Za hw ?_
       simp only [go_sem,simprocAttr]
       simp [Zf,Ze,Zi,Zg,Zh,Zd,Zc,Zb,hres,s1,s2]
  ·simp only [go_sem,simprocAttr,h1,h3,h4,h5,s1,s2]
   simp [Zf,Ze,Zi,Zg,Zh,Zd,Zc,Zb,hres,s1,s2]
 ·simp only [go_sem,simprocAttr,h1,h3,h4,h5,s1]
  simp [Zf,Ze,Zi,Zg,Zh,Zd,Zc,Zb,hres,s1]
theorem Zfw {r : Rec} (h : Z9 r = true) : (Zfr r).size ≤ 1000000 ∧ (Zg9 r).size ≤ 1000000 ∧ Wr.sizes (r.wraps.map Zdq) ≤ 10000 := by
 obtain ⟨h1,h2,h3,h4⟩ := Zin h
 have e0 : Z2.size = 0 := rfl
 have key : ∀ l : List Wrp,(∀ w ∈ l,w.box.size ≤ 200) → Wr.sizes (l.map Zdq) ≤ 300 * l.length := fun l => by
  induction l with
  | nil => intro _; simp [Wr.sizes]
  | cons w l ih =>
   intro hl
   have hw := hl w (by simp)
   have := ih fun x hx => hl x (by simp [hx])
   simp only [List.map_cons,Wr.sizes,Zdq,Zdm,numW,Zcn,Wr.size,List.length_cons,e0]
   omega
 have hk := key r.wraps h4
 refine ⟨?_,?_,by omega⟩
 ·simp only [Zfr,Zdm,numW,Zcn,Wr.size,Wr.sizes,e0]
  omega
 ·simp only [Zg9,Zdm,numW,Zcn,Wr.size,Wr.sizes,e0]
  omega
theorem Zr0 (r : Rec) : Pr 53 [.agg r.cells] (sC (Zcp r)) := by
 have hm := Zkc r
 have hcl := Rec.closed r
 unfold Zcp
 cases hv : Z9 r with
 | false =>
  rw [hv] at hm
  refine Zl mixed Zr1 (by simp [Zo,Zn,hcl]) fun hl T => ?_
  unfold Znm
  have hbx : ∀ H : Heap,mkF H (vBox (.agg r.cells) H) = some (.c (.fp r.cells 0)) := fun H => Zbs hcl
  obtain ⟨seq,prev,kind,dev,wraps,tag⟩ := r
  simp only [Rec.cells] at hbx hm hcl ⊢
  simp only [go_sem,simprocAttr,hbx]
  refine Za hm ?_
  simp only [go_sem,simprocAttr]
  simp [Zf,Ze,Zi,Zg,Zh,Zd,Zc,Zb]
 | true =>
  rw [hv] at hm
  obtain ⟨z1,z2,z3⟩ := Zfw hv
  have hr := Z0v hv
  have hp : putD (Zfr r) = baL (putL (Zfr r)) := by unfold putD; rw [if_pos hr]
  have hput := Zx8 (Zfr r) (by omega)
  rw [hp] at hput
  have hlist := Zkw [numW r.seq,numW r.kind,numW r.dev,Zcn r.prev] (by have : Wr.sizes [numW r.seq,numW r.kind,numW r.dev,Zcn r.prev] ≤ (Zfr r).size := by { show _ ≤ 20 + Z2.size + Wr.sizes _; omega }; omega)
  refine Zl mixed Zr1 (by simp [Zo,Zn,hcl]) fun hl T => ?_
  unfold Znm
  have hbx : ∀ H : Heap,mkF H (vBox (.agg r.cells) H) = some (.c (.fp r.cells 0)) := fun H => Zbs hcl
  obtain ⟨seq,prev,kind,dev,wraps,tag⟩ := r
  simp only [Rec.cells] at hbx hm hcl ⊢
  simp only [Zfr] at hput hlist ⊢
  simp only [if_true]
  generalize baL (putL (Zdm [numW seq,numW kind,numW dev,Zcn prev])) = res at hput ⊢
  simp only [go_sem,simprocAttr,hbx]
  refine Za hm ?_
  simp only [go_sem,simprocAttr]
  refine Za (Zgo seq) ?_
  simp only [go_sem,simprocAttr]
  refine Za (Zgo kind) ?_
  simp only [go_sem,simprocAttr]
  refine Za (Zgo dev) ?_
  simp only [go_sem,simprocAttr]
  refine Za (Zk0 prev) ?_
  simp only [Zcw,Wr.rows] at hlist
  simp only [go_sem,simprocAttr,Wr.len4,Wr.closed]
  refine Za hlist ?_
  simp only [go_sem,simprocAttr]
  refine Za hput ?_
  simp only [go_sem,simprocAttr]
  simp [Zf,Ze,Zi,Zg,Zh,Zd,Zc,Zb]
theorem Z31 (a b : Wr) (H : Heap) : mkF H (vLit 4 2 (some [a.cells,b.cells]) H) = some (.c (Zcw [a,b])) := by
 rw [Z6b (Wr.closed a) (Wr.closed b)]
 simp only [Zcw,Wr.rows]
theorem Z3q (a : Wr) (H : Heap) : mkF H (vLit 4 1 (some [a.cells]) H) = some (.c (Zcw [a])) := by
 rw [Ze4 (Wr.closed a)]
 simp only [Zcw,Wr.rows]
theorem Z3y (a b c d f g : Wr) (H : Heap) : mkF H (vLit 4 6 (some [a.cells,b.cells,c.cells,d.cells,f.cells,g.cells]) H) = some (.c (Zcw [a,b,c,d,f,g])) := by
 have := Zox (H := H) (sz := 4) (n := 6) (rows := [a.cells,b.cells,c.cells,d.cells,f.cells,g.cells]) rfl (by simp [closedR,Wr.closed]) (by omega)
 rw [this]
 simp only [Zcw,Wr.rows]
set_option maxHeartbeats 1000000 in
theorem Zuc (r : Rec) : Pr 69 [.agg r.cells] (sC (putR r)) := by
 have hm := Zkc r
 have hcl := Rec.closed r
 unfold putR
 cases hv : Z9 r with
 | false =>
  rw [hv] at hm
  refine Zl mixed Zt2 (by simp [Zo,Zn,hcl]) fun hl T => ?_
  unfold Zpa
  have hbx : ∀ H : Heap,mkF H (vBox (.agg r.cells) H) = some (.c (.fp r.cells 0)) := fun H => Zbs hcl
  obtain ⟨seq,prev,kind,dev,wraps,tag⟩ := r
  simp only [Rec.cells] at hbx hm hcl ⊢
  simp only [go_sem,simprocAttr,hbx]
  refine Za hm ?_
  simp only [go_sem,simprocAttr]
  simp [Zf,Ze,Zi,Zg,Zh,Zd,Zc,Zb]
 | true =>
  rw [hv] at hm
  obtain ⟨z1,z2,z3⟩ := Zfw hv
  obtain ⟨y1,y2,y3,y4⟩ := Zin hv
  have hr := Z4h hv
  have hp : putD (Zg9 r) = baL (putL (Zg9 r)) := by unfold putD; rw [if_pos hr]
  have hput := Zx8 (Zg9 r) (by omega)
  rw [hp] at hput
  have hlw := Zkw (r.wraps.map Zdq) (by omega)
  have hlist := Zkw [numW r.seq,Zcn r.prev,numW r.kind,numW r.dev,Zdm (r.wraps.map Zdq),Zcn r.tag] (by have : Wr.sizes [numW r.seq,Zcn r.prev,numW r.kind,numW r.dev,Zdm (r.wraps.map Zdq),Zcn r.tag] ≤ (Zg9 r).size := by { show _ ≤ 20 + Z2.size + Wr.sizes _; omega }; omega)
  have hone : ∀ w ∈ r.wraps,Pr 100 [.c (Zcw [numW w.dev,Zcn w.box])] (.agg (Zdq w).cells) := fun w hw => by
   have hb := y4 w hw
   exact Zkw [numW w.dev,Zcn w.box] (by
    have e0 : Z2.size = 0 := rfl
    simp only [numW,Zcn,Wr.size,Wr.sizes,e0]; omega)
  refine Zl mixed Zt2 (by simp [Zo,Zn,hcl]) fun hl T => ?_
  unfold Zpa
  have hbx : ∀ H : Heap,mkF H (vBox (.agg r.cells) H) = some (.c (.fp r.cells 0)) := fun H => Zbs hcl
  obtain ⟨seq,prev,kind,dev,wraps,tag⟩ := r
  simp only [Rec.cells] at hbx hm hcl ⊢
  simp only [Zg9] at hput hlist hlw hone y3 ⊢
  simp only [if_true]
  generalize baL (putL (Zdm [numW seq,Zcn prev,numW kind,numW dev,Zdm (wraps.map Zdq),Zcn tag])) = res at hput ⊢
  generalize Zdm [numW seq,Zcn prev,numW kind,numW dev,Zdm (wraps.map Zdq),Zcn tag] = big at hput hlist
  generalize hLW : Zdm (wraps.map Zdq) = LW at hlist hlw
  have hml : (wraps.map Wrp.cells).length = wraps.length := by simp
  have loop : ∀ (rest pre : List Wrp) (e : Env) (H : Heap),wraps = pre ++ rest → e 1 = .c (.fp [.int .i64 seq,.str prev,.int .i64 kind,.int .i64 dev,Zx wraps,.str tag] 0) → e 10 = .c (.lst 2 (wraps.map Wrp.cells)) → e 11 = iC (wraps.map Wrp.cells).length → e 12 = iC pre.length → Acc 4 (Wr.rows (pre.map Zdq)) (e 3) H →
    Run (Zu Tryz.prog T) ⟨[.tmp 2],fun u E => Zf E u = some (sC res)⟩ [.loop Zj5,.blk 0,.code Zng] e H := by
   intro rest
   induction rest with
   | nil =>
    intro pre e H hp h1 h10 h11 h12 ha
    have hc := Zcf (f := Wrp.cells) hp
    rw [List.append_nil] at hp
    refine Zj ?_
    conv => enter [3,1]; unfold Zj5
    simp only [go_sem,simprocAttr,h11,h12,hc]
    unfold Zng
    refine Acc.fz_keep (sz := 4) (by simp only [go_sem,simprocAttr]; exact ha) fun e' H' k3 kc kp kb kl => ?_
    have g1 := kc 1 (.c (.fp [.int .i64 seq,.str prev,.int .i64 kind,.int .i64 dev,Zx wraps,.str tag] 0)) (by simp only [go_sem,simprocAttr,h1]) (by simpa [Zn,Zc] using hcl) (by omega)
    clear kc kp kb
    rw [← hp] at k3
    have k3' : e' 3 = .c (Zcw (wraps.map Zdq)) := k3
    simp only [go_sem,simprocAttr,g1]
    refine Za (Zgo seq) ?_
    simp only [go_sem,simprocAttr,g1]
    refine Za (Zk0 prev) ?_
    simp only [go_sem,simprocAttr,g1]
    refine Za (Zgo kind) ?_
    simp only [go_sem,simprocAttr,g1]
    refine Za (Zgo dev) ?_
    simp only [go_sem,simprocAttr,k3']
    refine Za hlw ?_
    simp only [go_sem,simprocAttr,g1]
    refine Za (Zk0 tag) ?_
    simp only [go_sem,simprocAttr,Wr.len4,Z3y]
    refine Za hlist ?_
    simp only [go_sem,simprocAttr]
    refine Za hput ?_
    simp only [go_sem,simprocAttr]
    simp [Zf,Ze,Zi,Zg,Zh,Zd,Zc,Zb]
   | cons w rest ih =>
    intro pre e H hp h1 h10 h11 h12 ha
    have hc := Zer (f := Wrp.cells) hp
    have hr := Zb6 (f := Wrp.cells) hp
    have hn := Zbt hp (by unfold maxLen; omega)
    have how := hone w (by rw [hp]; simp)
    have hpl : pre.length < wraps.length := by rw [hp]; simp
    obtain ⟨wd,wb⟩ := w
    refine Zj ?_
    conv => enter [3,1]; unfold Zj5
    simp only [go_sem,simprocAttr,h10,h11,h12,hc,hr,Wrp.cells]
    refine Za (Zgo wd) ?_
    simp only [go_sem,simprocAttr]
    refine Za (Zk0 wb) ?_
    simp only [go_sem,simprocAttr,Wr.len4,Z31]
    refine Za how ?_
    simp only [go_sem,simprocAttr,Wr.len4,Z3q]
    simp only [Zcw,Wr.rows]
    refine Acc.app_step (ha.snoc) (by rw [Wr.rows_len]; simp; omega) fun v' H' ha' => ?_
    simp only [go_sem,simprocAttr,h12,hn]
    refine ih (pre ++ [⟨wd,wb⟩]) _ _ (by rw [hp]; simp) ?_ ?_ ?_ ?_ ?_
    ·simp only [go_sem,simprocAttr,h1]
    ·simp only [go_sem,simprocAttr,h10]
    ·simp only [go_sem,simprocAttr,h11]
    ·simp only [go_sem,simprocAttr,hn]
    ·simp only [go_sem,simprocAttr]; simpa [Wr.rows_map] using ha'
  simp only [go_sem,simprocAttr,hbx]
  refine Za hm ?_
  simp only [go_sem,simprocAttr,Zx]
  refine loop wraps [] _ _ rfl ?_ ?_ ?_ ?_ ?_
  ·simp only [go_sem,simprocAttr,Zx]
  ·simp only [go_sem,simprocAttr]
  ·simp only [go_sem,simprocAttr]
  ·simp only [go_sem,simprocAttr,List.length_nil,Int.natCast_zero]
  ·simp only [go_sem,simprocAttr]; exact .nil
theorem Zsr (r : Rec) : Pr 98 [.agg r.cells] (sC (Zkv r)) := by
 have hp := Zuc r
 have hcl := Rec.closed r
 have hz : (putR r).size ≤ 1000000 := by
  unfold putR
  split
  ·rename_i hv
   obtain ⟨_,z2,_⟩ := Zfw hv
   have := Zkq (Zg9 r)
   rw [Zdp]; omega
  ·exact Nat.zero_le _
 have hs := Zon [putR r] (by simp) (by rw [Zep]; omega)
 rw [Zep] at hs
 have hh : Zkv r = sumD (putR r) := rfl
 rw [hh]
 generalize sumD (putR r) = S at hs ⊢
 refine Zl mixed Z2x (by simp [Zo,Zn,hcl]) fun hl T => ?_
 unfold Zuh
 have hbx : ∀ H : Heap,mkF H (vBox (.agg r.cells) H) = some (.c (.fp r.cells 0)) := fun H => Zbs hcl
 generalize putR r = p at hp hs
 obtain ⟨seq,prev,kind,dev,wraps,tag⟩ := r
 simp only [Rec.cells] at hbx hp hcl ⊢
 simp only [go_sem,simprocAttr,hbx]
 refine Za hp ?_
 simp only [go_sem,simprocAttr]
 refine Za hs ?_
 simp only [go_sem,simprocAttr]
 simp [Zf,Ze,Zi,Zg,Zh,Zd,Zc,Zb]
set_option maxHeartbeats 4000000 in
theorem Zhb (r : Rec) : Pr 61 [.agg r.cells] (bC (Z9 r)) := by
 have hcl := Rec.closed r
 obtain ⟨v,hv⟩ : ∃ v,v = Z9 r := ⟨_,rfl⟩
 rw [← hv]
 rw [Z4d] at hv
 obtain ⟨seq,prev,kind,dev,wraps,tag⟩ := r
 simp only [mayA,mayB,mayC,mayD,mayT] at hv
 have hA0 : (seq < 1 ∨ 1048576 < seq) → v = false := fun h => by
  have : (decide (1 ≤ seq) && decide (seq ≤ 1048576)) = false := by rcases h with h | h <;> simp <;> omega
  rw [hv,this]; rfl
 have hB0 : (¬ (prev.size : Int) = 32 ∧ (¬ seq = 1 ∨ ¬ prev = ⟨#[]⟩)) → v = false := fun h => by
  have : decide (prev.size = 32 ∨ seq = 1 ∧ prev = Z2) = false := decide_eq_false (fun h' => h'.elim (fun h' => h.1 (by omega)) (fun h' => h.2.elim (fun k => k h'.1) (fun k => k h'.2)))
  rw [hv,this,Bool.and_false]; rfl
 have hC0 : (¬ kind = 1 ∧ ¬ kind = 2) → v = false := fun h => by
  have : decide (kind = 1 ∨ kind = 2) = false := decide_eq_false (fun h' => h'.elim h.1 h.2)
  rw [hv,this,Bool.and_false]; rfl
 have hD0 : (dev < 0 ∨ 8 ≤ dev) → v = false := fun h => by
  have : decide (0 ≤ dev ∧ dev < 8) = false := decide_eq_false (by omega)
  rw [hv,this,Bool.and_false]; rfl
 have hT0 : (¬ (tag.size : Int) = 16 ∧ ¬ tag = ⟨#[]⟩) → v = false := fun h => by
  have : decide (tag.size = 16 ∨ tag = Z2) = false := decide_eq_false (fun h' => h'.elim (fun h' => h.1 (by omega)) h.2)
  rw [hv,this,Bool.and_false]; rfl
 have hok : (¬ seq < 1 ∧ ¬ 1048576 < seq) → ((prev.size : Int) = 32 ∨ seq = 1 ∧ prev = ⟨#[]⟩) → (kind = 1 ∨ kind = 2) → (¬ dev < 0 ∧ ¬ 8 ≤ dev) → ((tag.size : Int) = 16 ∨ tag = ⟨#[]⟩) → v = Zcz none wraps := fun a b c d t => by
  have e1 : decide (1 ≤ seq) = true := decide_eq_true (by omega)
  have e2 : decide (seq ≤ 1048576) = true := decide_eq_true (by omega)
  have e3 : decide (prev.size = 32 ∨ seq = 1 ∧ prev = Z2) = true := decide_eq_true (b.elim (fun b => .inl (by omega)) .inr)
  have e4 : decide (kind = 1 ∨ kind = 2) = true := decide_eq_true c
  have e5 : decide (0 ≤ dev ∧ dev < 8) = true := decide_eq_true (by omega)
  have e6 : decide (tag.size = 16 ∨ tag = Z2) = true := decide_eq_true (t.elim (fun t => .inl (by omega)) .inr)
  rw [hv,e1,e2,e3,e4,e5,e6]; rfl
 clear hv
 refine Zl mixed Zzq (by simp [Zo,Zn,hcl]) fun hl T => ?_
 have hlen : wraps.length ≤ maxLen := by
  have := hl _ (List.mem_cons_self ..) (Zx wraps) (by simp [Rec.cells])
  simpa [lenC,Zx] using this
 unfold Zqq
 simp only [Rec.cells] at hcl ⊢
 have hbx : ∀ H : Heap,mkF H (vBox (.agg [.int .i64 seq,.str prev,.int .i64 kind,.int .i64 dev,Zx wraps,.str tag]) H) = some (.c (.fp [.int .i64 seq,.str prev,.int .i64 kind,.int .i64 dev,Zx wraps,.str tag] 0)) := fun H => Zbs hcl
 have loop : ∀ (rest pre : List Wrp) (q : Option Int) (e : Env) (H : Heap),wraps = pre ++ rest → Zbjx wraps pre.length q → e 1 = .c (.fp [.int .i64 seq,.str prev,.int .i64 kind,.int .i64 dev,.lst 2 (wraps.map Wrp.cells),.str tag] 0) → e 3 = iC pre.length → Zcz q rest = v →
   Run (Zu Tryz.prog T) ⟨[.tmp 2],fun u E => Zf E u = some (bC v)⟩ [.loop Zc3,.blk 0,.code Zkk] e H := by
  intro rest
  induction rest with
  | nil =>
   intro pre q e H hp hq h1 h3 hm
   have hc := Zcf (f := Wrp.cells) hp
   refine Zj ?_
   conv => enter [3,1]; unfold Zc3
   simp only [go_sem,simprocAttr,h1,h3,hc]
   unfold Zkk
   simp only [go_sem,simprocAttr]
   simp only [Zcz] at hm
   rw [← hm]
   simp [Zf,Ze,Zi,Zg,Zh,Zd,Zc,Zb]
  | cons w rest ih =>
   intro pre q e H hp hq h1 h3 hm
   have hc := Zer (f := Wrp.cells) hp
   have hr := Zb6 (f := Wrp.cells) hp
   have hn := Zbt hp hlen
   obtain ⟨dv,bx⟩ := w
   by_cases d1 : dv < 0
   ·have hf : v = false := by
     rw [← hm]; simp only [Zcz]
     have : decide (0 ≤ dv ∧ dv < 8 ∧ bx.size ≤ 200) = false := decide_eq_false (by omega)
     rw [this]; rfl
    rw [hf]
    refine Zj ?_
    conv => enter [3,1]; unfold Zc3
    simp only [go_sem,simprocAttr,h1,h3,hc,hr,Wrp.cells,d1]
    simp [Zf,Ze,Zi,Zg,Zh,Zd,Zc,Zb]
   by_cases d2 : 8 ≤ dv
   ·have hf : v = false := by
     rw [← hm]; simp only [Zcz]
     have : decide (0 ≤ dv ∧ dv < 8 ∧ bx.size ≤ 200) = false := decide_eq_false (by omega)
     rw [this]; rfl
    rw [hf]
    refine Zj ?_
    conv => enter [3,1]; unfold Zc3
    simp only [go_sem,simprocAttr,h1,h3,hc,hr,Wrp.cells,d1,d2]
    simp [Zf,Ze,Zi,Zg,Zh,Zd,Zc,Zb]
   by_cases d4 : (200 : Int) < (bx.size : Int)
   ·have hf : v = false := by
     rw [← hm]; simp only [Zcz]
     have : decide (0 ≤ dv ∧ dv < 8 ∧ bx.size ≤ 200) = false := decide_eq_false (by omega)
     rw [this]; rfl
    rw [hf]
    refine Zj ?_
    conv => enter [3,1]; unfold Zc3
    simp only [go_sem,simprocAttr,h1,h3,hc,hr,Wrp.cells,d1,d2,d4]
    simp [Zf,Ze,Zi,Zg,Zh,Zd,Zc,Zb]
   have hd : decide (0 ≤ dv ∧ dv < 8 ∧ bx.size ≤ 200) = true := decide_eq_true (by omega)
   simp only [Zcz,hd,Bool.true_and] at hm
   rcases hq with ⟨hi,rfl⟩ | ⟨w,hi,hw,rfl⟩
   ·have c0 : ¬ ((0 : Int) < (pre.length : Int)) := by omega
    refine Zj ?_
    conv => enter [3,1]; unfold Zc3
    simp only [go_sem,simprocAttr,h1,h3,hc,hr,Wrp.cells,d1,d2,d4,c0,hn]
    refine ih (pre ++ [⟨dv,bx⟩]) (some dv) _ _ (by rw [hp]; simp) (.inr ⟨⟨dv,bx⟩,by simp,by rw [hp]; simp,rfl⟩) ?_ ?_ (by simpa using hm)
    ·simp only [go_sem,simprocAttr,h1]
    ·simp only [go_sem,simprocAttr,hn]
   ·have c0 : ((0 : Int) < (pre.length : Int)) := by omega
    have hpl : pre.length ≤ wraps.length := by rw [hp]; simp
    have wm : IntKind.wrap .i64 ((pre.length : Int) - 1) = ((pre.length - 1 : Nat) : Int) := by
     have hlen := hlen
     unfold maxLen at hlen
     rw [Zr (by omega)]; omega
    have hw' : (wraps.map Wrp.cells)[pre.length - 1]? = some w.cells := by rw [List.getElem?_map,hw]; rfl
    obtain ⟨wd,wb⟩ := w
    by_cases d3 : dv ≤ wd
    ·have hf : v = false := by
      rw [← hm]
      have : decide (wd < dv) = false := decide_eq_false (by omega)
      simp only [this,Bool.false_and]
     rw [hf]
     refine Zj ?_
     conv => enter [3,1]; unfold Zc3
     simp only [go_sem,simprocAttr,h1,h3,hc,hr,Wrp.cells,d1,d2,d4,c0,wm,hw',d3]
     simp [Zf,Ze,Zi,Zg,Zh,Zd,Zc,Zb]
    ·have : decide (wd < dv) = true := decide_eq_true (by omega)
     simp only [this,Bool.true_and] at hm
     refine Zj ?_
     conv => enter [3,1]; unfold Zc3
     simp only [go_sem,simprocAttr,h1,h3,hc,hr,Wrp.cells,d1,d2,d4,c0,wm,hw',d3,hn]
     refine ih (pre ++ [⟨dv,bx⟩]) (some dv) _ _ (by rw [hp]; simp) (.inr ⟨⟨dv,bx⟩,by simp,by rw [hp]; simp,rfl⟩) ?_ ?_ hm
     ·simp only [go_sem,simprocAttr,h1]
     ·simp only [go_sem,simprocAttr,hn]
 have z0 : ¬ (((#[] : Array UInt8).size : Int) = 32) := by decide
 have z1 : ¬ (((#[] : Array UInt8).size : Int) = 16) := by decide
 simp only [go_sem,simprocAttr,hbx]
 clear hbx hcl hl
 by_cases a1 : seq < 1
 ·simp only [go_sem,simprocAttr,a1,z0,z1]
  rw [hA0 (.inl a1)]
  simp [Zf,Ze,Zi,Zg,Zh,Zd,Zc,Zb]
 ·by_cases a2 : 1048576 < seq
  ·simp only [go_sem,simprocAttr,a1,a2,z0,z1]
   rw [hA0 (.inr a2)]
   simp [Zf,Ze,Zi,Zg,Zh,Zd,Zc,Zb]
  ·by_cases b1 : (prev.size : Int) = 32
   ·by_cases c1 : kind = 1
    ·by_cases d1 : dev < 0
     ·simp only [go_sem,simprocAttr,a1,a2,b1,c1,d1,z0,z1]
      rw [hD0 (.inl d1)]
      simp [Zf,Ze,Zi,Zg,Zh,Zd,Zc,Zb]
     ·by_cases d2 : 8 ≤ dev
      ·simp only [go_sem,simprocAttr,a1,a2,b1,c1,d1,d2,z0,z1]
       rw [hD0 (.inr d2)]
       simp [Zf,Ze,Zi,Zg,Zh,Zd,Zc,Zb]
      ·by_cases t1 : (tag.size : Int) = 16
       ·have hvv := hok ⟨a1,a2⟩ (.inl b1) (.inl c1) ⟨d1,d2⟩ (.inl t1)
        simp only [go_sem,simprocAttr,a1,a2,b1,c1,d1,d2,t1,z0,z1]
        refine loop wraps [] none _ _ rfl (.inl ⟨rfl,rfl⟩) ?_ ?_ hvv.symm
        ·simp only [go_sem,simprocAttr,Zx,a1,a2,b1,c1,d1,d2,t1]
        ·simp only [go_sem,simprocAttr,List.length_nil,Int.natCast_zero]
       ·by_cases t2 : tag = ⟨#[]⟩
        ·have hvv := hok ⟨a1,a2⟩ (.inl b1) (.inl c1) ⟨d1,d2⟩ (.inr t2)
         simp only [go_sem,simprocAttr,a1,a2,b1,c1,d1,d2,t1,t2,z0,z1]
         refine loop wraps [] none _ _ rfl (.inl ⟨rfl,rfl⟩) ?_ ?_ hvv.symm
         ·simp only [go_sem,simprocAttr,Zx,a1,a2,b1,c1,d1,d2,t1,t2]
         ·simp only [go_sem,simprocAttr,List.length_nil,Int.natCast_zero]
        ·simp only [go_sem,simprocAttr,a1,a2,b1,c1,d1,d2,t1,t2,z0,z1]
         rw [hT0 ⟨t1,t2⟩]
         simp [Zf,Ze,Zi,Zg,Zh,Zd,Zc,Zb]
    ·by_cases c2 : kind = 2
     ·by_cases d1 : dev < 0
      ·simp only [go_sem,simprocAttr,a1,a2,b1,c1,c2,d1,z0,z1]
       rw [hD0 (.inl d1)]
       simp [Zf,Ze,Zi,Zg,Zh,Zd,Zc,Zb]
      ·by_cases d2 : 8 ≤ dev
       ·simp only [go_sem,simprocAttr,a1,a2,b1,c1,c2,d1,d2,z0,z1]
        rw [hD0 (.inr d2)]
        simp [Zf,Ze,Zi,Zg,Zh,Zd,Zc,Zb]
       ·by_cases t1 : (tag.size : Int) = 16
        ·have hvv := hok ⟨a1,a2⟩ (.inl b1) (.inr c2) ⟨d1,d2⟩ (.inl t1)
         simp only [go_sem,simprocAttr,a1,a2,b1,c1,c2,d1,d2,t1,z0,z1]
         refine loop wraps [] none _ _ rfl (.inl ⟨rfl,rfl⟩) ?_ ?_ hvv.symm
         ·simp only [go_sem,simprocAttr,Zx,a1,a2,b1,c1,c2,d1,d2,t1]
         ·simp only [go_sem,simprocAttr,List.length_nil,Int.natCast_zero]
        ·by_cases t2 : tag = ⟨#[]⟩
         ·have hvv := hok ⟨a1,a2⟩ (.inl b1) (.inr c2) ⟨d1,d2⟩ (.inr t2)
          simp only [go_sem,simprocAttr,a1,a2,b1,c1,c2,d1,d2,t1,t2,z0,z1]
          refine loop wraps [] none _ _ rfl (.inl ⟨rfl,rfl⟩) ?_ ?_ hvv.symm
          ·simp only [go_sem,simprocAttr,Zx,a1,a2,b1,c1,c2,d1,d2,t1,t2]
          ·simp only [go_sem,simprocAttr,List.length_nil,Int.natCast_zero]
         ·simp only [go_sem,simprocAttr,a1,a2,b1,c1,c2,d1,d2,t1,t2,z0,z1]
          rw [hT0 ⟨t1,t2⟩]
          simp [Zf,Ze,Zi,Zg,Zh,Zd,Zc,Zb]
     ·simp only [go_sem,simprocAttr,a1,a2,b1,c1,c2,z0,z1]
      rw [hC0 ⟨c1,c2⟩]
      simp [Zf,Ze,Zi,Zg,Zh,Zd,Zc,Zb]
   ·by_cases b2 : seq = 1
    ·by_cases b3 : prev = ⟨#[]⟩
     ·by_cases c1 : kind = 1
      ·by_cases d1 : dev < 0
       ·simp only [go_sem,simprocAttr,a1,a2,b1,b2,b3,c1,d1,z0,z1]
        rw [hD0 (.inl d1)]
        simp [Zf,Ze,Zi,Zg,Zh,Zd,Zc,Zb]
       ·by_cases d2 : 8 ≤ dev
        ·simp only [go_sem,simprocAttr,a1,a2,b1,b2,b3,c1,d1,d2,z0,z1]
         rw [hD0 (.inr d2)]
         simp [Zf,Ze,Zi,Zg,Zh,Zd,Zc,Zb]
        ·by_cases t1 : (tag.size : Int) = 16
         ·have hvv := hok ⟨a1,a2⟩ (.inr ⟨b2,b3⟩) (.inl c1) ⟨d1,d2⟩ (.inl t1)
          simp only [go_sem,simprocAttr,a1,a2,b1,b2,b3,c1,d1,d2,t1,z0,z1]
          refine loop wraps [] none _ _ rfl (.inl ⟨rfl,rfl⟩) ?_ ?_ hvv.symm
          ·simp only [go_sem,simprocAttr,Zx,a1,a2,b1,b2,b3,c1,d1,d2,t1]
          ·simp only [go_sem,simprocAttr,List.length_nil,Int.natCast_zero]
         ·by_cases t2 : tag = ⟨#[]⟩
          ·have hvv := hok ⟨a1,a2⟩ (.inr ⟨b2,b3⟩) (.inl c1) ⟨d1,d2⟩ (.inr t2)
           simp only [go_sem,simprocAttr,a1,a2,b1,b2,b3,c1,d1,d2,t1,t2,z0,z1]
           refine loop wraps [] none _ _ rfl (.inl ⟨rfl,rfl⟩) ?_ ?_ hvv.symm
           ·simp only [go_sem,simprocAttr,Zx,a1,a2,b1,b2,b3,c1,d1,d2,t1,t2]
           ·simp only [go_sem,simprocAttr,List.length_nil,Int.natCast_zero]
          ·simp only [go_sem,simprocAttr,a1,a2,b1,b2,b3,c1,d1,d2,t1,t2,z0,z1]
           rw [hT0 ⟨t1,t2⟩]
           simp [Zf,Ze,Zi,Zg,Zh,Zd,Zc,Zb]
      ·by_cases c2 : kind = 2
       ·by_cases d1 : dev < 0
        ·simp only [go_sem,simprocAttr,a1,a2,b1,b2,b3,c1,c2,d1,z0,z1]
         rw [hD0 (.inl d1)]
         simp [Zf,Ze,Zi,Zg,Zh,Zd,Zc,Zb]
        ·by_cases d2 : 8 ≤ dev
         ·simp only [go_sem,simprocAttr,a1,a2,b1,b2,b3,c1,c2,d1,d2,z0,z1]
          rw [hD0 (.inr d2)]
          simp [Zf,Ze,Zi,Zg,Zh,Zd,Zc,Zb]
         ·by_cases t1 : (tag.size : Int) = 16
          ·have hvv := hok ⟨a1,a2⟩ (.inr ⟨b2,b3⟩) (.inr c2) ⟨d1,d2⟩ (.inl t1)
           simp only [go_sem,simprocAttr,a1,a2,b1,b2,b3,c1,c2,d1,d2,t1,z0,z1]
           refine loop wraps [] none _ _ rfl (.inl ⟨rfl,rfl⟩) ?_ ?_ hvv.symm
           ·simp only [go_sem,simprocAttr,Zx,a1,a2,b1,b2,b3,c1,c2,d1,d2,t1]
           ·simp only [go_sem,simprocAttr,List.length_nil,Int.natCast_zero]
          ·by_cases t2 : tag = ⟨#[]⟩
           ·have hvv := hok ⟨a1,a2⟩ (.inr ⟨b2,b3⟩) (.inr c2) ⟨d1,d2⟩ (.inr t2)
            simp only [go_sem,simprocAttr,a1,a2,b1,b2,b3,c1,c2,d1,d2,t1,t2,z0,z1]
            refine loop wraps [] none _ _ rfl (.inl ⟨rfl,rfl⟩) ?_ ?_ hvv.symm
            ·simp only [go_sem,simprocAttr,Zx,a1,a2,b1,b2,b3,c1,c2,d1,d2,t1,t2]
            ·simp only [go_sem,simprocAttr,List.length_nil,Int.natCast_zero]
           ·simp only [go_sem,simprocAttr,a1,a2,b1,b2,b3,c1,c2,d1,d2,t1,t2,z0,z1]
            rw [hT0 ⟨t1,t2⟩]
            simp [Zf,Ze,Zi,Zg,Zh,Zd,Zc,Zb]
       ·simp only [go_sem,simprocAttr,a1,a2,b1,b2,b3,c1,c2,z0,z1]
        rw [hC0 ⟨c1,c2⟩]
        simp [Zf,Ze,Zi,Zg,Zh,Zd,Zc,Zb]
     ·simp only [go_sem,simprocAttr,a1,a2,b1,b2,b3,z0,z1]
      rw [hB0 ⟨b1,.inr b3⟩]
      simp [Zf,Ze,Zi,Zg,Zh,Zd,Zc,Zb]
    ·simp only [go_sem,simprocAttr,a1,a2,b1,b2,z0,z1]
     rw [hB0 ⟨b1,.inl b2⟩]
     simp [Zf,Ze,Zi,Zg,Zh,Zd,Zc,Zb]
theorem Zx5 (r : Rec) : Pr 75 [.agg r.cells] (sC (Zcp r)) := by
 have hm := Zhb r
 have hcl := Rec.closed r
 unfold Zcp
 cases hv : Z9 r with
 | false =>
  rw [hv] at hm
  refine Zl mixed Zy0 (by simp [Zo,Zn,hcl]) fun hl T => ?_
  unfold Zsy
  have hbx : ∀ H : Heap,mkF H (vBox (.agg r.cells) H) = some (.c (.fp r.cells 0)) := fun H => Zbs hcl
  obtain ⟨seq,prev,kind,dev,wraps,tag⟩ := r
  simp only [Rec.cells] at hbx hm hcl ⊢
  simp only [go_sem,simprocAttr,hbx]
  refine Za hm ?_
  simp only [go_sem,simprocAttr]
  simp [Zf,Ze,Zi,Zg,Zh,Zd,Zc,Zb]
 | true =>
  rw [hv] at hm
  obtain ⟨z1,z2,z3⟩ := Zfw hv
  have hr := Z0v hv
  have hp : putD (Zfr r) = baL (putL (Zfr r)) := by unfold putD; rw [if_pos hr]
  have hput := Zt8 (Zfr r) (by omega)
  rw [hp] at hput
  have hlist := Zoa [numW r.seq,numW r.kind,numW r.dev,Zcn r.prev]
  refine Zl mixed Zy0 (by simp [Zo,Zn,hcl]) fun hl T => ?_
  unfold Zsy
  have hbx : ∀ H : Heap,mkF H (vBox (.agg r.cells) H) = some (.c (.fp r.cells 0)) := fun H => Zbs hcl
  obtain ⟨seq,prev,kind,dev,wraps,tag⟩ := r
  simp only [Rec.cells] at hbx hm hcl ⊢
  simp only [Zfr] at hput hlist ⊢
  simp only [if_true]
  generalize baL (putL (Zdm [numW seq,numW kind,numW dev,Zcn prev])) = res at hput ⊢
  simp only [go_sem,simprocAttr,hbx]
  refine Za hm ?_
  simp only [go_sem,simprocAttr]
  refine Za (Zii seq) ?_
  simp only [go_sem,simprocAttr]
  refine Za (Zii kind) ?_
  simp only [go_sem,simprocAttr]
  refine Za (Zii dev) ?_
  simp only [go_sem,simprocAttr]
  refine Za (Zog prev) ?_
  simp only [Zcw,Wr.rows] at hlist
  simp only [go_sem,simprocAttr,Wr.len4,Wr.closed]
  refine Za hlist ?_
  simp only [go_sem,simprocAttr]
  refine Za hput ?_
  simp only [go_sem,simprocAttr]
  simp [Zf,Ze,Zi,Zg,Zh,Zd,Zc,Zb]
set_option maxHeartbeats 1000000 in
theorem Zpu (r : Rec) : Pr 71 [.agg r.cells] (sC (putR r)) := by
 have hm := Zhb r
 have hcl := Rec.closed r
 unfold putR
 cases hv : Z9 r with
 | false =>
  rw [hv] at hm
  refine Zl mixed Zpm (by simp [Zo,Zn,hcl]) fun hl T => ?_
  unfold Zli
  have hbx : ∀ H : Heap,mkF H (vBox (.agg r.cells) H) = some (.c (.fp r.cells 0)) := fun H => Zbs hcl
  obtain ⟨seq,prev,kind,dev,wraps,tag⟩ := r
  simp only [Rec.cells] at hbx hm hcl ⊢
  simp only [go_sem,simprocAttr,hbx]
  refine Za hm ?_
  simp only [go_sem,simprocAttr]
  simp [Zf,Ze,Zi,Zg,Zh,Zd,Zc,Zb]
 | true =>
  rw [hv] at hm
  obtain ⟨z1,z2,z3⟩ := Zfw hv
  obtain ⟨y1,y2,y3,y4⟩ := Zin hv
  have hr := Z4h hv
  have hp : putD (Zg9 r) = baL (putL (Zg9 r)) := by unfold putD; rw [if_pos hr]
  have hput := Zt8 (Zg9 r) (by omega)
  rw [hp] at hput
  have hlw := Zoa (r.wraps.map Zdq)
  have hlist := Zoa [numW r.seq,Zcn r.prev,numW r.kind,numW r.dev,Zdm (r.wraps.map Zdq),Zcn r.tag]
  have hone : ∀ w : Wrp,Pr 116 [.c (Zcw [numW w.dev,Zcn w.box])] (.agg (Zdq w).cells) := fun w => Zoa [numW w.dev,Zcn w.box]
  refine Zl mixed Zpm (by simp [Zo,Zn,hcl]) fun hl T => ?_
  unfold Zli
  have hbx : ∀ H : Heap,mkF H (vBox (.agg r.cells) H) = some (.c (.fp r.cells 0)) := fun H => Zbs hcl
  obtain ⟨seq,prev,kind,dev,wraps,tag⟩ := r
  simp only [Rec.cells] at hbx hm hcl ⊢
  simp only [Zg9] at hput hlist hlw hone y3 ⊢
  simp only [if_true]
  generalize baL (putL (Zdm [numW seq,Zcn prev,numW kind,numW dev,Zdm (wraps.map Zdq),Zcn tag])) = res at hput ⊢
  generalize Zdm [numW seq,Zcn prev,numW kind,numW dev,Zdm (wraps.map Zdq),Zcn tag] = big at hput hlist
  generalize hLW : Zdm (wraps.map Zdq) = LW at hlist hlw
  have loop : ∀ (rest pre : List Wrp) (e : Env) (H : Heap),wraps = pre ++ rest → e 1 = .c (.fp [.int .i64 seq,.str prev,.int .i64 kind,.int .i64 dev,.lst 2 (wraps.map Wrp.cells),.str tag] 0) → e 4 = iC pre.length → Acc 4 (Wr.rows (pre.map Zdq)) (e 3) H →
    Run (Zu Tryz.prog T) ⟨[.tmp 2],fun u E => Zf E u = some (sC res)⟩ [.loop Zg8,.blk 0,.code Zkl] e H := by
   intro rest
   induction rest with
   | nil =>
    intro pre e H hp h1 h4 ha
    have hc := Zcf (f := Wrp.cells) hp
    rw [List.append_nil] at hp
    refine Zj ?_
    conv => enter [3,1]; unfold Zg8
    simp only [go_sem,simprocAttr,h1,h4,hc]
    unfold Zkl
    refine Acc.fz_keep (sz := 4) (by simp only [go_sem,simprocAttr]; exact ha) fun e' H' k3 kc kp kb kl => ?_
    have g1 := kc 1 (.c (.fp [.int .i64 seq,.str prev,.int .i64 kind,.int .i64 dev,.lst 2 (wraps.map Wrp.cells),.str tag] 0)) (by simp only [go_sem,simprocAttr,h1]) (by simpa [Zn,Zc,Zx] using hcl) (by omega)
    clear kc kp kb
    rw [← hp] at k3
    have k3' : e' 3 = .c (Zcw (wraps.map Zdq)) := k3
    simp only [go_sem,simprocAttr,g1]
    refine Za (Zii seq) ?_
    simp only [go_sem,simprocAttr,g1]
    refine Za (Zog prev) ?_
    simp only [go_sem,simprocAttr,g1]
    refine Za (Zii kind) ?_
    simp only [go_sem,simprocAttr,g1]
    refine Za (Zii dev) ?_
    simp only [go_sem,simprocAttr,k3']
    refine Za hlw ?_
    simp only [go_sem,simprocAttr,g1]
    refine Za (Zog tag) ?_
    simp only [go_sem,simprocAttr,Wr.len4,Z3y]
    refine Za hlist ?_
    simp only [go_sem,simprocAttr]
    refine Za hput ?_
    simp only [go_sem,simprocAttr]
    simp [Zf,Ze,Zi,Zg,Zh,Zd,Zc,Zb]
   | cons w rest ih =>
    intro pre e H hp h1 h4 ha
    have hc := Zer (f := Wrp.cells) hp
    have hr := Zb6 (f := Wrp.cells) hp
    have hn := Zbt hp (by unfold maxLen; omega)
    have how := hone w
    have hpl : pre.length < wraps.length := by rw [hp]; simp
    obtain ⟨wd,wb⟩ := w
    refine Zj ?_
    conv => enter [3,1]; unfold Zg8
    simp only [go_sem,simprocAttr,h1,h4,hc,hr,Wrp.cells]
    refine Za (Zii wd) ?_
    simp only [go_sem,simprocAttr,h1,h4,hr,Wrp.cells]
    refine Za (Zog wb) ?_
    simp only [go_sem,simprocAttr,Wr.len4,Z31]
    refine Za how ?_
    simp only [go_sem,simprocAttr,Wr.len4,Z3q]
    simp only [Zcw,Wr.rows]
    refine Acc.app_step ha (by rw [Wr.rows_len]; simp; omega) fun v' H' ha' => ?_
    simp only [go_sem,simprocAttr,h4,hn]
    refine ih (pre ++ [⟨wd,wb⟩]) _ _ (by rw [hp]; simp) ?_ ?_ ?_
    ·simp only [go_sem,simprocAttr,h1]
    ·simp only [go_sem,simprocAttr,hn]
    ·simp only [go_sem,simprocAttr]; simpa [Wr.rows_map] using ha'
  simp only [go_sem,simprocAttr,hbx]
  refine Za hm ?_
  simp only [go_sem,simprocAttr,Zx]
  refine loop wraps [] _ _ rfl ?_ ?_ ?_
  ·simp only [go_sem,simprocAttr,Zx]
  ·simp only [go_sem,simprocAttr,List.length_nil,Int.natCast_zero]
  ·simp only [go_sem,simprocAttr]; exact .nil
theorem Zvc (r : Rec) : (putR r).size ≤ 1000000 := by
 unfold putR
 split
 ·rename_i hv
  obtain ⟨_,z2,_⟩ := Zfw hv
  have := Zkq (Zg9 r)
  rw [Zdp]; omega
 ·exact Nat.zero_le _
theorem Zya (r : Rec) : Pr 27 [.agg r.cells] (sC (Zkv r)) := by
 have hp := Zpu r
 have hcl := Rec.closed r
 have hz := Zvc r
 have hs := Zq1 (putR r) (by omega)
 have hh : Zkv r = sumD (putR r) := rfl
 rw [hh]
 generalize sumD (putR r) = S at hs ⊢
 refine Zl mixed Z9p (by simp [Zo,Zn,hcl]) fun hl T => ?_
 unfold Z1x
 have hbx : ∀ H : Heap,mkF H (vBox (.agg r.cells) H) = some (.c (.fp r.cells 0)) := fun H => Zbs hcl
 generalize putR r = p at hp hs
 obtain ⟨seq,prev,kind,dev,wraps,tag⟩ := r
 simp only [Rec.cells] at hbx hp hcl ⊢
 simp only [go_sem,simprocAttr,hbx]
 refine Za hp ?_
 simp only [go_sem,simprocAttr]
 refine Za hs ?_
 simp only [go_sem,simprocAttr]
 simp [Zf,Ze,Zi,Zg,Zh,Zd,Zc,Zb]
theorem Zqr (log : List Rec) (epoch dev : Int) : Pr 18 [.c (Zw log),iC epoch,iC dev] (bC (memL log epoch dev)) := by
 refine Zl mixed Zbd7 (by simp [Zo,Zn,Zc,Zw,Z4]) fun hl T => ?_
 have hlen : log.length ≤ maxLen := by simp [Zd7,lenA,lenC,Zw] at hl; exact hl
 unfold Z6d
 dsimp only [Zw]
 have loop : ∀ (rest pre : List Rec) (b : Bool) (e : Env) (H : Heap),log = pre ++ rest → e 0 = .c (.lst 6 (log.map Rec.cells)) → e 1 = iC epoch → e 2 = iC dev → e 7 = bC b → e 8 = iC pre.length → rest.foldl (memF epoch dev) b = memB log epoch dev →
   Run (Zu Tryz.prog T) ⟨[.tmp 6],fun u E => Zf E u = some (bC (memL log epoch dev))⟩ [.loop Zm0,.blk 0,.code Zqz] e H := by
  intro rest
  induction rest with
  | nil =>
   intro pre b e H hp h0 h1 h2 h7 h8 hb
   have hc := Zcf (f := Rec.cells) hp
   refine Zj ?_
   conv => enter [3,1]; unfold Zm0
   simp only [go_sem,simprocAttr,h0,h8,hc]
   unfold Zqz
   simp only [List.foldl_nil] at hb
   unfold memL
   rw [← hb]
   cases b with
   | false =>
    simp only [go_sem,simprocAttr,h7]
    simp [Zf,Ze,Zi,Zg,Zh,Zd,Zc,Zb]
   | true =>
    by_cases d1 : 0 ≤ dev
    ·by_cases d2 : dev < 8
     ·simp only [go_sem,simprocAttr,h2,h7,d1,d2]
      simp [Zf,Ze,Zi,Zg,Zh,Zd,Zc,Zb,d1,d2]
     ·simp only [go_sem,simprocAttr,h2,h7,d1,d2]
      simp [Zf,Ze,Zi,Zg,Zh,Zd,Zc,Zb,d1,d2]
    ·simp only [go_sem,simprocAttr,h2,h7,d1]
     simp [Zf,Ze,Zi,Zg,Zh,Zd,Zc,Zb,d1]
  | cons r rest ih =>
   intro pre b e H hp h0 h1 h2 h7 h8 hb
   have hc := Zer (f := Rec.cells) hp
   have hr := Zb6 (f := Rec.cells) hp
   have hn : IntKind.wrap .i64 ((pre.length : Int) + 1) = ((pre.length + 1 : Nat) : Int) := by rw [Zbt hp hlen]; simp
   obtain ⟨seq,prev,kind,dv,wraps,tag⟩ := r
   have go : ∀ (b' : Bool) (e' : Env),memF epoch dev b ⟨seq,prev,kind,dv,wraps,tag⟩ = b' → e' 0 = .c (.lst 6 (log.map Rec.cells)) → e' 1 = iC epoch → e' 2 = iC dev → e' 7 = bC b' → e' 8 = iC ((pre.length + 1 : Nat) : Int) →
     Run (Zu Tryz.prog T) ⟨[.tmp 6],fun u E => Zf E u = some (bC (memL log epoch dev))⟩ [.loop Zm0,.blk 0,.code Zqz] e' H := fun b' e' hb' g0 g1 g2 g7 g8 =>
    ih (pre ++ [⟨seq,prev,kind,dv,wraps,tag⟩]) b' e' H (by rw [hp]; simp) g0 g1 g2 g7 (by rw [g8]; simp) (by rw [← hb']; exact hb)
   refine Zj ?_
   conv => enter [3,1]; unfold Zm0
   by_cases c1 : seq ≤ epoch
   ·by_cases c2 : dv = dev
    ·by_cases c3 : kind = 1
     ·simp only [go_sem,simprocAttr,h0,h1,h2,h8,hc,hr,Rec.cells,Zx,c1,c2,c3,hn]
      refine go true _ (by unfold memF; rw [if_pos ⟨c1,c2,.inl c3⟩]; exact decide_eq_true c3) ?_ ?_ ?_ ?_ ?_
      all_goals simp only [go_sem,simprocAttr,h0,h1,h2,hn]
     ·by_cases c4 : kind = 2
      ·simp only [go_sem,simprocAttr,h0,h1,h2,h8,hc,hr,Rec.cells,Zx,c1,c2,c3,c4,hn]
       refine go false _ (by unfold memF; rw [if_pos ⟨c1,c2,.inr c4⟩]; exact decide_eq_false c3) ?_ ?_ ?_ ?_ ?_
       all_goals simp only [go_sem,simprocAttr,h0,h1,h2,hn]
      ·simp only [go_sem,simprocAttr,h0,h1,h2,h8,hc,hr,Rec.cells,Zx,c1,c2,c3,c4,hn]
       refine go b _ (by unfold memF; rw [if_neg (fun h => h.2.2.elim c3 c4)]) ?_ ?_ ?_ ?_ ?_
       all_goals simp only [go_sem,simprocAttr,h0,h1,h2,h7,hn]
    ·simp only [go_sem,simprocAttr,h0,h1,h2,h8,hc,hr,Rec.cells,Zx,c1,c2,hn]
     refine go b _ (by unfold memF; rw [if_neg (fun h => c2 h.2.1)]) ?_ ?_ ?_ ?_ ?_
     all_goals simp only [go_sem,simprocAttr,h0,h1,h2,h7,hn]
   ·simp only [go_sem,simprocAttr,h0,h1,h2,h8,hc,hr,Rec.cells,Zx,c1,hn]
    refine go b _ (by unfold memF; rw [if_neg (fun h => c1 h.1)]) ?_ ?_ ?_ ?_ ?_
    all_goals simp only [go_sem,simprocAttr,h0,h1,h2,h7,hn]
 simp only [go_sem,simprocAttr]
 refine loop log [] false _ _ rfl ?_ ?_ ?_ ?_ ?_ rfl
 all_goals simp only [go_sem,simprocAttr,List.length_nil,Int.natCast_zero]
end Go.Proofs.YticmfblfghdkbaaGreatDoor.Eng
