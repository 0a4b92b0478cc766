/- Parts of this claim's proof, joined. No statement of the seat is proved here. -/
import Derived.Test.YticmfblfghdkbaaGreatDoorW19
set_option linter.unusedVariables false
set_option linter.unusedSimpArgs false
namespace Go.Proofs.YticmfblfghdkbaaGreatDoor.Eng
open Go
def mayA (r : Rec) : Bool := decide (1 ≤ r.seq) && decide (r.seq ≤ 1048576)
def mayB (r : Rec) : Bool := decide (r.prev.size = 32 ∨ r.seq = 1 ∧ r.prev = Zv)
def mayC (r : Rec) : Bool := decide (r.kind = 1 ∨ r.kind = 2)
def mayD (r : Rec) : Bool := decide (0 ≤ r.dev ∧ r.dev < 8)
def mayT (r : Rec) : Bool := decide (r.tag.size = 16 ∨ r.tag = Zv)
theorem Z0c (r : Rec) : Z0 r = (mayA r && mayB r && mayC r && mayD r && mayT r && Zcl none r.wraps) := by
 unfold Z0 mayA mayB mayC mayD mayT
 rw [Bool.decide_and]
theorem Zux {G : Prog} {p : Post} {k : List Itm} {e : Env} {H : Heap} {a b : ACode} {P : Env → Prop} (h1 : ∀ K : List Itm,(∀ e',P e' → Run G p K e' H) → Run G p (.code a :: K) e H) (h2 : ∀ e',P e' → Run G p (.code b :: k) e' H) : Run G p (.code (.seq a b) :: k) e H := by
 rw [Zuh]
 exact h1 _ h2
set_option maxHeartbeats 2000000 in
theorem Zi4 (r : Rec) : Pr 67 [.agg r.cells] (bC (Z0 r)) := by
 have hd := Zr4 r.dev
 have hw := Zt2 r.wraps
 rw [Z0c]
 have eA : mayA r = (decide (1 ≤ r.seq) && decide (r.seq ≤ 1048576)) := rfl
 have eD : mayD r = decide (0 ≤ r.dev ∧ r.dev < 8) := rfl
 rw [← eD] at hd
 obtain ⟨vB,hB⟩ : ∃ v,v = mayB r := ⟨_,rfl⟩
 obtain ⟨vC,hC⟩ : ∃ v,v = mayC r := ⟨_,rfl⟩
 obtain ⟨vT,hT⟩ : ∃ v,v = mayT r := ⟨_,rfl⟩
 unfold mayB at hB
 unfold mayC at hC
 unfold mayT at hT
 have eB : mayB r = vB := hB.symm
 have eC : mayC r = vC := hC.symm
 have eT : mayT r = vT := hT.symm
 rw [eA,eB,eC,eT]
 generalize mayD r = vD at hd ⊢
 generalize Zcl none r.wraps = vW at hw ⊢
 have hcl := Rec.closed r
 obtain ⟨seq,prev,kind,dev,wraps,tag⟩ := r
 simp only at hB hC hT hd hw ⊢
 refine Zl mixed Z1o (by simp [Zr,Zp,hcl]) fun hl T => ?_
 unfold Zsl
 simp only [Rec.cells] at hcl ⊢
 generalize Z8 wraps = W at hcl hw ⊢
 have kB : ((prev.size : Int) = 32 ∧ vB = true) ∨ (¬ (prev.size : Int) = 32 ∧ ((seq = 1 ∧ ((prev = ⟨#[]⟩ ∧ vB = true) ∨ (¬ prev = ⟨#[]⟩ ∧ vB = false))) ∨ (¬ seq = 1 ∧ vB = false))) := by
  rw [hB]
  by_cases p1 : (prev.size : Int) = 32
  ·left; exact ⟨p1,decide_eq_true (.inl (by omega))⟩
  ·right
   refine ⟨p1,?_⟩
   by_cases p2 : seq = 1
   ·left
    refine ⟨p2,?_⟩
    by_cases p3 : prev = ⟨#[]⟩
    ·left; exact ⟨p3,decide_eq_true (.inr ⟨p2,p3⟩)⟩
    ·right; exact ⟨p3,decide_eq_false (fun h => h.elim (fun h => p1 (by omega)) (fun h => p3 h.2))⟩
   ·right; exact ⟨p2,decide_eq_false (fun h => h.elim (fun h => p1 (by omega)) (fun h => p2 h.1))⟩
 have kC : (kind = 1 ∧ vC = true) ∨ (¬ kind = 1 ∧ ((kind = 2 ∧ vC = true) ∨ (¬ kind = 2 ∧ vC = false))) := by
  rw [hC]
  by_cases p1 : kind = 1
  ·left; exact ⟨p1,decide_eq_true (.inl p1)⟩
  ·right
   refine ⟨p1,?_⟩
   by_cases p2 : kind = 2
   ·left; exact ⟨p2,decide_eq_true (.inr p2)⟩
   ·right; exact ⟨p2,decide_eq_false (fun h => h.elim p1 p2)⟩
 have kT : (tag = ⟨#[]⟩ ∧ vT = true) ∨ (¬ tag = ⟨#[]⟩ ∧ (((tag.size : Int) = 16 ∧ vT = true) ∨ (¬ (tag.size : Int) = 16 ∧ vT = false))) := by
  rw [hT]
  by_cases p1 : tag = ⟨#[]⟩
  ·left; exact ⟨p1,decide_eq_true (.inr p1)⟩
  ·right
   refine ⟨p1,?_⟩
   by_cases p2 : (tag.size : Int) = 16
   ·left; exact ⟨p2,decide_eq_true (.inl (by omega))⟩
   ·right; exact ⟨p2,decide_eq_false (fun h => h.elim (fun h => p2 (by omega)) p1)⟩
 clear hB hC hT eA eB eC eD eT
 have hbx : ∀ H : Heap,mkF H (vBox (.agg [.int .i64 seq,.str prev,.int .i64 kind,.int .i64 dev,W,.str tag]) H) = some (.c (.fp [.int .i64 seq,.str prev,.int .i64 kind,.int .i64 dev,W,.str tag] 0)) := fun H => Zc7 hcl
 have tailA : ∀ (b : Bool),b = vD → Pr 108 [iC dev] (bC b) := fun b h => by rw [h]; exact hd
 obtain ⟨res,hres⟩ : ∃ res,res = (decide (1 ≤ seq) && decide (seq ≤ 1048576) && vB && vC && vD && vT && vW) := ⟨_,rfl⟩
 rw [← hres]
 have z0 : ¬ (((#[] : Array UInt8).size : Int) = 32) := by decide
 have z1 : ¬ (((#[] : Array UInt8).size : Int) = 16) := by decide
 obtain ⟨row,hrow⟩ : ∃ row : List Cell,row = [.int .i64 seq,.str prev,.int .i64 kind,.int .i64 dev,W,.str tag] := ⟨_,rfl⟩
 refine Zux (P := fun e => e 1 = .c (.fp row 0)) (fun K hK => ?_) fun e h1 => ?_
 ·rw [hrow] at hK
  simp only [go_sem,simprocAttr,hbx]
  refine hK _ ?_
  simp only [go_sem,simprocAttr]
 refine Zux (P := fun e => e 1 = .c (.fp row 0) ∧ e 3 = bC vB) (fun K hK => ?_) fun e ⟨h1,h3⟩ => ?_
 ·clear hd hw kC kT hbx hcl tailA hl hres
  rw [hrow] at h1
  rcases kB with ⟨p1,rfl⟩ | ⟨p1,⟨p2,⟨p3,rfl⟩ | ⟨p3,rfl⟩⟩ | ⟨p2,rfl⟩⟩
  ·simp only [go_sem,simprocAttr,h1,p1]
   refine hK _ ⟨?_,?_⟩ <;> simp only [go_sem,simprocAttr,h1,hrow]
  ·simp only [go_sem,simprocAttr,h1,p1,p2,p3,z0]
   refine hK _ ⟨?_,?_⟩ <;> simp only [go_sem,simprocAttr,h1,hrow]
  ·simp only [go_sem,simprocAttr,h1,p1,p2,p3,z0]
   refine hK _ ⟨?_,?_⟩ <;> simp only [go_sem,simprocAttr,h1,hrow]
  ·simp only [go_sem,simprocAttr,h1,p1,p2]
   refine hK _ ⟨?_,?_⟩ <;> simp only [go_sem,simprocAttr,h1,hrow]
 refine Zux (P := fun e => e 1 = .c (.fp row 0) ∧ e 3 = bC vB ∧ e 4 = bC vC) (fun K hK => ?_) fun e ⟨h1,h3,h4⟩ => ?_
 ·clear hd hw kB kT hbx hcl tailA hl hres
  rw [hrow] at h1
  rcases kC with ⟨q1,rfl⟩ | ⟨q1,⟨q2,rfl⟩ | ⟨q2,rfl⟩⟩
  ·simp only [go_sem,simprocAttr,h1,q1]
   refine hK _ ⟨?_,?_,?_⟩ <;> simp only [go_sem,simprocAttr,h1,h3,hrow]
  ·simp only [go_sem,simprocAttr,h1,q1,q2]
   refine hK _ ⟨?_,?_,?_⟩ <;> simp only [go_sem,simprocAttr,h1,h3,hrow]
  ·simp only [go_sem,simprocAttr,h1,q1,q2]
   refine hK _ ⟨?_,?_,?_⟩ <;> simp only [go_sem,simprocAttr,h1,h3,hrow]
 refine Zux (P := fun e => e 1 = .c (.fp row 0) ∧ e 3 = bC vB ∧ e 4 = bC vC ∧ e 5 = bC vT) (fun K hK => ?_) fun e ⟨h1,h3,h4,h5⟩ => ?_
 ·clear hd hw kB kC hbx hcl tailA hl hres
  rw [hrow] at h1
  rcases kT with ⟨r1,rfl⟩ | ⟨r1,⟨r2,rfl⟩ | ⟨r2,rfl⟩⟩
  ·simp only [go_sem,simprocAttr,h1,r1]
   refine hK _ ⟨?_,?_,?_,?_⟩ <;> simp only [go_sem,simprocAttr,h1,h3,h4,hrow]
  ·simp only [go_sem,simprocAttr,h1,r1,r2]
   refine hK _ ⟨?_,?_,?_,?_⟩ <;> simp only [go_sem,simprocAttr,h1,h3,h4,hrow]
  ·simp only [go_sem,simprocAttr,h1,r1,r2]
   refine hK _ ⟨?_,?_,?_,?_⟩ <;> simp only [go_sem,simprocAttr,h1,h3,h4,hrow]
 rw [hrow] at h1
 by_cases s1 : 1 ≤ seq
 ·by_cases s2 : seq ≤ 1048576
  ·cases vB with
   | false =>
    simp only [go_sem,simprocAttr,h1,h3,h4,h5,s1,s2]
    simp [Zf,Ze,Zk,Zg,Zh,Zd,Zc,Zb,hres,s1,s2]
   | true =>
    cases vC with
    | false =>
     simp only [go_sem,simprocAttr,h1,h3,h4,h5,s1,s2]
     simp [Zf,Ze,Zk,Zg,Zh,Zd,Zc,Zb,hres,s1,s2]
    | true =>
     simp only [go_sem,simprocAttr,h1,h3,h4,h5,s1,s2]
     refine Za hd ?_
     cases vD with
     | false =>
      simp only [go_sem,simprocAttr,h1,h5]
      simp [Zf,Ze,Zk,Zg,Zh,Zd,Zc,Zb,hres,s1,s2]
     | true =>
      cases vT with
      | false =>
       simp only [go_sem,simprocAttr,h1,h5]
       simp [Zf,Ze,Zk,Zg,Zh,Zd,Zc,Zb,hres,s1,s2]
      | true =>
       simp only [go_sem,simprocAttr,h1,h5]
       refine Za hw ?_
       simp only [go_sem,simprocAttr]
       simp [Zf,Ze,Zk,Zg,Zh,Zd,Zc,Zb,hres,s1,s2]
  ·simp only [go_sem,simprocAttr,h1,h3,h4,h5,s1,s2]
   simp [Zf,Ze,Zk,Zg,Zh,Zd,Zc,Zb,hres,s1,s2]
 ·simp only [go_sem,simprocAttr,h1,h3,h4,h5,s1]
  simp [Zf,Ze,Zk,Zg,Zh,Zd,Zc,Zb,hres,s1]
theorem Ze5 {r : Rec} (h : Z0 r = true) : (Ze4 r).size ≤ 1000000 ∧ (Zgk r).size ≤ 1000000 ∧ Wr.sizes (r.wraps.map Zda) ≤ 10000 := by
 obtain ⟨h1,h2,h3,h4⟩ := Zld h
 have e0 : Zv.size = 0 := rfl
 have key : ∀ l : List Wrp,(∀ w ∈ l,w.box.size ≤ 200) → Wr.sizes (l.map Zda) ≤ 300 * l.length := fun l => by
  induction l with
  | nil => intro _; simp [Wr.sizes]
  | cons w l ih =>
   intro hl
   have hw := hl w (by simp)
   have := ih fun x hx => hl x (by simp [hx])
   simp only [List.map_cons,Wr.sizes,Zda,Zc5,numW,Zcd,Wr.size,List.length_cons,e0]
   omega
 have hk := key r.wraps h4
 refine ⟨?_,?_,by omega⟩
 ·simp only [Ze4,Zc5,numW,Zcd,Wr.size,Wr.sizes,e0]
  omega
 ·simp only [Zgk,Zc5,numW,Zcd,Wr.size,Wr.sizes,e0]
  omega
theorem Zp7 (r : Rec) : Pr 53 [.agg r.cells] (sC (Zcr r)) := by
 have hm := Zi4 r
 have hcl := Rec.closed r
 unfold Zcr
 cases hv : Z0 r with
 | false =>
  rw [hv] at hm
  refine Zl mixed Zpw (by simp [Zr,Zp,hcl]) fun hl T => ?_
  unfold Zlt
  have hbx : ∀ H : Heap,mkF H (vBox (.agg r.cells) H) = some (.c (.fp r.cells 0)) := fun H => Zc7 hcl
  obtain ⟨seq,prev,kind,dev,wraps,tag⟩ := r
  simp only [Rec.cells] at hbx hm hcl ⊢
  simp only [go_sem,simprocAttr,hbx]
  refine Za hm ?_
  simp only [go_sem,simprocAttr]
  simp [Zf,Ze,Zk,Zg,Zh,Zd,Zc,Zb]
 | true =>
  rw [hv] at hm
  obtain ⟨z1,z2,z3⟩ := Ze5 hv
  have hr := Zxw hv
  have hp : putD (Ze4 r) = baL (putL (Ze4 r)) := by unfold putD; rw [if_pos hr]
  have hput := Zwf (Ze4 r) (by omega)
  rw [hp] at hput
  have hlist := Zjs [numW r.seq,numW r.kind,numW r.dev,Zcd r.prev] (by have : Wr.sizes [numW r.seq,numW r.kind,numW r.dev,Zcd r.prev] ≤ (Ze4 r).size := by { show _ ≤ 20 + Zv.size + Wr.sizes _; omega }; omega)
  refine Zl mixed Zpw (by simp [Zr,Zp,hcl]) fun hl T => ?_
  unfold Zlt
  have hbx : ∀ H : Heap,mkF H (vBox (.agg r.cells) H) = some (.c (.fp r.cells 0)) := fun H => Zc7 hcl
  obtain ⟨seq,prev,kind,dev,wraps,tag⟩ := r
  simp only [Rec.cells] at hbx hm hcl ⊢
  simp only [Ze4] at hput hlist ⊢
  simp only [if_true]
  generalize baL (putL (Zc5 [numW seq,numW kind,numW dev,Zcd prev])) = res at hput ⊢
  simp only [go_sem,simprocAttr,hbx]
  refine Za hm ?_
  simp only [go_sem,simprocAttr]
  refine Za (Zfu seq) ?_
  simp only [go_sem,simprocAttr]
  refine Za (Zfu kind) ?_
  simp only [go_sem,simprocAttr]
  refine Za (Zfu dev) ?_
  simp only [go_sem,simprocAttr]
  refine Za (Zj3 prev) ?_
  simp only [Zcn,Wr.rows] at hlist
  simp only [go_sem,simprocAttr,Wr.len4,Wr.closed]
  refine Za hlist ?_
  simp only [go_sem,simprocAttr]
  refine Za hput ?_
  simp only [go_sem,simprocAttr]
  simp [Zf,Ze,Zk,Zg,Zh,Zd,Zc,Zb]
theorem Z1n (a b : Wr) (H : Heap) : mkF H (vLit 4 2 (some [a.cells,b.cells]) H) = some (.c (Zcn [a,b])) := by
 rw [Z3i (Wr.closed a) (Wr.closed b)]
 simp only [Zcn,Wr.rows]
theorem Z1g (a : Wr) (H : Heap) : mkF H (vLit 4 1 (some [a.cells]) H) = some (.c (Zcn [a])) := by
 rw [Zhu (Wr.closed a)]
 simp only [Zcn,Wr.rows]
theorem Z0s (a b c d f g : Wr) (H : Heap) : mkF H (vLit 4 6 (some [a.cells,b.cells,c.cells,d.cells,f.cells,g.cells]) H) = some (.c (Zcn [a,b,c,d,f,g])) := by
 have := Zm3 (H := H) (sz := 4) (n := 6) (rows := [a.cells,b.cells,c.cells,d.cells,f.cells,g.cells]) rfl (by simp [closedR,Wr.closed]) (by omega)
 rw [this]
 simp only [Zcn,Wr.rows]
set_option maxHeartbeats 1000000 in
theorem Zrs (r : Rec) : Pr 69 [.agg r.cells] (sC (putR r)) := by
 have hm := Zi4 r
 have hcl := Rec.closed r
 unfold putR
 cases hv : Z0 r with
 | false =>
  rw [hv] at hm
  refine Zl mixed Zru (by simp [Zr,Zp,hcl]) fun hl T => ?_
  unfold Zm6
  have hbx : ∀ H : Heap,mkF H (vBox (.agg r.cells) H) = some (.c (.fp r.cells 0)) := fun H => Zc7 hcl
  obtain ⟨seq,prev,kind,dev,wraps,tag⟩ := r
  simp only [Rec.cells] at hbx hm hcl ⊢
  simp only [go_sem,simprocAttr,hbx]
  refine Za hm ?_
  simp only [go_sem,simprocAttr]
  simp [Zf,Ze,Zk,Zg,Zh,Zd,Zc,Zb]
 | true =>
  rw [hv] at hm
  obtain ⟨z1,z2,z3⟩ := Ze5 hv
  obtain ⟨y1,y2,y3,y4⟩ := Zld hv
  have hr := Z0f hv
  have hp : putD (Zgk r) = baL (putL (Zgk r)) := by unfold putD; rw [if_pos hr]
  have hput := Zwf (Zgk r) (by omega)
  rw [hp] at hput
  have hlw := Zjs (r.wraps.map Zda) (by omega)
  have hlist := Zjs [numW r.seq,Zcd r.prev,numW r.kind,numW r.dev,Zc5 (r.wraps.map Zda),Zcd r.tag] (by have : Wr.sizes [numW r.seq,Zcd r.prev,numW r.kind,numW r.dev,Zc5 (r.wraps.map Zda),Zcd r.tag] ≤ (Zgk r).size := by { show _ ≤ 20 + Zv.size + Wr.sizes _; omega }; omega)
  have hone : ∀ w ∈ r.wraps,Pr 100 [.c (Zcn [numW w.dev,Zcd w.box])] (.agg (Zda w).cells) := fun w hw => by
   have hb := y4 w hw
   exact Zjs [numW w.dev,Zcd w.box] (by
    have e0 : Zv.size = 0 := rfl
    simp only [numW,Zcd,Wr.size,Wr.sizes,e0]; omega)
  refine Zl mixed Zru (by simp [Zr,Zp,hcl]) fun hl T => ?_
  unfold Zm6
  have hbx : ∀ H : Heap,mkF H (vBox (.agg r.cells) H) = some (.c (.fp r.cells 0)) := fun H => Zc7 hcl
  obtain ⟨seq,prev,kind,dev,wraps,tag⟩ := r
  simp only [Rec.cells] at hbx hm hcl ⊢
  simp only [Zgk] at hput hlist hlw hone y3 ⊢
  simp only [if_true]
  generalize baL (putL (Zc5 [numW seq,Zcd prev,numW kind,numW dev,Zc5 (wraps.map Zda),Zcd tag])) = res at hput ⊢
  generalize Zc5 [numW seq,Zcd prev,numW kind,numW dev,Zc5 (wraps.map Zda),Zcd tag] = big at hput hlist
  generalize hLW : Zc5 (wraps.map Zda) = LW at hlist hlw
  have hml : (wraps.map Wrp.cells).length = wraps.length := by simp
  have loop : ∀ (rest pre : List Wrp) (e : Env) (H : Heap),wraps = pre ++ rest → e 1 = .c (.fp [.int .i64 seq,.str prev,.int .i64 kind,.int .i64 dev,Z8 wraps,.str tag] 0) → e 10 = .c (.lst 2 (wraps.map Wrp.cells)) → e 11 = iC (wraps.map Wrp.cells).length → e 12 = iC pre.length → Acc 4 (Wr.rows (pre.map Zda)) (e 3) H →
    Run (Zt Tryz.prog T) ⟨[.tmp 2],fun u E => Zf E u = some (sC res)⟩ [.loop Zi0,.blk 0,.code Zl0] e H := by
   intro rest
   induction rest with
   | nil =>
    intro pre e H hp h1 h10 h11 h12 ha
    have hc := Zdh (f := Wrp.cells) hp
    rw [List.append_nil] at hp
    refine Zi ?_
    conv => enter [3,1]; unfold Zi0
    simp only [go_sem,simprocAttr,h11,h12,hc]
    unfold Zl0
    refine Acc.fz_keep (sz := 4) (by simp only [go_sem,simprocAttr]; exact ha) fun e' H' k3 kc kp kb kl => ?_
    have g1 := kc 1 (.c (.fp [.int .i64 seq,.str prev,.int .i64 kind,.int .i64 dev,Z8 wraps,.str tag] 0)) (by simp only [go_sem,simprocAttr,h1]) (by simpa [Zp,Zc] using hcl) (by omega)
    clear kc kp kb
    rw [← hp] at k3
    have k3' : e' 3 = .c (Zcn (wraps.map Zda)) := k3
    simp only [go_sem,simprocAttr,g1]
    refine Za (Zfu seq) ?_
    simp only [go_sem,simprocAttr,g1]
    refine Za (Zj3 prev) ?_
    simp only [go_sem,simprocAttr,g1]
    refine Za (Zfu kind) ?_
    simp only [go_sem,simprocAttr,g1]
    refine Za (Zfu dev) ?_
    simp only [go_sem,simprocAttr,k3']
    refine Za hlw ?_
    simp only [go_sem,simprocAttr,g1]
    refine Za (Zj3 tag) ?_
    simp only [go_sem,simprocAttr,Wr.len4,Z0s]
    refine Za hlist ?_
    simp only [go_sem,simprocAttr]
    refine Za hput ?_
    simp only [go_sem,simprocAttr]
    simp [Zf,Ze,Zk,Zg,Zh,Zd,Zc,Zb]
   | cons w rest ih =>
    intro pre e H hp h1 h10 h11 h12 ha
    have hc := Zhy (f := Wrp.cells) hp
    have hr := Zee (f := Wrp.cells) hp
    have hn := Zcy hp (by unfold maxLen; omega)
    have how := hone w (by rw [hp]; simp)
    have hpl : pre.length < wraps.length := by rw [hp]; simp
    obtain ⟨wd,wb⟩ := w
    refine Zi ?_
    conv => enter [3,1]; unfold Zi0
    simp only [go_sem,simprocAttr,h10,h11,h12,hc,hr,Wrp.cells]
    refine Za (Zfu wd) ?_
    simp only [go_sem,simprocAttr]
    refine Za (Zj3 wb) ?_
    simp only [go_sem,simprocAttr,Wr.len4,Z1n]
    refine Za how ?_
    simp only [go_sem,simprocAttr,Wr.len4,Z1g]
    simp only [Zcn,Wr.rows]
    refine Acc.app_step (ha.snoc) (by rw [Wr.rows_len]; simp; omega) fun v' H' ha' => ?_
    simp only [go_sem,simprocAttr,h12,hn]
    refine ih (pre ++ [⟨wd,wb⟩]) _ _ (by rw [hp]; simp) ?_ ?_ ?_ ?_ ?_
    ·simp only [go_sem,simprocAttr,h1]
    ·simp only [go_sem,simprocAttr,h10]
    ·simp only [go_sem,simprocAttr,h11]
    ·simp only [go_sem,simprocAttr,hn]
    ·simp only [go_sem,simprocAttr]; simpa [Wr.rows_map] using ha'
  simp only [go_sem,simprocAttr,hbx]
  refine Za hm ?_
  simp only [go_sem,simprocAttr,Z8]
  refine loop wraps [] _ _ rfl ?_ ?_ ?_ ?_ ?_
  ·simp only [go_sem,simprocAttr,Z8]
  ·simp only [go_sem,simprocAttr]
  ·simp only [go_sem,simprocAttr]
  ·simp only [go_sem,simprocAttr,List.length_nil,Int.natCast_zero]
  ·simp only [go_sem,simprocAttr]; exact .nil
theorem Zqj (r : Rec) : Pr 98 [.agg r.cells] (sC (Zj8 r)) := by
 have hp := Zrs r
 have hcl := Rec.closed r
 have hz : (putR r).size ≤ 1000000 := by
  unfold putR
  split
  ·rename_i hv
   obtain ⟨_,z2,_⟩ := Ze5 hv
   have := Zjf (Zgk r)
   rw [Zc9]; omega
  ·exact Nat.zero_le _
 have hs := Zmr [putR r] (by simp) (by rw [Zd3]; omega)
 rw [Zd3] at hs
 have hh : Zj8 r = sumD (putR r) := rfl
 rw [hh]
 generalize sumD (putR r) = S at hs ⊢
 refine Zl mixed Zzj (by simp [Zr,Zp,hcl]) fun hl T => ?_
 unfold Zr2
 have hbx : ∀ H : Heap,mkF H (vBox (.agg r.cells) H) = some (.c (.fp r.cells 0)) := fun H => Zc7 hcl
 generalize putR r = p at hp hs
 obtain ⟨seq,prev,kind,dev,wraps,tag⟩ := r
 simp only [Rec.cells] at hbx hp hcl ⊢
 simp only [go_sem,simprocAttr,hbx]
 refine Za hp ?_
 simp only [go_sem,simprocAttr]
 refine Za hs ?_
 simp only [go_sem,simprocAttr]
 simp [Zf,Ze,Zk,Zg,Zh,Zd,Zc,Zb]
set_option maxHeartbeats 4000000 in
theorem Zgf (r : Rec) : Pr 61 [.agg r.cells] (bC (Z0 r)) := by
 have hcl := Rec.closed r
 obtain ⟨v,hv⟩ : ∃ v,v = Z0 r := ⟨_,rfl⟩
 rw [← hv]
 rw [Z0c] at hv
 obtain ⟨seq,prev,kind,dev,wraps,tag⟩ := r
 simp only [mayA,mayB,mayC,mayD,mayT] at hv
 have hA0 : (seq < 1 ∨ 1048576 < seq) → v = false := fun h => by
  have : (decide (1 ≤ seq) && decide (seq ≤ 1048576)) = false := by rcases h with h | h <;> simp <;> omega
  rw [hv,this]; rfl
 have hB0 : (¬ (prev.size : Int) = 32 ∧ (¬ seq = 1 ∨ ¬ prev = ⟨#[]⟩)) → v = false := fun h => by
  have : decide (prev.size = 32 ∨ seq = 1 ∧ prev = Zv) = false := decide_eq_false (fun h' => h'.elim (fun h' => h.1 (by omega)) (fun h' => h.2.elim (fun k => k h'.1) (fun k => k h'.2)))
  rw [hv,this,Bool.and_false]; rfl
 have hC0 : (¬ kind = 1 ∧ ¬ kind = 2) → v = false := fun h => by
  have : decide (kind = 1 ∨ kind = 2) = false := decide_eq_false (fun h' => h'.elim h.1 h.2)
  rw [hv,this,Bool.and_false]; rfl
 have hD0 : (dev < 0 ∨ 8 ≤ dev) → v = false := fun h => by
  have : decide (0 ≤ dev ∧ dev < 8) = false := decide_eq_false (by omega)
  rw [hv,this,Bool.and_false]; rfl
 have hT0 : (¬ (tag.size : Int) = 16 ∧ ¬ tag = ⟨#[]⟩) → v = false := fun h => by
  have : decide (tag.size = 16 ∨ tag = Zv) = false := decide_eq_false (fun h' => h'.elim (fun h' => h.1 (by omega)) h.2)
  rw [hv,this,Bool.and_false]; rfl
 have hok : (¬ seq < 1 ∧ ¬ 1048576 < seq) → ((prev.size : Int) = 32 ∨ seq = 1 ∧ prev = ⟨#[]⟩) → (kind = 1 ∨ kind = 2) → (¬ dev < 0 ∧ ¬ 8 ≤ dev) → ((tag.size : Int) = 16 ∨ tag = ⟨#[]⟩) → v = Zcl none wraps := fun a b c d t => by
  have e1 : decide (1 ≤ seq) = true := decide_eq_true (by omega)
  have e2 : decide (seq ≤ 1048576) = true := decide_eq_true (by omega)
  have e3 : decide (prev.size = 32 ∨ seq = 1 ∧ prev = Zv) = true := decide_eq_true (b.elim (fun b => .inl (by omega)) .inr)
  have e4 : decide (kind = 1 ∨ kind = 2) = true := decide_eq_true c
  have e5 : decide (0 ≤ dev ∧ dev < 8) = true := decide_eq_true (by omega)
  have e6 : decide (tag.size = 16 ∨ tag = Zv) = true := decide_eq_true (t.elim (fun t => .inl (by omega)) .inr)
  rw [hv,e1,e2,e3,e4,e5,e6]; rfl
 clear hv
 refine Zl mixed Zw0 (by simp [Zr,Zp,hcl]) fun hl T => ?_
 have hlen : wraps.length ≤ maxLen := by
  have := hl _ (List.mem_cons_self ..) (Z8 wraps) (by simp [Rec.cells])
  simpa [lenC,Z8] using this
 unfold Zoy
 simp only [Rec.cells] at hcl ⊢
 have hbx : ∀ H : Heap,mkF H (vBox (.agg [.int .i64 seq,.str prev,.int .i64 kind,.int .i64 dev,Z8 wraps,.str tag]) H) = some (.c (.fp [.int .i64 seq,.str prev,.int .i64 kind,.int .i64 dev,Z8 wraps,.str tag] 0)) := fun H => Zc7 hcl
 have loop : ∀ (rest pre : List Wrp) (q : Option Int) (e : Env) (H : Heap),wraps = pre ++ rest → Zbgp wraps pre.length q → e 1 = .c (.fp [.int .i64 seq,.str prev,.int .i64 kind,.int .i64 dev,.lst 2 (wraps.map Wrp.cells),.str tag] 0) → e 3 = iC pre.length → Zcl q rest = v →
   Run (Zt Tryz.prog T) ⟨[.tmp 2],fun u E => Zf E u = some (bC v)⟩ [.loop Zct,.blk 0,.code Zi7] e H := by
  intro rest
  induction rest with
  | nil =>
   intro pre q e H hp hq h1 h3 hm
   have hc := Zdh (f := Wrp.cells) hp
   refine Zi ?_
   conv => enter [3,1]; unfold Zct
   simp only [go_sem,simprocAttr,h1,h3,hc]
   unfold Zi7
   simp only [go_sem,simprocAttr]
   simp only [Zcl] at hm
   rw [← hm]
   simp [Zf,Ze,Zk,Zg,Zh,Zd,Zc,Zb]
  | cons w rest ih =>
   intro pre q e H hp hq h1 h3 hm
   have hc := Zhy (f := Wrp.cells) hp
   have hr := Zee (f := Wrp.cells) hp
   have hn := Zcy hp hlen
   obtain ⟨dv,bx⟩ := w
   by_cases d1 : dv < 0
   ·have hf : v = false := by
     rw [← hm]; simp only [Zcl]
     have : decide (0 ≤ dv ∧ dv < 8 ∧ bx.size ≤ 200) = false := decide_eq_false (by omega)
     rw [this]; rfl
    rw [hf]
    refine Zi ?_
    conv => enter [3,1]; unfold Zct
    simp only [go_sem,simprocAttr,h1,h3,hc,hr,Wrp.cells,d1]
    simp [Zf,Ze,Zk,Zg,Zh,Zd,Zc,Zb]
   by_cases d2 : 8 ≤ dv
   ·have hf : v = false := by
     rw [← hm]; simp only [Zcl]
     have : decide (0 ≤ dv ∧ dv < 8 ∧ bx.size ≤ 200) = false := decide_eq_false (by omega)
     rw [this]; rfl
    rw [hf]
    refine Zi ?_
    conv => enter [3,1]; unfold Zct
    simp only [go_sem,simprocAttr,h1,h3,hc,hr,Wrp.cells,d1,d2]
    simp [Zf,Ze,Zk,Zg,Zh,Zd,Zc,Zb]
   by_cases d4 : (200 : Int) < (bx.size : Int)
   ·have hf : v = false := by
     rw [← hm]; simp only [Zcl]
     have : decide (0 ≤ dv ∧ dv < 8 ∧ bx.size ≤ 200) = false := decide_eq_false (by omega)
     rw [this]; rfl
    rw [hf]
    refine Zi ?_
    conv => enter [3,1]; unfold Zct
    simp only [go_sem,simprocAttr,h1,h3,hc,hr,Wrp.cells,d1,d2,d4]
    simp [Zf,Ze,Zk,Zg,Zh,Zd,Zc,Zb]
   have hd : decide (0 ≤ dv ∧ dv < 8 ∧ bx.size ≤ 200) = true := decide_eq_true (by omega)
   simp only [Zcl,hd,Bool.true_and] at hm
   rcases hq with ⟨hi,rfl⟩ | ⟨w,hi,hw,rfl⟩
   ·have c0 : ¬ ((0 : Int) < (pre.length : Int)) := by omega
    refine Zi ?_
    conv => enter [3,1]; unfold Zct
    simp only [go_sem,simprocAttr,h1,h3,hc,hr,Wrp.cells,d1,d2,d4,c0,hn]
    refine ih (pre ++ [⟨dv,bx⟩]) (some dv) _ _ (by rw [hp]; simp) (.inr ⟨⟨dv,bx⟩,by simp,by rw [hp]; simp,rfl⟩) ?_ ?_ (by simpa using hm)
    ·simp only [go_sem,simprocAttr,h1]
    ·simp only [go_sem,simprocAttr,hn]
   ·have c0 : ((0 : Int) < (pre.length : Int)) := by omega
    have hpl : pre.length ≤ wraps.length := by rw [hp]; simp
    have wm : IntKind.wrap .i64 ((pre.length : Int) - 1) = ((pre.length - 1 : Nat) : Int) := by
     have hlen := hlen
     unfold maxLen at hlen
     rw [Zn (by omega)]; omega
    have hw' : (wraps.map Wrp.cells)[pre.length - 1]? = some w.cells := by rw [List.getElem?_map,hw]; rfl
    obtain ⟨wd,wb⟩ := w
    by_cases d3 : dv ≤ wd
    ·have hf : v = false := by
      rw [← hm]
      have : decide (wd < dv) = false := decide_eq_false (by omega)
      simp only [this,Bool.false_and]
     rw [hf]
     refine Zi ?_
     conv => enter [3,1]; unfold Zct
     simp only [go_sem,simprocAttr,h1,h3,hc,hr,Wrp.cells,d1,d2,d4,c0,wm,hw',d3]
     simp [Zf,Ze,Zk,Zg,Zh,Zd,Zc,Zb]
    ·have : decide (wd < dv) = true := decide_eq_true (by omega)
     simp only [this,Bool.true_and] at hm
     refine Zi ?_
     conv => enter [3,1]; unfold Zct
     simp only [go_sem,simprocAttr,h1,h3,hc,hr,Wrp.cells,d1,d2,d4,c0,wm,hw',d3,hn]
     refine ih (pre ++ [⟨dv,bx⟩]) (some dv) _ _ (by rw [hp]; simp) (.inr ⟨⟨dv,bx⟩,by simp,by rw [hp]; simp,rfl⟩) ?_ ?_ hm
     ·simp only [go_sem,simprocAttr,h1]
     ·simp only [go_sem,simprocAttr,hn]
 have z0 : ¬ (((#[] : Array UInt8).size : Int) = 32) := by decide
 have z1 : ¬ (((#[] : Array UInt8).size : Int) = 16) := by decide
 simp only [go_sem,simprocAttr,hbx]
 clear hbx hcl hl
 by_cases a1 : seq < 1
 ·simp only [go_sem,simprocAttr,a1,z0,z1]
  rw [hA0 (.inl a1)]
  simp [Zf,Ze,Zk,Zg,Zh,Zd,Zc,Zb]
 ·by_cases a2 : 1048576 < seq
  ·simp only [go_sem,simprocAttr,a1,a2,z0,z1]
   rw [hA0 (.inr a2)]
   simp [Zf,Ze,Zk,Zg,Zh,Zd,Zc,Zb]
  ·by_cases b1 : (prev.size : Int) = 32
   ·by_cases c1 : kind = 1
    ·by_cases d1 : dev < 0
     ·simp only [go_sem,simprocAttr,a1,a2,b1,c1,d1,z0,z1]
      rw [hD0 (.inl d1)]
      simp [Zf,Ze,Zk,Zg,Zh,Zd,Zc,Zb]
     ·by_cases d2 : 8 ≤ dev
      ·simp only [go_sem,simprocAttr,a1,a2,b1,c1,d1,d2,z0,z1]
       rw [hD0 (.inr d2)]
       simp [Zf,Ze,Zk,Zg,Zh,Zd,Zc,Zb]
      ·by_cases t1 : (tag.size : Int) = 16
       ·have hvv := hok ⟨a1,a2⟩ (.inl b1) (.inl c1) ⟨d1,d2⟩ (.inl t1)
        simp only [go_sem,simprocAttr,a1,a2,b1,c1,d1,d2,t1,z0,z1]
        refine loop wraps [] none _ _ rfl (.inl ⟨rfl,rfl⟩) ?_ ?_ hvv.symm
        ·simp only [go_sem,simprocAttr,Z8,a1,a2,b1,c1,d1,d2,t1]
        ·simp only [go_sem,simprocAttr,List.length_nil,Int.natCast_zero]
       ·by_cases t2 : tag = ⟨#[]⟩
        ·have hvv := hok ⟨a1,a2⟩ (.inl b1) (.inl c1) ⟨d1,d2⟩ (.inr t2)
         simp only [go_sem,simprocAttr,a1,a2,b1,c1,d1,d2,t1,t2,z0,z1]
         refine loop wraps [] none _ _ rfl (.inl ⟨rfl,rfl⟩) ?_ ?_ hvv.symm
         ·simp only [go_sem,simprocAttr,Z8,a1,a2,b1,c1,d1,d2,t1,t2]
         ·simp only [go_sem,simprocAttr,List.length_nil,Int.natCast_zero]
        ·simp only [go_sem,simprocAttr,a1,a2,b1,c1,d1,d2,t1,t2,z0,z1]
         rw [hT0 ⟨t1,t2⟩]
         simp [Zf,Ze,Zk,Zg,Zh,Zd,Zc,Zb]
    ·by_cases c2 : kind = 2
     ·by_cases d1 : dev < 0
      ·simp only [go_sem,simprocAttr,a1,a2,b1,c1,c2,d1,z0,z1]
       rw [hD0 (.inl d1)]
       simp [Zf,Ze,Zk,Zg,Zh,Zd,Zc,Zb]
      ·by_cases d2 : 8 ≤ dev
       ·simp only [go_sem,simprocAttr,a1,a2,b1,c1,c2,d1,d2,z0,z1]
        rw [hD0 (.inr d2)]
        simp [Zf,Ze,Zk,Zg,Zh,Zd,Zc,Zb]
       ·by_cases t1 : (tag.size : Int) = 16
        ·have hvv := hok ⟨a1,a2⟩ (.inl b1) (.inr c2) ⟨d1,d2⟩ (.inl t1)
         simp only [go_sem,simprocAttr,a1,a2,b1,c1,c2,d1,d2,t1,z0,z1]
         refine loop wraps [] none _ _ rfl (.inl ⟨rfl,rfl⟩) ?_ ?_ hvv.symm
         ·simp only [go_sem,simprocAttr,Z8,a1,a2,b1,c1,c2,d1,d2,t1]
         ·simp only [go_sem,simprocAttr,List.length_nil,Int.natCast_zero]
        ·by_cases t2 : tag = ⟨#[]⟩
         ·have hvv := hok ⟨a1,a2⟩ (.inl b1) (.inr c2) ⟨d1,d2⟩ (.inr t2)
          simp only [go_sem,simprocAttr,a1,a2,b1,c1,c2,d1,d2,t1,t2,z0,z1]
          refine loop wraps [] none _ _ rfl (.inl ⟨rfl,rfl⟩) ?_ ?_ hvv.symm
          ·simp only [go_sem,simprocAttr,Z8,a1,a2,b1,c1,c2,d1,d2,t1,t2]
          ·simp only [go_sem,simprocAttr,List.length_nil,Int.natCast_zero]
         ·simp only [go_sem,simprocAttr,a1,a2,b1,c1,c2,d1,d2,t1,t2,z0,z1]
          rw [hT0 ⟨t1,t2⟩]
          simp [Zf,Ze,Zk,Zg,Zh,Zd,Zc,Zb]
     ·simp only [go_sem,simprocAttr,a1,a2,b1,c1,c2,z0,z1]
      rw [hC0 ⟨c1,c2⟩]
      simp [Zf,Ze,Zk,Zg,Zh,Zd,Zc,Zb]
   ·by_cases b2 : seq = 1
    ·by_cases b3 : prev = ⟨#[]⟩
     ·by_cases c1 : kind = 1
      ·by_cases d1 : dev < 0
       ·simp only [go_sem,simprocAttr,a1,a2,b1,b2,b3,c1,d1,z0,z1]
        rw [hD0 (.inl d1)]
        simp [Zf,Ze,Zk,Zg,Zh,Zd,Zc,Zb]
       ·by_cases d2 : 8 ≤ dev
        ·simp only [go_sem,simprocAttr,a1,a2,b1,b2,b3,c1,d1,d2,z0,z1]
         rw [hD0 (.inr d2)]
         simp [Zf,Ze,Zk,Zg,Zh,Zd,Zc,Zb]
        ·by_cases t1 : (tag.size : Int) = 16
         ·have hvv := hok ⟨a1,a2⟩ (.inr ⟨b2,b3⟩) (.inl c1) ⟨d1,d2⟩ (.inl t1)
          simp only [go_sem,simprocAttr,a1,a2,b1,b2,b3,c1,d1,d2,t1,z0,z1]
          refine loop wraps [] none _ _ rfl (.inl ⟨rfl,rfl⟩) ?_ ?_ hvv.symm
          ·simp only [go_sem,simprocAttr,Z8,a1,a2,b1,b2,b3,c1,d1,d2,t1]
          ·simp only [go_sem,simprocAttr,List.length_nil,Int.natCast_zero]
         ·by_cases t2 : tag = ⟨#[]⟩
          ·have hvv := hok ⟨a1,a2⟩ (.inr ⟨b2,b3⟩) (.inl c1) ⟨d1,d2⟩ (.inr t2)
           simp only [go_sem,simprocAttr,a1,a2,b1,b2,b3,c1,d1,d2,t1,t2,z0,z1]
           refine loop wraps [] none _ _ rfl (.inl ⟨rfl,rfl⟩) ?_ ?_ hvv.symm
           ·simp only [go_sem,simprocAttr,Z8,a1,a2,b1,b2,b3,c1,d1,d2,t1,t2]
           ·simp only [go_sem,simprocAttr,List.length_nil,Int.natCast_zero]
          ·simp only [go_sem,simprocAttr,a1,a2,b1,b2,b3,c1,d1,d2,t1,t2,z0,z1]
           rw [hT0 ⟨t1,t2⟩]
           simp [Zf,Ze,Zk,Zg,Zh,Zd,Zc,Zb]
      ·by_cases c2 : kind = 2
       ·by_cases d1 : dev < 0
        ·simp only [go_sem,simprocAttr,a1,a2,b1,b2,b3,c1,c2,d1,z0,z1]
         rw [hD0 (.inl d1)]
         simp [Zf,Ze,Zk,Zg,Zh,Zd,Zc,Zb]
        ·by_cases d2 : 8 ≤ dev
         ·simp only [go_sem,simprocAttr,a1,a2,b1,b2,b3,c1,c2,d1,d2,z0,z1]
          rw [hD0 (.inr d2)]
          simp [Zf,Ze,Zk,Zg,Zh,Zd,Zc,Zb]
         ·by_cases t1 : (tag.size : Int) = 16
          ·have hvv := hok ⟨a1,a2⟩ (.inr ⟨b2,b3⟩) (.inr c2) ⟨d1,d2⟩ (.inl t1)
           simp only [go_sem,simprocAttr,a1,a2,b1,b2,b3,c1,c2,d1,d2,t1,z0,z1]
           refine loop wraps [] none _ _ rfl (.inl ⟨rfl,rfl⟩) ?_ ?_ hvv.symm
           ·simp only [go_sem,simprocAttr,Z8,a1,a2,b1,b2,b3,c1,c2,d1,d2,t1]
           ·simp only [go_sem,simprocAttr,List.length_nil,Int.natCast_zero]
          ·by_cases t2 : tag = ⟨#[]⟩
           ·have hvv := hok ⟨a1,a2⟩ (.inr ⟨b2,b3⟩) (.inr c2) ⟨d1,d2⟩ (.inr t2)
            simp only [go_sem,simprocAttr,a1,a2,b1,b2,b3,c1,c2,d1,d2,t1,t2,z0,z1]
            refine loop wraps [] none _ _ rfl (.inl ⟨rfl,rfl⟩) ?_ ?_ hvv.symm
            ·simp only [go_sem,simprocAttr,Z8,a1,a2,b1,b2,b3,c1,c2,d1,d2,t1,t2]
            ·simp only [go_sem,simprocAttr,List.length_nil,Int.natCast_zero]
           ·simp only [go_sem,simprocAttr,a1,a2,b1,b2,b3,c1,c2,d1,d2,t1,t2,z0,z1]
            rw [hT0 ⟨t1,t2⟩]
            simp [Zf,Ze,Zk,Zg,Zh,Zd,Zc,Zb]
       ·simp only [go_sem,simprocAttr,a1,a2,b1,b2,b3,c1,c2,z0,z1]
        rw [hC0 ⟨c1,c2⟩]
        simp [Zf,Ze,Zk,Zg,Zh,Zd,Zc,Zb]
     ·simp only [go_sem,simprocAttr,a1,a2,b1,b2,b3,z0,z1]
      rw [hB0 ⟨b1,.inr b3⟩]
      simp [Zf,Ze,Zk,Zg,Zh,Zd,Zc,Zb]
    ·simp only [go_sem,simprocAttr,a1,a2,b1,b2,z0,z1]
     rw [hB0 ⟨b1,.inl b2⟩]
     simp [Zf,Ze,Zk,Zg,Zh,Zd,Zc,Zb]
theorem Z6c (r : Rec) : Pr 75 [.agg r.cells] (sC (Zcr r)) := by
 have hm := Zgf r
 have hcl := Rec.closed r
 unfold Zcr
 cases hv : Z0 r with
 | false =>
  rw [hv] at hm
  refine Zl mixed Zvk (by simp [Zr,Zp,hcl]) fun hl T => ?_
  unfold Zqy
  have hbx : ∀ H : Heap,mkF H (vBox (.agg r.cells) H) = some (.c (.fp r.cells 0)) := fun H => Zc7 hcl
  obtain ⟨seq,prev,kind,dev,wraps,tag⟩ := r
  simp only [Rec.cells] at hbx hm hcl ⊢
  simp only [go_sem,simprocAttr,hbx]
  refine Za hm ?_
  simp only [go_sem,simprocAttr]
  simp [Zf,Ze,Zk,Zg,Zh,Zd,Zc,Zb]
 | true =>
  rw [hv] at hm
  obtain ⟨z1,z2,z3⟩ := Ze5 hv
  have hr := Zxw hv
  have hp : putD (Ze4 r) = baL (putL (Ze4 r)) := by unfold putD; rw [if_pos hr]
  have hput := Zr0 (Ze4 r) (by omega)
  rw [hp] at hput
  have hlist := Zmh [numW r.seq,numW r.kind,numW r.dev,Zcd r.prev]
  refine Zl mixed Zvk (by simp [Zr,Zp,hcl]) fun hl T => ?_
  unfold Zqy
  have hbx : ∀ H : Heap,mkF H (vBox (.agg r.cells) H) = some (.c (.fp r.cells 0)) := fun H => Zc7 hcl
  obtain ⟨seq,prev,kind,dev,wraps,tag⟩ := r
  simp only [Rec.cells] at hbx hm hcl ⊢
  simp only [Ze4] at hput hlist ⊢
  simp only [if_true]
  generalize baL (putL (Zc5 [numW seq,numW kind,numW dev,Zcd prev])) = res at hput ⊢
  simp only [go_sem,simprocAttr,hbx]
  refine Za hm ?_
  simp only [go_sem,simprocAttr]
  refine Za (Zhh seq) ?_
  simp only [go_sem,simprocAttr]
  refine Za (Zhh kind) ?_
  simp only [go_sem,simprocAttr]
  refine Za (Zhh dev) ?_
  simp only [go_sem,simprocAttr]
  refine Za (Zmy prev) ?_
  simp only [Zcn,Wr.rows] at hlist
  simp only [go_sem,simprocAttr,Wr.len4,Wr.closed]
  refine Za hlist ?_
  simp only [go_sem,simprocAttr]
  refine Za hput ?_
  simp only [go_sem,simprocAttr]
  simp [Zf,Ze,Zk,Zg,Zh,Zd,Zc,Zb]
set_option maxHeartbeats 1000000 in
theorem Znq (r : Rec) : Pr 71 [.agg r.cells] (sC (putR r)) := by
 have hm := Zgf r
 have hcl := Rec.closed r
 unfold putR
 cases hv : Z0 r with
 | false =>
  rw [hv] at hm
  refine Zl mixed Znm (by simp [Zr,Zp,hcl]) fun hl T => ?_
  unfold Zjl
  have hbx : ∀ H : Heap,mkF H (vBox (.agg r.cells) H) = some (.c (.fp r.cells 0)) := fun H => Zc7 hcl
  obtain ⟨seq,prev,kind,dev,wraps,tag⟩ := r
  simp only [Rec.cells] at hbx hm hcl ⊢
  simp only [go_sem,simprocAttr,hbx]
  refine Za hm ?_
  simp only [go_sem,simprocAttr]
  simp [Zf,Ze,Zk,Zg,Zh,Zd,Zc,Zb]
 | true =>
  rw [hv] at hm
  obtain ⟨z1,z2,z3⟩ := Ze5 hv
  obtain ⟨y1,y2,y3,y4⟩ := Zld hv
  have hr := Z0f hv
  have hp : putD (Zgk r) = baL (putL (Zgk r)) := by unfold putD; rw [if_pos hr]
  have hput := Zr0 (Zgk r) (by omega)
  rw [hp] at hput
  have hlw := Zmh (r.wraps.map Zda)
  have hlist := Zmh [numW r.seq,Zcd r.prev,numW r.kind,numW r.dev,Zc5 (r.wraps.map Zda),Zcd r.tag]
  have hone : ∀ w : Wrp,Pr 116 [.c (Zcn [numW w.dev,Zcd w.box])] (.agg (Zda w).cells) := fun w => Zmh [numW w.dev,Zcd w.box]
  refine Zl mixed Znm (by simp [Zr,Zp,hcl]) fun hl T => ?_
  unfold Zjl
  have hbx : ∀ H : Heap,mkF H (vBox (.agg r.cells) H) = some (.c (.fp r.cells 0)) := fun H => Zc7 hcl
  obtain ⟨seq,prev,kind,dev,wraps,tag⟩ := r
  simp only [Rec.cells] at hbx hm hcl ⊢
  simp only [Zgk] at hput hlist hlw hone y3 ⊢
  simp only [if_true]
  generalize baL (putL (Zc5 [numW seq,Zcd prev,numW kind,numW dev,Zc5 (wraps.map Zda),Zcd tag])) = res at hput ⊢
  generalize Zc5 [numW seq,Zcd prev,numW kind,numW dev,Zc5 (wraps.map Zda),Zcd tag] = big at hput hlist
  generalize hLW : Zc5 (wraps.map Zda) = LW at hlist hlw
  have loop : ∀ (rest pre : List Wrp) (e : Env) (H : Heap),wraps = pre ++ rest → e 1 = .c (.fp [.int .i64 seq,.str prev,.int .i64 kind,.int .i64 dev,.lst 2 (wraps.map Wrp.cells),.str tag] 0) → e 4 = iC pre.length → Acc 4 (Wr.rows (pre.map Zda)) (e 3) H →
    Run (Zt Tryz.prog T) ⟨[.tmp 2],fun u E => Zf E u = some (sC res)⟩ [.loop Zgl,.blk 0,.code Zi8] e H := by
   intro rest
   induction rest with
   | nil =>
    intro pre e H hp h1 h4 ha
    have hc := Zdh (f := Wrp.cells) hp
    rw [List.append_nil] at hp
    refine Zi ?_
    conv => enter [3,1]; unfold Zgl
    simp only [go_sem,simprocAttr,h1,h4,hc]
    unfold Zi8
    refine Acc.fz_keep (sz := 4) (by simp only [go_sem,simprocAttr]; exact ha) fun e' H' k3 kc kp kb kl => ?_
    have g1 := kc 1 (.c (.fp [.int .i64 seq,.str prev,.int .i64 kind,.int .i64 dev,.lst 2 (wraps.map Wrp.cells),.str tag] 0)) (by simp only [go_sem,simprocAttr,h1]) (by simpa [Zp,Zc,Z8] using hcl) (by omega)
    clear kc kp kb
    rw [← hp] at k3
    have k3' : e' 3 = .c (Zcn (wraps.map Zda)) := k3
    simp only [go_sem,simprocAttr,g1]
    refine Za (Zhh seq) ?_
    simp only [go_sem,simprocAttr,g1]
    refine Za (Zmy prev) ?_
    simp only [go_sem,simprocAttr,g1]
    refine Za (Zhh kind) ?_
    simp only [go_sem,simprocAttr,g1]
    refine Za (Zhh dev) ?_
    simp only [go_sem,simprocAttr,k3']
    refine Za hlw ?_
    simp only [go_sem,simprocAttr,g1]
    refine Za (Zmy tag) ?_
    simp only [go_sem,simprocAttr,Wr.len4,Z0s]
    refine Za hlist ?_
    simp only [go_sem,simprocAttr]
    refine Za hput ?_
    simp only [go_sem,simprocAttr]
    simp [Zf,Ze,Zk,Zg,Zh,Zd,Zc,Zb]
   | cons w rest ih =>
    intro pre e H hp h1 h4 ha
    have hc := Zhy (f := Wrp.cells) hp
    have hr := Zee (f := Wrp.cells) hp
    have hn := Zcy hp (by unfold maxLen; omega)
    have how := hone w
    have hpl : pre.length < wraps.length := by rw [hp]; simp
    obtain ⟨wd,wb⟩ := w
    refine Zi ?_
    conv => enter [3,1]; unfold Zgl
    simp only [go_sem,simprocAttr,h1,h4,hc,hr,Wrp.cells]
    refine Za (Zhh wd) ?_
    simp only [go_sem,simprocAttr,h1,h4,hr,Wrp.cells]
    refine Za (Zmy wb) ?_
    simp only [go_sem,simprocAttr,Wr.len4,Z1n]
    refine Za how ?_
    simp only [go_sem,simprocAttr,Wr.len4,Z1g]
    simp only [Zcn,Wr.rows]
    refine Acc.app_step ha (by rw [Wr.rows_len]; simp; omega) fun v' H' ha' => ?_
    simp only [go_sem,simprocAttr,h4,hn]
    refine ih (pre ++ [⟨wd,wb⟩]) _ _ (by rw [hp]; simp) ?_ ?_ ?_
    ·simp only [go_sem,simprocAttr,h1]
    ·simp only [go_sem,simprocAttr,hn]
    ·simp only [go_sem,simprocAttr]; simpa [Wr.rows_map] using ha'
  simp only [go_sem,simprocAttr,hbx]
  refine Za hm ?_
  simp only [go_sem,simprocAttr,Z8]
  refine loop wraps [] _ _ rfl ?_ ?_ ?_
  ·simp only [go_sem,simprocAttr,Z8]
  ·simp only [go_sem,simprocAttr,List.length_nil,Int.natCast_zero]
  ·simp only [go_sem,simprocAttr]; exact .nil
theorem Zsv (r : Rec) : (putR r).size ≤ 1000000 := by
 unfold putR
 split
 ·rename_i hv
  obtain ⟨_,z2,_⟩ := Ze5 hv
  have := Zjf (Zgk r)
  rw [Zc9]; omega
 ·exact Nat.zero_le _
theorem Zpm (r : Rec) : Pr 27 [.agg r.cells] (sC (Zj8 r)) := by
 have hp := Znq r
 have hcl := Rec.closed r
 have hz := Zsv r
 have hs := Zom (putR r) (by omega)
 have hh : Zj8 r = sumD (putR r) := rfl
 rw [hh]
 generalize sumD (putR r) = S at hs ⊢
 refine Zl mixed Z5w (by simp [Zr,Zp,hcl]) fun hl T => ?_
 unfold Zy2
 have hbx : ∀ H : Heap,mkF H (vBox (.agg r.cells) H) = some (.c (.fp r.cells 0)) := fun H => Zc7 hcl
 generalize putR r = p at hp hs
 obtain ⟨seq,prev,kind,dev,wraps,tag⟩ := r
 simp only [Rec.cells] at hbx hp hcl ⊢
 simp only [go_sem,simprocAttr,hbx]
 refine Za hp ?_
 simp only [go_sem,simprocAttr]
 refine Za hs ?_
 simp only [go_sem,simprocAttr]
 simp [Zf,Ze,Zk,Zg,Zh,Zd,Zc,Zb]
theorem Zop (log : List Rec) (epoch dev : Int) : Pr 18 [.c (Z9 log),iC epoch,iC dev] (bC (memL log epoch dev)) := by
 refine Zl mixed Zbck (by simp [Zr,Zp,Zc,Z9,Zb8]) fun hl T => ?_
 have hlen : log.length ≤ maxLen := by simp [Zgn,lenA,lenC,Z9] at hl; exact hl
 unfold Z21
 dsimp only [Z9]
 have loop : ∀ (rest pre : List Rec) (b : Bool) (e : Env) (H : Heap),log = pre ++ rest → e 0 = .c (.lst 6 (log.map Rec.cells)) → e 1 = iC epoch → e 2 = iC dev → e 7 = bC b → e 8 = iC pre.length → rest.foldl (memF epoch dev) b = memB log epoch dev →
   Run (Zt Tryz.prog T) ⟨[.tmp 6],fun u E => Zf E u = some (bC (memL log epoch dev))⟩ [.loop Zlc,.blk 0,.code Zol] e H := by
  intro rest
  induction rest with
  | nil =>
   intro pre b e H hp h0 h1 h2 h7 h8 hb
   have hc := Zdh (f := Rec.cells) hp
   refine Zi ?_
   conv => enter [3,1]; unfold Zlc
   simp only [go_sem,simprocAttr,h0,h8,hc]
   unfold Zol
   simp only [List.foldl_nil] at hb
   unfold memL
   rw [← hb]
   cases b with
   | false =>
    simp only [go_sem,simprocAttr,h7]
    simp [Zf,Ze,Zk,Zg,Zh,Zd,Zc,Zb]
   | true =>
    by_cases d1 : 0 ≤ dev
    ·by_cases d2 : dev < 8
     ·simp only [go_sem,simprocAttr,h2,h7,d1,d2]
      simp [Zf,Ze,Zk,Zg,Zh,Zd,Zc,Zb,d1,d2]
     ·simp only [go_sem,simprocAttr,h2,h7,d1,d2]
      simp [Zf,Ze,Zk,Zg,Zh,Zd,Zc,Zb,d1,d2]
    ·simp only [go_sem,simprocAttr,h2,h7,d1]
     simp [Zf,Ze,Zk,Zg,Zh,Zd,Zc,Zb,d1]
  | cons r rest ih =>
   intro pre b e H hp h0 h1 h2 h7 h8 hb
   have hc := Zhy (f := Rec.cells) hp
   have hr := Zee (f := Rec.cells) hp
   have hn : IntKind.wrap .i64 ((pre.length : Int) + 1) = ((pre.length + 1 : Nat) : Int) := by rw [Zcy hp hlen]; simp
   obtain ⟨seq,prev,kind,dv,wraps,tag⟩ := r
   have go : ∀ (b' : Bool) (e' : Env),memF epoch dev b ⟨seq,prev,kind,dv,wraps,tag⟩ = b' → e' 0 = .c (.lst 6 (log.map Rec.cells)) → e' 1 = iC epoch → e' 2 = iC dev → e' 7 = bC b' → e' 8 = iC ((pre.length + 1 : Nat) : Int) →
     Run (Zt Tryz.prog T) ⟨[.tmp 6],fun u E => Zf E u = some (bC (memL log epoch dev))⟩ [.loop Zlc,.blk 0,.code Zol] e' H := fun b' e' hb' g0 g1 g2 g7 g8 =>
    ih (pre ++ [⟨seq,prev,kind,dv,wraps,tag⟩]) b' e' H (by rw [hp]; simp) g0 g1 g2 g7 (by rw [g8]; simp) (by rw [← hb']; exact hb)
   refine Zi ?_
   conv => enter [3,1]; unfold Zlc
   by_cases c1 : seq ≤ epoch
   ·by_cases c2 : dv = dev
    ·by_cases c3 : kind = 1
     ·simp only [go_sem,simprocAttr,h0,h1,h2,h8,hc,hr,Rec.cells,Z8,c1,c2,c3,hn]
      refine go true _ (by unfold memF; rw [if_pos ⟨c1,c2,.inl c3⟩]; exact decide_eq_true c3) ?_ ?_ ?_ ?_ ?_
      all_goals simp only [go_sem,simprocAttr,h0,h1,h2,hn]
     ·by_cases c4 : kind = 2
      ·simp only [go_sem,simprocAttr,h0,h1,h2,h8,hc,hr,Rec.cells,Z8,c1,c2,c3,c4,hn]
       refine go false _ (by unfold memF; rw [if_pos ⟨c1,c2,.inr c4⟩]; exact decide_eq_false c3) ?_ ?_ ?_ ?_ ?_
       all_goals simp only [go_sem,simprocAttr,h0,h1,h2,hn]
      ·simp only [go_sem,simprocAttr,h0,h1,h2,h8,hc,hr,Rec.cells,Z8,c1,c2,c3,c4,hn]
       refine go b _ (by unfold memF; rw [if_neg (fun h => h.2.2.elim c3 c4)]) ?_ ?_ ?_ ?_ ?_
       all_goals simp only [go_sem,simprocAttr,h0,h1,h2,h7,hn]
    ·simp only [go_sem,simprocAttr,h0,h1,h2,h8,hc,hr,Rec.cells,Z8,c1,c2,hn]
     refine go b _ (by unfold memF; rw [if_neg (fun h => c2 h.2.1)]) ?_ ?_ ?_ ?_ ?_
     all_goals simp only [go_sem,simprocAttr,h0,h1,h2,h7,hn]
   ·simp only [go_sem,simprocAttr,h0,h1,h2,h8,hc,hr,Rec.cells,Z8,c1,hn]
    refine go b _ (by unfold memF; rw [if_neg (fun h => c1 h.1)]) ?_ ?_ ?_ ?_ ?_
    all_goals simp only [go_sem,simprocAttr,h0,h1,h2,h7,hn]
 simp only [go_sem,simprocAttr]
 refine loop log [] false _ _ rfl ?_ ?_ ?_ ?_ ?_ rfl
 all_goals simp only [go_sem,simprocAttr,List.length_nil,Int.natCast_zero]
end Go.Proofs.YticmfblfghdkbaaGreatDoor.Eng
