/- Parts of this claim's proof, joined. No statement of the seat is proved here. -/
import Derived.Test.YticmfblfghdkbaaGreatDoorW5
set_option linter.unusedVariables false
set_option linter.unusedSimpArgs false
namespace Go.Proofs.YticmfblfghdkbaaGreatDoor.Eng
open Go
variable {P : Program} {B : Nat} {m : LMap} {H : Heap} {w : World}
theorem Zhm : ∀ {cs : List Cell},Zb cs = true → ∀ {i : Nat} {c : Cell},cs[i]? = some c → Zc c = true
 | [],_,i,c,h => by simp at h
 | x :: r,hp,i,c,h => by
  simp only [Zb,Bool.and_eq_true] at hp
  cases i with
  | zero => simp at h; subst h; exact hp.1
  | succ i => exact Zhm hp.2 (by simpa using h)
theorem Zu8 : ∀ {cs : List (List Cell)},closedR cs = true → ∀ {i : Nat} {c : List Cell},cs[i]? = some c → Zb c = true
 | [],_,i,c,h => by simp at h
 | x :: r,hp,i,c,h => by
  simp only [closedR,Bool.and_eq_true] at hp
  cases i with
  | zero => simp at h; subst h; exact hp.1
  | succ i => exact Zu8 hp.2 (by simpa using h)
theorem Zs4 : ∀ {cs : List AVal},Zr cs = true → ∀ {i : Nat} {c : AVal},cs[i]? = some c → Zp c = true
 | [],_,i,c,h => by simp at h
 | x :: r,hp,i,c,h => by
  simp only [Zr,Bool.and_eq_true] at hp
  cases i with
  | zero => simp at h; subst h; exact hp.1
  | succ i => exact Zs4 hp.2 (by simpa using h)
theorem VR.closed {m m' : LMap} {σ : Mem} (hz : ∀ g,m.z g → m'.z g) {c : Cell} {v : Value} (h : VR m σ c v) : Zc c = true → VR m' σ c v := by
 induction h with
 | int => intro _; exact .int _ _
 | bool => intro _; exact .bool _
 | str => intro _; exact .str _
 | nilI => intro _; exact .nilI
 | nilF => intro _; exact .nilF
 | nilS => intro _; exact .nilS
 | nilP => intro _; exact .nilP
 | ptr => intro hp; simp [Zc] at hp
 | slc => intro hp; simp [Zc] at hp
 | fn hl _ ih =>
  intro hp
  simp only [Zc] at hp
  exact .fn hl fun i c v hc hv => ih i c v hc hv (Zhm hp hc)
 | ifaceC _ ih =>
  intro hp
  simp only [Zc,Zb,Bool.and_true] at hp
  exact .ifaceC (ih hp)
 | ifaceA hl _ ih =>
  intro hp
  simp only [Zc] at hp
  exact .ifaceA hl fun i c v hc hv => ih i c v hc hv (Zhm hp hc)
 | zerN => intro _; exact .zerN
 | zerS => intro _; exact .zerS
 | emp h => intro _; exact .emp h
 | lstN => intro _; exact .lstN
 | lst h1 h2 h3 h4 h5 _ ih =>
  intro hp
  simp only [Zc] at hp
  exact .lst h1 h2 (fun hr => ⟨(h3 hr).1,hz _ (h3 hr).2⟩) h4 h5 fun i r f x e1 e2 => ih i r f x e1 e2 (Zhm (Zu8 hp e1) e2)
 | fp h1 h2 _ ih =>
  intro hp
  simp only [Zc] at hp
  exact .fp (hz _ h1) h2 fun j x e => ih j x e (Zhm hp e)
theorem Zvr {m m' : LMap} {σ : Mem} (hz : ∀ g,m.z g → m'.z g) : ∀ {cs : List Cell} {vs : List Value},All2 (VR m σ) cs vs → Zb cs = true → All2 (VR m' σ) cs vs
 | [],_,h,_ => by cases h; exact .nil
 | c :: cs,_,h,hp => by
  simp only [Zb,Bool.and_eq_true] at hp
  cases h with
  | cons a b => exact .cons (a.closed hz hp.1) (Zvr hz b hp.2)
theorem VRA.closed {m m' : LMap} {σ : Mem} (hz : ∀ g,m.z g → m'.z g) {x : AVal} {v : Value} (h : VRA m σ x v) : Zp x = true → VRA m' σ x v := by
 induction h with
 | c h => intro hp; exact .c (h.closed hz (by simpa [Zp] using hp))
 | agg h => intro hp; exact .agg (Zvr hz h (by simpa [Zp] using hp))
 | tup hl _ ih =>
  intro hp
  simp only [Zp] at hp
  exact .tup hl fun i c v hc hv => ih i c v hc hv (Zs4 hp hc)
theorem Ztu {m m' : LMap} {σ : Mem} (hz : ∀ g,m.z g → m'.z g) : ∀ {cs : List AVal} {vs : List Value},All2 (VRA m σ) cs vs → Zr cs = true → All2 (VRA m' σ) cs vs
 | [],_,h,_ => by cases h; exact .nil
 | c :: cs,_,h,hp => by
  simp only [Zr,Bool.and_eq_true] at hp
  cases h with
  | cons a b => exact .cons (a.closed hz hp.1) (Ztu hz b hp.2)
def LMap.froze (m : LMap) (g : Nat) : LMap := ⟨m.f,fun x => m.z x ∨ x = g⟩
theorem LMap.le_froze (m : LMap) (g : Nat) : m.Le (m.froze g) := ⟨fun _ _ h => h,fun _ h => .inl h⟩
theorem BlkAt.lst {L : Loc} {k : Blk} (h : BlkAt B m w L k) (hl : k.live = true) {m' : LMap} (hm : m.Le m') (hz : m'.z L.g) {s n c : Nat} {A : Addr} (hs : s + n ≤ k.rows.length) (hc : n ≤ c) (hc2 : c ≤ maxLen) (ha : c ≠ 0 → A = ⟨L.g,L.o + s * L.sz,none⟩) :
  VR m' (Zj w) (.lst L.sz ((k.rows.drop s).take n)) (.slice (some A) n c) := by
 have hget : ∀ (i : Nat) r,((k.rows.drop s).take n)[i]? = some r → k.rows[s + i]? = some r := fun i r e => by
  rw [List.getElem?_take] at e
  split at e
  ·rw [List.getElem?_drop] at e; exact e
  ·cases e
 refine VR.lst' (g := L.g) (o := L.o + s * L.sz) (vs := fun i f => (w.cell? ⟨L.g,L.o + s * L.sz + i * L.sz + f,none⟩).getD undef) (by simp; omega) hc hc2 (fun hr => ⟨ha ?_,hz⟩) (fun i r e => (h.rows hl _ r (hget i r e)).1) (fun i r f x e1 e2 => ?_) (fun i r f x e1 e2 => ?_)
 ·intro h0; apply hr; simp; omega
 ·obtain ⟨v,k1,_⟩ := (h.rows hl _ r (hget i r e1)).2 f x e2
  rw [Nat.add_mul,← Nat.add_assoc] at k1
  rw [Zga]
  simp [k1]
 ·obtain ⟨v,k1,k2⟩ := (h.rows hl _ r (hget i r e1)).2 f x e2
  rw [Nat.add_mul,← Nat.add_assoc] at k1
  simp only [k1,Option.getD_some]
  exact k2.mono (hm.mle _)
theorem BlkAt.fp {L : Loc} {k : Blk} (h : BlkAt B m w L k) (hl : k.live = true) {m' : LMap} (hm : m.Le m') (hz : m'.z L.g) {i f : Nat} {r : List Cell} (hr : k.rows[i]? = some r) :
  VR m' (Zj w) (.fp r f) (.pointer (some ⟨L.g,L.o + i * L.sz + f,none⟩)) := by
 refine VR.fp (g := L.g) (o := L.o + i * L.sz) (vs := fun j => (w.cell? ⟨L.g,L.o + i * L.sz + j,none⟩).getD undef) hz (fun j x e => ?_) (fun j x e => ?_)
 ·obtain ⟨v,k1,_⟩ := (h.rows hl _ r hr).2 j x e
  rw [Zga]
  simp [k1]
 ·obtain ⟨v,k1,k2⟩ := (h.rows hl _ r hr).2 j x e
  simp only [k1,Option.getD_some]
  exact k2.mono (hm.mle _)
theorem Zkg {b : Nat} {k : Blk} : ∀ {cs : List Cell} {i : Nat} {c : Cell},(frzs b k cs)[i]? = some c → ∃ d,cs[i]? = some d ∧ c = d.frz b k
 | [],i,c,h => by simp [frzs] at h
 | x :: r,i,c,h => by
  cases i with
  | zero => simp [frzs] at h; exact ⟨x,rfl,h.symm⟩
  | succ i => simp [frzs] at h; simpa using Zkg h
theorem Zg1 {b : Nat} {k : Blk} : ∀ {cs : List Cell},(frzs b k cs).length = cs.length
 | [] => rfl
 | x :: r => by simp [frzs,Zg1]
theorem Zsj {b : Nat} {k : Blk} : ∀ {cs : List AVal} {i : Nat} {c : AVal},(Zks b k cs)[i]? = some c → ∃ d,cs[i]? = some d ∧ c = d.frz b k
 | [],i,c,h => by simp [Zks] at h
 | x :: r,i,c,h => by
  cases i with
  | zero => simp [Zks] at h; exact ⟨x,rfl,h.symm⟩
  | succ i => simp [Zks] at h; simpa using Zsj h
theorem Zn2 {b : Nat} {k : Blk} : ∀ {cs : List AVal},(Zks b k cs).length = cs.length
 | [] => rfl
 | x :: r => by simp [Zks,Zn2]
theorem VR.frz (r : Rel B m H w) {b : Nat} {L : Loc} {k : Blk} (hb : m b = some L) (hk : H[b]? = some k) (hl : k.live = true) {c : Cell} {v : Value} (h : VR m (Zj w) c v) : VR (m.froze L.g) (Zj w) (c.frz b k) v := by
 have hm := m.le_froze L.g
 obtain ⟨k',hk',hat⟩ := r.blk b L hb
 rw [hk] at hk'; injection hk' with hk'; subst hk'
 have hz : (m.froze L.g).z L.g := .inr rfl
 generalize hσ : Zj w = σ at h
 induction h with
 | int => exact .int _ _
 | bool => exact .bool _
 | str => exact .str _
 | nilI => exact .nilI
 | nilF => exact .nilF
 | nilS => exact .nilS
 | nilP => exact .nilP
 | @ptr b' i f L' e =>
  simp only [Cell.frz]
  have e0 : (m.froze L.g) b' = some L' := e
  split
  ·rename_i hbb
   subst hbb
   have hL : L = L' := by have := hb.symm.trans e; injection this
   subst hL
   split
   ·rename_i row hr
    rw [← hσ]
    exact hat.fp hl hm hz hr
   ·exact .ptr e0
  ·exact .ptr e0
 | @slc b' s n sz z A c h1 h2 h3 h4 =>
  simp only [Cell.frz]
  obtain ⟨L',e,ez,h5⟩ := h4
  split
  ·rename_i hbb
   obtain ⟨hbb,hs⟩ := hbb
   subst hbb
   have hL : L = L' := by have := hb.symm.trans e; injection this
   subst hL
   subst ez
   rw [← hσ]
   split
   ·rename_i hzz
    have hc := h2 hzz
    subst hc
    have hn : n = 0 := by omega
    subst hn
    exact .zerS
   ·exact hat.lst hl hm hz hs h1 h3 (fun hc => (h5 hc).1)
  ·exact .slc h1 h2 h3 ⟨L',e,ez,h5⟩
 | @fn f cs vs hlen _ ih =>
  simp only [Cell.frz]
  refine .fn (by rw [Zg1]; exact hlen) fun i c v hc hv => ?_
  obtain ⟨d,hd,rfl⟩ := Zkg hc
  exact ih i d v hd hv
 | ifaceC _ ih =>
  simp only [Cell.frz,frzs]
  exact .ifaceC ih
 | @ifaceA t cs vs hlen _ ih =>
  simp only [Cell.frz]
  refine .ifaceA (by rw [Zg1]; exact hlen) fun i c v hc hv => ?_
  obtain ⟨d,hd,rfl⟩ := Zkg hc
  exact ih i d v hd hv
 | zerN => exact .zerN
 | zerS => exact .zerS
 | emp h => exact .emp h
 | lstN => exact .lstN
 | lst h1 h2 h3 h4 h5 h6 _ => exact (VR.lst h1 h2 h3 h4 h5 h6).mono (hm.mle _)
 | fp h1 h2 h3 _ => exact (VR.fp h1 h2 h3).mono (hm.mle _)
theorem Z39 (r : Rel B m H w) {b : Nat} {L : Loc} {k : Blk} (hb : m b = some L) (hk : H[b]? = some k) (hl : k.live = true) : ∀ {cs : List Cell} {vs : List Value},All2 (VR m (Zj w)) cs vs → All2 (VR (m.froze L.g) (Zj w)) (frzs b k cs) vs
 | [],_,h => by cases h; exact .nil
 | c :: cs,_,h => by
  cases h with
  | cons x y => exact .cons (x.frz r hb hk hl) (Z39 r hb hk hl y)
theorem VRA.frz (r : Rel B m H w) {b : Nat} {L : Loc} {k : Blk} (hb : m b = some L) (hk : H[b]? = some k) (hl : k.live = true) {c : AVal} {v : Value} (h : VRA m (Zj w) c v) : VRA (m.froze L.g) (Zj w) (c.frz b k) v := by
 generalize hσ : Zj w = σ at h
 induction h with
 | c h => subst hσ; exact .c (h.frz r hb hk hl)
 | agg h => subst hσ; exact .agg (Z39 r hb hk hl h)
 | @tup xs vs hlen _ ih =>
  refine .tup (by rw [Zn2]; exact hlen) fun i c v hc hv => ?_
  obtain ⟨d,hd,rfl⟩ := Zsj hc
  exact ih i d v hd hv
theorem VR.frz0 {σ : Mem} {b : Nat} {k : Blk} (hb : m b = none) {c : Cell} {v : Value} (h : VR m σ c v) : VR m σ (c.frz b k) v := by
 induction h with
 | int => exact .int _ _
 | bool => exact .bool _
 | str => exact .str _
 | nilI => exact .nilI
 | nilF => exact .nilF
 | nilS => exact .nilS
 | nilP => exact .nilP
 | @ptr b' i f L' e =>
  simp only [Cell.frz]
  rw [if_neg (by intro h; subst h; rw [hb] at e; cases e)]
  exact .ptr e
 | @slc b' s n sz z A c h1 h2 h3 h4 =>
  simp only [Cell.frz]
  obtain ⟨L',e,ez,h5⟩ := h4
  rw [if_neg (by rintro ⟨h,_⟩; subst h; rw [hb] at e; cases e)]
  exact .slc h1 h2 h3 ⟨L',e,ez,h5⟩
 | @fn f cs vs hlen _ ih =>
  simp only [Cell.frz]
  refine .fn (by rw [Zg1]; exact hlen) fun i c v hc hv => ?_
  obtain ⟨d,hd,rfl⟩ := Zkg hc
  exact ih i d v hd hv
 | ifaceC _ ih =>
  simp only [Cell.frz,frzs]
  exact .ifaceC ih
 | @ifaceA t cs vs hlen _ ih =>
  simp only [Cell.frz]
  refine .ifaceA (by rw [Zg1]; exact hlen) fun i c v hc hv => ?_
  obtain ⟨d,hd,rfl⟩ := Zkg hc
  exact ih i d v hd hv
 | zerN => exact .zerN
 | zerS => exact .zerS
 | emp h => exact .emp h
 | lstN => exact .lstN
 | lst h1 h2 h3 h4 h5 h6 _ => exact .lst h1 h2 h3 h4 h5 h6
 | fp h1 h2 h3 _ => exact .fp h1 h2 h3
theorem VRA.frz0 {σ : Mem} {b : Nat} {k : Blk} (hb : m b = none) {c : AVal} {v : Value} (h : VRA m σ c v) : VRA m σ (c.frz b k) v := by
 induction h with
 | c h => exact .c (h.frz0 hb)
 | agg h =>
  refine .agg ?_
  generalize hvs : Array.toList _ = l at h
  clear hvs
  induction h with
  | nil => exact .nil
  | cons x _ ih => exact .cons (x.frz0 hb) ih
 | @tup xs vs hlen _ ih =>
  refine .tup (by rw [Zn2]; exact hlen) fun i c v hc hv => ?_
  obtain ⟨d,hd,rfl⟩ := Zsj hc
  exact ih i d v hd hv
theorem St.freeze (r : Rel B m H w) {b : Nat} {L : Loc} {k : Blk} (hb : m b = some L) (hk : H[b]? = some k) (ho : k.own = true) (hl : k.live = true) : St B H m w (H.set b { k with live := false }) (m.froze L.g) w := by
 obtain ⟨k',hk',hat⟩ := r.blk b L hb
 rw [hk] at hk'; injection hk' with hk'; subst hk'
 have hoL : L.own = true := by rw [← hat.own]; exact ho
 have s := St.drop r hk
 have hm := m.le_froze L.g
 refine ⟨fun _ _ h => h,(fun _ _ h h' => by rw [show m _ = _ from h'] at h; cases h),⟨r.base,fun b' L' h => ?_,fun g h => ?_,fun b' L' q h ho' e hl' hz => ?_,s.rel.inj,r.lib.up (hm.mle _)⟩,s.frame,(fun _ _ h h' => by rw [show m _ = _ from h'] at h; cases h),s.size,s.szs,s.os,s.tape,s.output,s.hle,fun _ h => .inl h,fun g h => ?_,s.drawn⟩
 ·obtain ⟨q,eq,hq⟩ := s.rel.blk b' L' h
  exact ⟨q,eq,hq.carry (hm.mle _) (Nat.le_refl _) fun _ => rfl⟩
 ·rcases h with h | rfl
  ·exact r.zlt g h
  ·exact hat.lt (.inl hoL)
 ·rcases hz with hz | hz
  ·exact s.rel.zown b' L' q h ho' e hl' hz
  ·by_cases hbb : b = b'
   ·subst hbb
    have hlt : b < H.length := (List.getElem?_eq_some_iff.1 hk).1
    simp [hlt] at e
    subst e
    cases hl'
   ·rw [List.getElem?_set_ne hbb] at e
    exact hbb (r.inj b b' L L' k q hb h hoL ho' hk e hl hl' hz.symm)
 ·rcases h with h | rfl
  ·exact .inl h
  ·exact .inr (.inr ⟨b,L,k,hb,hoL,rfl,hk,hl⟩)
theorem St.freeze0 (r : Rel B m H w) {b : Nat} {k : Blk} (hk : H[b]? = some k) : St B H m w (H.set b { k with live := false }) m w := St.drop r hk
theorem Zrj {H : Heap} {b i : Nat} {k q : Blk} (h : (H.frzH b k)[i]? = some q) : ∃ q0,(H.set b { k with live := false })[i]? = some q0 ∧ q = { q0 with rows := q0.rows.map (frzs b k) } := by
 unfold Heap.frzH at h
 rw [List.getElem?_map] at h
 cases h0 : (H.set b { k with live := false })[i]? with
 | none => rw [h0] at h; cases h
 | some q0 => rw [h0] at h; exact ⟨q0,rfl,by injection h with h; exact h.symm⟩
theorem Zbhi {H : Heap} {b i : Nat} {k q0 : Blk} (h : (H.set b { k with live := false })[i]? = some q0) : (H.frzH b k)[i]? = some { q0 with rows := q0.rows.map (frzs b k) } := by
 unfold Heap.frzH
 rw [List.getElem?_map,h]
 rfl
theorem St.frzH_of (r : Rel B m H w) {b : Nat} {k : Blk} (hk : H[b]? = some k) {m1 : LMap} (s : St B H m w (H.set b { k with live := false }) m1 w)
  (hm1 : ∀ b L,m1 b = some L → m b = some L) (hv : ∀ {c : Cell} {v : Value},VR m (Zj w) c v → VR m1 (Zj w) (c.frz b k) v) : St B H m w (H.frzH b k) m1 w := by
 refine { s with hle := ⟨by unfold Heap.frzH; rw [List.length_map]; exact s.hle.len,fun b' k' hb' e => by
   obtain ⟨q0,e0,rfl⟩ := Zrj e
   exact s.hle.blk b' q0 hb' e0⟩,rel := ⟨s.rel.base,fun b' L' h => ?_,s.rel.zlt,fun b' L' q h ho' e hl' => ?_,fun b1 b2 L1 L2 k1 k2 h1 h2 o1 o2 e1 e2 l1 l2 => ?_,s.rel.lib⟩ }
 ·obtain ⟨q,eq,hq⟩ := s.rel.blk b' L' h
  refine ⟨_,Zbhi eq,⟨hq.sz,hq.own,hq.lt,hq.ours,hq.foreign,fun hl' i row hrow => ?_,hq.row⟩⟩
  have hl0 : q.live = true := hl'
  by_cases hbb : b = b'
  ·subst hbb
   have hlt : b < H.length := (List.getElem?_eq_some_iff.1 hk).1
   simp [hlt] at eq
   subst eq
   cases hl0
  ·obtain ⟨q2,eq2,hq2⟩ := r.blk b' L' (hm1 _ _ h)
   rw [List.getElem?_set_ne hbb,eq2] at eq
   injection eq with eq
   subst eq
   simp only [List.getElem?_map] at hrow
   cases h0 : q2.rows[i]? with
   | none => rw [h0] at hrow; cases hrow
   | some r0 =>
    rw [h0] at hrow
    injection hrow with hrow
    subst hrow
    obtain ⟨g1,g2⟩ := hq2.rows hl0 i r0 h0
    refine ⟨by rw [Zg1]; exact g1,fun f c hc => ?_⟩
    obtain ⟨d,hd,rfl⟩ := Zkg hc
    obtain ⟨v,e1,e2⟩ := g2 f d hd
    exact ⟨v,e1,hv e2⟩
 ·obtain ⟨q0,e0,rfl⟩ := Zrj e
  exact s.rel.zown b' L' q0 h ho' e0 hl'
 ·obtain ⟨q1,e1',rfl⟩ := Zrj e1
  obtain ⟨q2,e2',rfl⟩ := Zrj e2
  exact s.rel.inj b1 b2 L1 L2 q1 q2 h1 h2 o1 o2 e1' e2' l1 l2
theorem St.freezeH (r : Rel B m H w) {b : Nat} {L : Loc} {k : Blk} (hb : m b = some L) (hk : H[b]? = some k) (ho : k.own = true) (hl : k.live = true) : St B H m w (H.frzH b k) (m.froze L.g) w :=
 St.frzH_of r hk (St.freeze r hb hk ho hl) (fun _ _ h => h) fun h => h.frz r hb hk hl
theorem St.freezeH0 (r : Rel B m H w) {b : Nat} {k : Blk} (hb : m b = none) (hk : H[b]? = some k) : St B H m w (H.frzH b k) m w :=
 St.frzH_of r hk (St.freeze0 r hk) (fun _ _ h => h) fun h => h.frz0 hb
def LMap.without (m : LMap) (n : Nat) : LMap := ⟨fun x => if x = n then none else m x,m.z⟩
theorem St.shed {n : Nat} {k : Blk} {m' : LMap} {w' : World} (r : Rel B m H w) (hn : n = H.length) (s : St B H m w (H ++ [k]) m' w') : St B H m w H (m'.without n) w' := by
 subst hn
 have hmem : ∀ b L,(m'.without H.length) b = some L → m' b = some L ∧ b ≠ H.length := fun b L h => by
  simp only [LMap.without] at h
  split at h
  ·cases h
  ·rename_i hne; exact ⟨h,hne⟩
 have hlt : ∀ b L,(m'.without H.length) b = some L → b < H.length := fun b L h => by
  obtain ⟨h1,h2⟩ := hmem b L h
  have := s.rel.lt h1
  simp at this; omega
 have hget : ∀ b,b < H.length → (H ++ [k])[b]? = H[b]? := fun b h => List.getElem?_append_left h
 refine ⟨fun b L h => ?_,fun b L h h' => s.dom b L h (hmem b L h').1,⟨s.rel.base,fun b L h => ?_,s.rel.zlt,fun b L q h ho e hl => ?_,fun b b' L L' q q' h h' ho ho' e e' hl hl' hg => ?_,s.rel.lib⟩,s.frame,fun b L h h' => s.fresh b L h (hmem b L h').1,s.size,s.szs,s.os,s.tape,s.output,
  HLe.refl _,s.zext,s.zfresh,s.drawn⟩
 ·have := r.lt h
  simp only [LMap.without]
  rw [if_neg (by omega)]
  exact s.ext b L h
 ·obtain ⟨q,eq,hq⟩ := s.rel.blk b L (hmem b L h).1
  rw [hget b (hlt b L h)] at eq
  refine ⟨q,eq,hq.sz,hq.own,hq.lt,hq.ours,hq.foreign,fun hl i row e => ?_,hq.row⟩
  obtain ⟨h1,h2⟩ := hq.rows hl i row e
  refine ⟨h1,fun f c ec => ?_⟩
  obtain ⟨v,e1,e2⟩ := h2 f c ec
  refine ⟨v,e1,?_⟩
  cases hm : m b with
  | none => exact absurd (s.dom b L hm (hmem b L h).1) (by have := hlt b L h; omega)
  | some L0 =>
   have hL : L0 = L := by
    have := (s.ext b L0 hm).symm.trans (hmem b L h).1
    injection this
   subst hL
   obtain ⟨q0,eq0,hq0⟩ := r.blk b L0 hm
   rw [eq] at eq0; injection eq0 with eq0; subst eq0
   obtain ⟨_,h2'⟩ := hq0.rows hl i row e
   obtain ⟨v0,_,e20⟩ := h2' f c ec
   have key : ∀ {c : Cell} {v v0 : Value} {σ σ0 : Mem},VR m' σ c v → VR m σ0 c v0 → VR (m'.without H.length) σ c v := by
    intro c v v0 σ σ0 hv
    revert v0
    have old : ∀ b L,m b = some L → (m'.without H.length) b = m' b := fun b L h => by
     have := r.lt h
     simp only [LMap.without]
     rw [if_neg (by omega)]
    induction hv with
    | int => intro _ _; exact .int _ _
    | bool => intro _ _; exact .bool _
    | str => intro _ _; exact .str _
    | nilI => intro _ _; exact .nilI
    | nilF => intro _ _; exact .nilF
    | nilS => intro _ _; exact .nilS
    | nilP => intro _ _; exact .nilP
    | ptr e => intro _ h'; cases h' with | ptr e' => exact .ptr (by rw [old _ _ e']; exact e)
    | slc h1 h2 h3 h4 =>
     intro _ h'
     cases h' with
     | slc _ _ _ h4' =>
      obtain ⟨L,e,h5⟩ := h4
      obtain ⟨L',e',_⟩ := h4'
      exact .slc h1 h2 h3 ⟨L,by rw [old _ _ e']; exact e,h5⟩
    | fn hl _ ih =>
     intro _ h'
     cases h' with
     | @fn _ _ vs' hl' hk' =>
      refine .fn hl fun i c v hc hv => ?_
      have hi : i < _ := (List.getElem?_eq_some_iff.1 hc).1
      obtain ⟨v',hv'⟩ : ∃ v',vs'[i]? = some v' := ⟨vs'[i]'(by omega),by simp [show i < vs'.size by omega]⟩
      exact ih i c v hc hv (hk' i c v' hc hv')
    | ifaceC _ ih =>
     intro _ h'
     cases h' with
     | ifaceC h' => exact .ifaceC (ih h')
    | ifaceA hl _ ih =>
     intro _ h'
     cases h' with
     | @ifaceA _ _ vs' hl' hk' =>
      refine .ifaceA hl fun i c v hc hv => ?_
      have hi : i < _ := (List.getElem?_eq_some_iff.1 hc).1
      obtain ⟨v',hv'⟩ : ∃ v',vs'[i]? = some v' := ⟨vs'[i]'(by omega),by simp [show i < vs'.size by omega]⟩
      exact ih i c v hc hv (hk' i c v' hc hv')
    | zerN => intro _ _; exact .zerN
    | zerS => intro _ _; exact .zerS
    | emp h => intro _ _; exact .emp h
    | lstN => intro _ _; exact .lstN
    | lst h1 h2 h3 h4 h5 _ ih =>
     intro _ h'
     refine .lst h1 h2 h3 h4 h5 fun i r f x e1 e2 => ?_
     cases h' with
     | lstN => simp at e1
     | lst _ _ _ _ _ k6 => exact ih i r f x e1 e2 (k6 i r f x e1 e2)
    | fp h1 h2 _ ih =>
     intro _ h'
     cases h' with
     | fp _ _ k3 => exact .fp h1 h2 fun j x e => ih j x e (k3 j x e)
   exact key e2 e20
 ·rw [← hget b (hlt b L h)] at e
  exact s.rel.zown b L q (hmem b L h).1 ho e hl
 ·rw [← hget b (hlt b L h)] at e
  rw [← hget b' (hlt b' L' h')] at e'
  exact s.rel.inj b b' L L' q q' (hmem b L h).1 (hmem b' L' h').1 ho ho' e e' hl hl' hg
theorem Zjr {σ : Mem} {c c' : Cell} {v : Value} (h : Z2x c = some c') (hv : VR m σ c v) : VR m σ c' v := by
 cases hv <;> simp only [Z2x] at h <;> try (cases h; done)
 case zerN => injection h with h; subst h; exact .lstN
 case zerS => injection h with h; subst h; exact VR.lst' (A := _) (g := 0) (o := 0) (vs := fun _ _ => undef) rfl (Nat.le_refl _) (Nat.zero_le _) (fun h => absurd rfl h) (fun i r e => by simp at e) (fun i r f x e => by simp at e) (fun i r f x e => by simp at e)
 case emp hc => injection h with h; subst h; exact VR.lst' (A := _) (g := 0) (o := 0) (vs := fun _ _ => undef) rfl (Nat.zero_le _) hc (fun h => absurd rfl h) (fun i r e => by simp at e) (fun i r f x e => by simp at e) (fun i r f x e => by simp at e)
 case slc b s n sz z A c h1 h2 h3 h4 =>
  cases n with
  | succ n => simp at h
  | zero =>
   simp at h; subst h
   exact VR.lst' (A := _) (g := 0) (o := 0) (vs := fun _ _ => undef) rfl h1 h3 (fun h => absurd rfl h) (fun i r e => by simp at e) (fun i r f x e => by simp at e) (fun i r f x e => by simp at e)
theorem Z9f (r : Rel B m H w) {E : List Blk} {v v' : AVal} {m1 : LMap} {w1 : World} {u : Value} (s : St B H m w (H ++ E) m1 w1) (hv : VRA m1 (Zj w1) v u) (h : frzE H.length E v = some v') :
  ∃ m2,St B H m w H m2 w1 ∧ VRA m2 (Zj w1) v' u := by
 unfold frzE at h
 split at h
 ·rw [List.append_nil] at s
  split at h <;> try (cases h; done)
  rename_i c
  cases hc : Z2x c with
  | none => rw [hc] at h; cases h
  | some c' =>
   rw [hc] at h
   simp at h
   subst h
   cases hv with
   | c hv => exact ⟨m1,s,.c (Zjr hc hv)⟩
 ·rename_i k
  split at h <;> try (cases h; done)
  rename_i hk
  have hlast : (H ++ [k])[H.length]? = some k := by simp
  simp only [Bool.and_eq_true] at hk
  injection h with h
  subst h
  cases hm : m1 H.length with
  | none => exact ⟨_,s.shed r rfl,(hv.frz0 hm).closed (m := m1) (m' := m1.without H.length) (fun _ h => h) hk.2⟩
  | some L =>
   have sf := St.freeze s.rel hm hlast hk.1.1 hk.1.2
   have hset : (H ++ [k]).set H.length { k with live := false } = H ++ [{ k with live := false }] := by simp
   rw [hset] at sf
   exact ⟨_,(s.trans r sf).shed r rfl,(hv.frz s.rel hm hlast hk.1.2).closed (m := m1.froze L.g) (m' := (m1.froze L.g).without H.length) (fun _ h => h) hk.2⟩
 ·cases h
end Go.Proofs.YticmfblfghdkbaaGreatDoor.Eng
namespace Go.Proofs.YticmfblfghdkbaaGreatDoor.Eng
open Go
variable {P : Program} {B : Nat} {m : LMap} {H : Heap} {w : World}
def EnvAll (m : LMap) (σ : Mem) (e : Env) (a : Act) : Prop := ∀ t,VRA m σ (e t) (a.tmps.getD t undef)
theorem EnvAll.on {σ : Mem} {e : Env} {a : Act} (h : EnvAll m σ e a) (ts : List Nat) : EnvOn m σ ts e a := fun t _ => h t
theorem EnvAll.mono {σ m' σ'} {e : Env} {a : Act} (h : EnvAll m σ e a) (hm : MLe m σ m' σ') : EnvAll m' σ' e a := fun t => (h t).mono hm
theorem Zkh (a : Act) (d : Option Nat) (u : Value) : (a.put d u).defers = a.defers ∧ (a.put d u).tmps.size = a.tmps.size := by
 cases d <;> simp [Act.put]
theorem Zwq {a : Act} {N : Nat} (hN : N ≤ a.tmps.size) {d : Option Nat} (hd : Zl8 N d = true) (u : Value) (t : Nat) : (a.put d u).tmps.getD t undef = if d = some t then u else a.tmps.getD t undef := by
 cases d with
 | none => simp [Act.put]
 | some d =>
  have hd' : d < a.tmps.size := by simp [Zl8] at hd; omega
  simp only [Act.put,Array.getD_eq_getD_getElem?,Array.getElem?_setIfInBounds,Option.some.injEq]
  by_cases h : d = t
  ·subst h; simp [hd']
  ·simp [h]
theorem EnvAll.put {σ : Mem} {e : Env} {a : Act} {N : Nat} (h : EnvAll m σ e a) (hN : N ≤ a.tmps.size) {d : Option Nat} (hd : Zl8 N d = true) {v : AVal} {u : Value} (hv : VRA m σ v u) : EnvAll m σ (updO e d v) (a.put d u) := by
 intro t
 rw [Zwq hN hd]
 cases d with
 | none => simpa [updO] using h t
 | some d =>
  simp only [updO,upd,Option.some.injEq]
  by_cases hdt : d = t
  ·subst hdt; simpa using hv
  ·rw [if_neg hdt,if_neg (fun h => hdt h.symm)]; exact h t
structure CallSound (P : Program) (f : Nat) (args : List AVal) (H : Heap) (v : AVal) (H' : Heap) : Prop where
 there : ∃ fn,P.funcs[f]? = some fn ∧ fn.body.isSome = true ∧ (fn.name == "runtime.NumGoroutine") = false
 calls : ∀ (B : Nat) (m : LMap) (w : World) (vs : Array Value),Rel B m H w → All2 (VRA m (Zj w)) args vs.toList →
  Calls P f vs w fun e w' => ∃ u m',e = .returned u ∧ St B H m w H' m' w' ∧ VRA m' (Zj w') v u
inductive SOp (P : Program) (d : Bool) (x : AInstr) (e : Env) (H : Heap) (v : AVal) (H1 : Heap) : Prop where
 | ev : ev x.op e H = some (v,H1) → SOp P d x e H v H1
 | evF {v0 E} : ev x.op e H = some (v0,H ++ E) → frzE H.length E v0 = some v → H1 = H → SOp P d x e H v H1
 | call {fo args f caps} : x.op = .call fo args → Opd.ev e fo = .c (.fn f caps) → CallSound P f (args.map (Opd.ev e) ++ caps.map .c) H v H1 → (d = true → x.op.isT = false → H <+: H1) → SOp P d x e H v H1
theorem Z27 {R : AVal → Value → Prop} {e : Env} : ∀ {ys : List Opd} {vs : List Value},All2 (fun y v => R (y.ev e) v) ys vs → All2 R (ys.map (Opd.ev e)) vs
 | [],_,h => by cases h; exact .nil
 | y :: ys,_,h => by cases h with | cons a b => exact .cons a (Z27 b)
theorem Zbae {σ : Mem} : ∀ {cs : List Cell} {vs : List Value},All2 (VR m σ) cs vs → All2 (VRA m σ) (cs.map .c) vs
 | [],_,h => by cases h; exact .nil
 | c :: cs,_,h => by cases h with | cons a b => exact .cons (.c a) (Zbae b)
theorem Zeu {N : Nat} {ops : Array Oper} {o : Oper} {x : AInstr} (hx : Z6 P N ops o = x) (hb : x.op ≠ .bad) : Zl8 N o.dst = true ∧ x.dst = o.dst ∧ x.op = upOp ops o.dst (Zf1 P o) ∧ Znd ops o.guard = some x.guard := by
 subst hx
 cases hg : Znd ops o.guard with
 | none => exact absurd (by simp [Z6,hg]) hb
 | some g =>
  by_cases hd : Zl8 N o.dst = true
  ·have : Z6 P N ops o = { dst := o.dst,op := upOp ops o.dst (Zf1 P o),guard := g } := by simp [Z6,hg,hd]
   rw [this]
   exact ⟨hd,rfl,rfl,rfl⟩
  ·exact absurd (by simp [Z6,hg,hd]) hb
theorem Zhb {N : Nat} {ops : Array Oper} {o : Oper} : (Z6 P N ops o).dst = o.dst := by
 unfold Z6
 split
 ·split <;> rfl
 ·rfl
theorem SOp.notBad {d : Bool} {x : AInstr} {e : Env} {H1 : Heap} {v : AVal} (h : SOp P d x e H v H1) : x.op ≠ .bad := by
 cases h with
 | ev h => intro hb; rw [hb] at h; simp [Eng.ev] at h
 | evF h => intro hb; rw [hb] at h; simp [Eng.ev] at h
 | call h => intro hb; rw [hb] at h; cases h
theorem Zpl {σ : Mem} {ops : Array Oper} {o : Oper} {g : Option (Nat × Bool)} (hg : Znd ops o.guard = some g) {e : Env} {a : Act} (he : ∀ t b,g = some (t,b) → VRA m σ (e t) (a.tmps.getD t undef)) :
  Region.wanted o (yielded ops a.tmps) = goes g e := by
 unfold Znd at hg
 split at hg
 ·rename_i hn
  injection hg with hg; subst hg
  simp [Region.wanted,hn,goes]
 ·rename_i j b hj
  split at hg
  ·rename_i t ht
   injection hg with hg; subst hg
   have hv := he t b rfl
   simp only [Region.wanted,hj,goes]
   have hy : yielded ops a.tmps j = match a.tmps.getD t undef with | .bool b => some b | _ => none := by
    simp only [yielded,ht,Option.bind_some,Array.getD_eq_getD_getElem?]
    cases a.tmps[t]? with
    | none => rfl
    | some q => cases q <;> rfl
   rw [hy]
   generalize a.tmps.getD t undef = q at hv
   generalize e t = et at hv
   cases hv with
   | c hv => cases hv <;> simp
   | agg => simp
   | tup => simp
  ·cases hg
theorem Zm4 (r : Rel B m H w) {N : Nat} {ops : Array Oper} {o : Oper} {d : Bool} {e : Env} {v : AVal} {H1 : Heap} {a : Act} (hs : SOp P d (Z6 P N ops o) e H v H1) (he : EnvOn m (Zj w) (Z6 P N ops o).reads e a)
  (hg : goes (Z6 P N ops o).guard e = true) {K : Act → World → Prop} {Q : Exit → Act → World → Prop} (hK : ∀ m' w' u,St B H m w H1 m' w' → VRA m' (Zj w') v u → K (a.put o.dst u) w') :
  Region.wanted o (yielded ops a.tmps) = true ∧ o.wp P a w K Q := by
 obtain ⟨hd,h1,h2,h3⟩ := Zeu rfl hs.notBad
 have hguard := Zpl (m := m) (σ := Zj w) h3 (e := e) (a := a) (fun t b ht => he t (by simp [AInstr.reads,ht]))
 refine ⟨by rw [hguard]; exact hg,?_⟩
 have he' : EnvOn m (Zj w) (Zf1 P o).reads e a := by
  rw [← Z7m ops o.dst,← h2]
  intro t ht
  exact he t (by simp [AInstr.reads,ht])
 unfold Oper.wp
 cases hs with
 | ev hev =>
  rw [h2] at hev
  replace hev := Zbgo hev
  obtain ⟨n,u,w',m',k1,k2,k3,k4⟩ := Z4u (P := P) r hev he'
  rw [k1]
  rcases k2 with rfl | ⟨rfl,rfl⟩
  ·exact hK m' w' u k3 k4
  ·exact hK m' w' undef k3 k4
 | evF hev hf hH =>
  subst hH
  rw [h2] at hev
  replace hev := Zbgo hev
  obtain ⟨n,u,w',m',k1,k2,k3,k4⟩ := Z4u (P := P) r hev he'
  obtain ⟨m2,k5,k6⟩ := Z9f r k3 k4 hf
  rw [k1]
  rcases k2 with rfl | ⟨rfl,rfl⟩
  ·exact hK m2 w' u k5 k6
  ·exact hK m2 w' undef k5 k6
 | call hop hfo hcs hpre =>
  rename_i fo args f caps
  rw [h2] at hop
  obtain ⟨fo2,hop2,hfe⟩ := Zbcw hop
  rw [← hfe e] at hfo
  replace hop := hop2
  clear hop2 hfe
  obtain ⟨s,hs',hcs'⟩ : ∃ s,Zb6 P o = some s ∧ Zf1 P o = s := by
   cases hq : Zb6 P o with
   | none => simp [Zf1,hq] at hop
   | some s => exact ⟨s,rfl,by simp [Zf1,hq]⟩
  rw [hcs'] at hop
  subst hop
  have hcall : ∃ c g,o.op = .call c ∧ c.callee = .value g ∧ Zx g = some fo2 ∧ Ze0 c.args.toList = some args := by
   cases ho : o.op <;> simp only [Zb6,ho] at hs' <;> try (cases hs'; done)
   case call c =>
    refine ⟨c,?_⟩
    unfold Zuf at hs'
    cases hcal : c.callee with
    | value g =>
     simp only [hcal] at hs'
     split at hs' <;> try (cases hs'; done)
     rename_i f' xs hf' hxs
     injection hs' with hs'
     injection hs' with e1 e2
     subst e1; subst e2
     exact ⟨g,rfl,rfl,hf',hxs⟩
    | invoke _ _ => simp only [hcal] at hs'; cases hs'
    | builtin b =>
     simp only [hcal] at hs'
     cases b <;> simp only [] at hs' <;> try (cases hs'; done)
     all_goals
      exfalso
      repeat' (first
       | contradiction
       | (cases hs'; done)
       | (injection hs' with hs'; cases hs'; done)
       | split at hs')
   case binOp op t x y yt =>
    exfalso
    unfold Zx4 at hs'
    repeat' (first
       | contradiction
       | (cases hs'; done)
       | (injection hs' with hs'; cases hs'; done)
       | split at hs')
   all_goals
    exfalso
    repeat' (first
       | contradiction
       | (cases hs'; done)
       | (injection hs' with hs'; cases hs'; done)
       | split at hs')
  obtain ⟨c,g,ho,hcal,hg',hargs⟩ := hcall
  rw [hcs'] at he'
  simp only [AOp.reads] at he'
  have vf := Zbf hg' he'.left hfo
  have hall := Zmz hargs he'.right
  generalize hgf : a.eval g = gv at vf
  cases vf with
  | fn hl hk =>
   rename_i vs
   have hcaps : All2 (VR m (Zj w)) caps vs.toList := All2.of_get (by simpa using hl) (fun i x y hx hy => hk i x y hx (by simpa using hy))
   obtain ⟨fn,hfn,hbody,hname⟩ := hcs.there
   have hbody' : fn.body.isNone = false := by cases h : fn.body <;> simp_all
   have hrun : (execOp a.eval o).run P w = .ok (.enter f (c.args.map a.eval ++ vs)) w := by
    obtain ⟨callee,cargs,argTypes⟩ := c
    simp only at hcal
    subst hcal
    have hname' : ¬ fn.name = "runtime.NumGoroutine" := by simpa using hname
    have hbody2 : ¬ fn.body = none := by intro h; rw [h] at hbody'; simp at hbody'
    unfold execOp
    simp only [ho]
    simp [resolve,Deferred.ofValue,hgf,invoke,callFunc,hfn,hname',hbody2]
   rw [hrun]
   simp only [Oper.upon]
   have hvs : All2 (VRA m (Zj w)) (args.map (Opd.ev e) ++ caps.map .c) (c.args.map a.eval ++ vs).toList := by
    simp only [Array.toList_append,Array.toList_map]
    exact (Z27 hall).append (Zbae hcaps)
   refine (hcs.calls B m w _ r hvs).mono ?_
   rintro e' w' ⟨u,m',rfl,k1,k2⟩
   exact hK m' w' u k1 k2
theorem Z3b {ops : Array Oper} {Q : Exit → Act → World → Prop} {i : Nat} {rest : List Nat} {a : Act} {w : World} {o : Oper} (ho : ops[i]? = some o) (h : (Region.wanted o (yielded ops a.tmps) = true ∧ o.wp P a w (wpOps P ops Q rest) Q) ∨ (Region.wanted o (yielded ops a.tmps) = false ∧ wpOps P ops Q rest (a.put o.dst undef) w)) :
  wpOps P ops Q (i :: rest) a w := by
 simp only [wpOps,ho]
 rcases h with ⟨h1,h2⟩ | ⟨h1,h2⟩
 ·rw [if_pos h1]; exact .inl h2
 ·rw [h1]; simpa using h2
inductive Zmp (P : Program) (d : Bool) : List AInstr → Env → Heap → Env → Heap → Prop where
 | nil {e H} : Zmp P d [] e H e H
 | go {x l e H v H1 e' H'} : goes x.guard e = true → SOp P d x e H v H1 → Zmp P d l (updO e x.dst v) H1 e' H' → Zmp P d (x :: l) e H e' H'
 | off {x l e H e' H'} : x.op ≠ .bad → goes x.guard e = false → Zmp P d l (updO e x.dst Zfo) H e' H' → Zmp P d (x :: l) e H e' H'
theorem Zxu {i n : Nat} (h : i < n) : List.range' i (n - i) = i :: List.range' (i + 1) (n - (i + 1)) := by
 rw [show n - i = (n - (i + 1)) + 1 by omega]
 rfl
theorem Z8z {N : Nat} {ops : Array Oper} {d : Bool} {l : List AInstr} {e e' : Env} {H H' : Heap} (ht : Zmp P d l e H e' H') :
  ∀ (i : Nat),l = (ops.toList.drop i).map (Z6 P N ops) → ∀ (B : Nat) (m : LMap) (w : World) (a : Act) (Q : Exit → Act → World → Prop),Rel B m H w → EnvAll m (Zj w) e a → N ≤ a.tmps.size →
   (∀ m' w' a',St B H m w H' m' w' → EnvAll m' (Zj w') e' a' → a'.defers = a.defers → a'.tmps.size = a.tmps.size → Q .normal a' w') → wpOps P ops Q (List.range' i (ops.size - i)) a w := by
 induction ht with
 | nil =>
  intro i hl B m w a Q r he hN hQ
  have hi : ops.size ≤ i := by
   cases hd : ops.toList.drop i with
   | nil => simpa using hd
   | cons x xs => rw [hd] at hl; simp at hl
  rw [show ops.size - i = 0 by omega]
  exact hQ m w a (St.refl r) he rfl rfl
 | @go x l e H v H1 e' H' hg hs _ ih =>
  intro i hl B m w a Q r he hN hQ
  cases hd : ops.toList.drop i with
  | nil => rw [hd] at hl; simp at hl
  | cons o os =>
   have hi : i < ops.size := by
    have : (ops.toList.drop i).length ≠ 0 := by rw [hd]; simp
    simp at this; omega
   rw [hd] at hl
   simp only [List.map_cons,List.cons.injEq] at hl
   obtain ⟨hx,hl⟩ := hl
   have ho : ops[i]? = some o := by
    have : ops.toList[i]? = some o := by rw [List.getElem?_eq_getElem (by simpa using hi)]; rw [List.drop_eq_getElem_cons (by simpa using hi)] at hd; injection hd with hd1 hd2; rw [hd1]
    simpa using this
   have hos : os = ops.toList.drop (i + 1) := by
    rw [List.drop_eq_getElem_cons (by simpa using hi)] at hd; injection hd with hd1 hd2; exact hd2.symm
   subst hx
   have hdst := (Zeu rfl hs.notBad).1
   rw [Zxu hi]
   refine Z3b ho (.inl (Zm4 r hs (he.on _) hg fun m' w' u hst hv => ?_))
   have he2 : EnvAll m' (Zj w') (updO e (Z6 P N ops o).dst v) (a.put o.dst u) := by
    rw [Zhb]
    exact (he.mono (hst.mle r)).put hN hdst hv
   have hp := Zkh a o.dst u
   exact ih (i + 1) (by rw [hl,hos]) B m' w' _ Q hst.rel he2 (by rw [hp.2]; exact hN) fun m2 w2 a2 s2 e2 d2 z2 => hQ m2 w2 a2 (hst.trans r s2) e2 (by rw [d2,hp.1]) (by rw [z2,hp.2])
 | @off x l e H e' H' hnb hg _ ih =>
  intro i hl B m w a Q r he hN hQ
  cases hd : ops.toList.drop i with
  | nil => rw [hd] at hl; simp at hl
  | cons o os =>
   have hi : i < ops.size := by
    have : (ops.toList.drop i).length ≠ 0 := by rw [hd]; simp
    simp at this; omega
   rw [hd] at hl
   simp only [List.map_cons,List.cons.injEq] at hl
   obtain ⟨hx,hl⟩ := hl
   have ho : ops[i]? = some o := by
    have : ops.toList[i]? = some o := by rw [List.getElem?_eq_getElem (by simpa using hi)]; rw [List.drop_eq_getElem_cons (by simpa using hi)] at hd; injection hd with hd1 hd2; rw [hd1]
    simpa using this
   have hos : os = ops.toList.drop (i + 1) := by
    rw [List.drop_eq_getElem_cons (by simpa using hi)] at hd; injection hd with hd1 hd2; exact hd2.symm
   subst hx
   obtain ⟨hdst,_,_,hgd⟩ := Zeu (P := P) (N := N) (ops := ops) (o := o) rfl hnb
   have hguard := Zpl (m := m) (σ := Zj w) hgd (e := e) (a := a) (fun t b ht => he t)
   rw [Zxu hi]
   refine Z3b ho (.inr ⟨by rw [hguard]; exact hg,?_⟩)
   have he2 : EnvAll m (Zj w) (updO e (Z6 P N ops o).dst Zfo) (a.put o.dst undef) := by
    rw [Zhb]
    exact he.put hN hdst VRA.undef
   have hp := Zkh a o.dst undef
   exact ih (i + 1) (by rw [hl,hos]) B m w _ Q r he2 (by rw [hp.2]; exact hN) fun m2 w2 a2 s2 e2 d2 z2 => hQ m2 w2 a2 s2 e2 (by rw [d2,hp.1]) (by rw [z2,hp.2])
end Go.Proofs.YticmfblfghdkbaaGreatDoor.Eng
namespace Go.Proofs.YticmfblfghdkbaaGreatDoor.Eng
open Go
variable {P : Program} {B : Nat} {m : LMap} {H : Heap} {w : World}
theorem Zb3 {H H' : Heap} (h : H <+: H') {b : Nat} (hb : b < H.length) : H'[b]? = H[b]? := by
 obtain ⟨E,rfl⟩ := h
 exact List.getElem?_append_left hb
theorem Rel.more (r : Rel B m H w) {H' : Heap} (h : H <+: H') : Rel B m H' w := by
 refine ⟨r.base,fun b L hb => ?_,r.zlt,fun b L k hb ho e => ?_,fun b b' L L' k k' hb hb' ho ho' e e' => ?_,r.lib⟩
 ·obtain ⟨k,e,hk⟩ := r.blk b L hb
  exact ⟨k,by rw [Zb3 h (r.lt hb)]; exact e,hk⟩
 ·rw [Zb3 h (r.lt hb)] at e
  exact r.zown b L k hb ho e
 ·rw [Zb3 h (r.lt hb)] at e
  rw [Zb3 h (r.lt hb')] at e'
  exact r.inj b b' L L' k k' hb hb' ho ho' e e'
theorem St.more {H' H'' : Heap} {m' w'} (s : St B H m w H' m' w') (h : H' <+: H'') : St B H m w H'' m' w' :=
 ⟨s.ext,s.dom,s.rel.more h,s.frame,s.fresh,s.size,s.szs,s.os,s.tape,s.output,s.hle.trans (HLe.of_prefix h),s.zext,s.zfresh,s.drawn⟩
def LMap.cut (m mi : LMap) : LMap := ⟨fun b => if (mi b).isSome then m b else none,m.z⟩
theorem LMap.cut_some {m mi : LMap} {b : Nat} {L : Loc} : m.cut mi b = some L ↔ (m b = some L ∧ ∃ L',mi b = some L') := by
 unfold LMap.cut
 cases h : mi b <;> simp [h]
theorem VR.inter {mi : LMap} {σ σi : Mem} {c : Cell} {v : Value} (h : VR m σ c v) : ∀ {v' : Value},VR mi σi c v' → VR (m.cut mi) σ c v := by
 induction h with
 | int => intro _ _; exact .int _ _
 | bool => intro _ _; exact .bool _
 | str => intro _ _; exact .str _
 | nilI => intro _ _; exact .nilI
 | nilF => intro _ _; exact .nilF
 | nilS => intro _ _; exact .nilS
 | nilP => intro _ _; exact .nilP
 | ptr e =>
  intro _ h'
  cases h' with
  | ptr e' => exact .ptr (LMap.cut_some.2 ⟨e,_,e'⟩)
 | slc h1 h2 h3 h4 =>
  intro _ h'
  cases h' with
  | slc _ _ _ h4' =>
   obtain ⟨L,e,h5⟩ := h4
   obtain ⟨L',e',_⟩ := h4'
   exact .slc h1 h2 h3 ⟨L,LMap.cut_some.2 ⟨e,_,e'⟩,h5⟩
 | fn hl _ ih =>
  intro _ h'
  cases h' with
  | @fn _ _ vs' hl' hk' =>
   refine .fn hl fun i c v hc hv => ?_
   have hi : i < _ := (List.getElem?_eq_some_iff.1 hc).1
   obtain ⟨v',hv'⟩ : ∃ v',vs'[i]? = some v' := ⟨vs'[i]'(by omega),by simp [show i < vs'.size by omega]⟩
   exact ih i c v hc hv (hk' i c v' hc hv')
 | ifaceC _ ih =>
  intro _ h'
  cases h' with
  | ifaceC h' => exact .ifaceC (ih h')
 | ifaceA hl _ ih =>
  intro _ h'
  cases h' with
  | @ifaceA _ _ vs' hl' hk' =>
   refine .ifaceA hl fun i c v hc hv => ?_
   have hi : i < _ := (List.getElem?_eq_some_iff.1 hc).1
   obtain ⟨v',hv'⟩ : ∃ v',vs'[i]? = some v' := ⟨vs'[i]'(by omega),by simp [show i < vs'.size by omega]⟩
   exact ih i c v hc hv (hk' i c v' hc hv')
 | zerN => intro _ _; exact .zerN
 | zerS => intro _ _; exact .zerS
 | emp h => intro _ _; exact .emp h
 | lstN => intro _ _; exact .lstN
 | lst h1 h2 h3 h4 h5 _ ih =>
  intro _ h'
  refine .lst h1 h2 h3 h4 h5 fun i r f x e1 e2 => ?_
  cases h' with
  | lstN => simp at e1
  | lst _ _ _ _ _ k6 => exact ih i r f x e1 e2 (k6 i r f x e1 e2)
 | fp h1 h2 _ ih =>
  intro _ h'
  cases h' with
  | fp _ _ k3 => exact .fp h1 h2 fun j x e => ih j x e (k3 j x e)
theorem Zzg {mi : LMap} {σ σi : Mem} : ∀ {cs : List Cell} {vs vs' : List Value},All2 (VR m σ) cs vs → All2 (VR mi σi) cs vs' → All2 (VR (m.cut mi) σ) cs vs
 | [],_,_,h,_ => by cases h; exact .nil
 | c :: cs,_,_,h,h' => by
  cases h with
  | cons a b => cases h' with
   | cons a' b' => exact .cons (a.inter a') (Zzg b b')
theorem VRA.inter {mi : LMap} {σ σi : Mem} {x : AVal} {v : Value} (h : VRA m σ x v) : ∀ {v' : Value},VRA mi σi x v' → VRA (m.cut mi) σ x v := by
 induction h with
 | c h =>
  intro _ h'
  cases h' with
  | c h' => exact .c (h.inter h')
 | agg h =>
  intro _ h'
  cases h' with
  | agg h' => exact .agg (Zzg h h')
 | tup hl _ ih =>
  intro _ h'
  cases h' with
  | @tup _ vs' hl' hk' =>
   refine .tup hl fun i c v hc hv => ?_
   have hi : i < _ := (List.getElem?_eq_some_iff.1 hc).1
   obtain ⟨v',hv'⟩ : ∃ v',vs'[i]? = some v' := ⟨vs'[i]'(by omega),by simp [show i < vs'.size by omega]⟩
   exact ih i c v hc hv (hk' i c v' hc hv')
theorem VR.up {m' : LMap} {σ : Mem} {c : Cell} {v : Value} (h : VR m σ c v) (hm : m.Le m') : VR m' σ c v := h.mono (hm.mle σ)
theorem VRA.up {m' : LMap} {σ : Mem} {c : AVal} {v : Value} (h : VRA m σ c v) (hm : m.Le m') : VRA m' σ c v := h.mono (hm.mle σ)
theorem BlkAt.up {m' : LMap} {L : Loc} {k : Blk} (h : BlkAt B m w L k) (hm : m.Le m') : BlkAt B m' w L k :=
 h.carry (hm.mle _) (Nat.le_refl _) fun _ => rfl
theorem Rel.cut {Hi : Heap} {mi : LMap} {wi : World} (r : Rel B m H w) (ri : Rel B mi Hi wi) (h : Hi <+: H) : Rel B (m.cut mi) Hi w := by
 refine ⟨r.base,fun b L hb => ?_,r.zlt,fun b L k hb ho e => ?_,fun b b' L L' k k' hb hb' ho ho' e e' => ?_,r.lib⟩
 rotate_left
 ·obtain ⟨hb,L',hb'⟩ := LMap.cut_some.1 hb
  exact r.zown b L k hb ho (by rw [Zb3 h (ri.lt hb')]; exact e)
 rotate_left
 ·obtain ⟨hb,L',hb'⟩ := LMap.cut_some.1 hb
  obtain ⟨k,e,hk⟩ := r.blk b L hb
  rw [Zb3 h (ri.lt hb')] at e
  obtain ⟨k',e',hk'⟩ := ri.blk b L' hb'
  rw [e] at e'; injection e' with e'; subst e'
  refine ⟨k,e,⟨hk.sz,hk.own,hk.lt,hk.ours,hk.foreign,fun hl i q eq => ?_,hk.row⟩⟩
  obtain ⟨h1,h2⟩ := hk.rows hl i q eq
  obtain ⟨_,h2'⟩ := hk'.rows hl i q eq
  refine ⟨h1,fun f c ef => ?_⟩
  obtain ⟨v,e1,e2⟩ := h2 f c ef
  obtain ⟨v',e1',e2'⟩ := h2' f c ef
  exact ⟨v,e1,e2.inter e2'⟩
 ·obtain ⟨hb,_,hc⟩ := LMap.cut_some.1 hb
  obtain ⟨hb',_,hc'⟩ := LMap.cut_some.1 hb'
  exact r.inj b b' L L' k k' hb hb' ho ho' (by rw [Zb3 h (ri.lt hc)]; exact e) (by rw [Zb3 h (ri.lt hc')]; exact e')
def LMap.join (m m' : LMap) : LMap := ⟨fun b => match m b with | some L => some L | none => m' b,fun g => m.z g ∨ m'.z g⟩
theorem LMap.join_left {m m' : LMap} {b : Nat} {L : Loc} (h : m b = some L) : m.join m' b = some L := by simp [LMap.join,h]
theorem LMap.join_none {m m' : LMap} {b : Nat} (h : m b = none) : m.join m' b = m' b := by simp [LMap.join,h]
theorem St.merge {H0 Hi Hi1 Hq : Heap} {m0 mi m m' : LMap} {w0 w w' : World} (r0 : Rel B m0 H0 w0) (s : St B H0 m0 w0 Hq m w) (hle : H0.length ≤ Hi.length) (hcut : ∀ b L,mi b = some L → m b = some L) (hcz : ∀ g,m.z g → mi.z g) (hzc : ∀ g,mi.z g → m.z g)
  (ri : Rel B mi Hi w) (t : St B Hi mi w Hi1 m' w') (h01 : Hi <+: Hi1) (h1q : Hi1 <+: Hq) (hdis : ∀ b L,m b = some L → Hi.length ≤ b → b < Hi1.length → False) :
  St B H0 m0 w0 Hq (m.join m') w' ∧ m'.Le (m.join m') ∧ MLe m (Zj w) (m.join m') (Zj w') := by
 have hiq : Hi <+: Hq := h01.trans h1q
 have hnew : ∀ b L,mi b = none → m' b = some L → m b = none := fun b L h h' => by
  cases hm : m b with
  | none => rfl
  | some L' => exact (hdis b L' hm (t.dom b L h h') (t.rel.lt h')).elim
 have hup : ∀ b L,m' b = some L → m.join m' b = some L := fun b L h => by
  cases hi : mi b with
  | some L' =>
   have := t.ext b L' hi
   rw [h] at this; injection this with this; subst this
   exact LMap.join_left (hcut b L hi)
  | none => rw [LMap.join_none (hnew b L hi h)]; exact h
 have hext : ∀ b L,m b = some L → m.join m' b = some L := fun b L h => LMap.join_left h
 have himg : ∀ g,Zhd mi Hi g → Zhd m Hq g := by
  rintro g ⟨b,L,k,e,ho,hg,ek,hl⟩
  exact ⟨b,L,k,hcut b L e,ho,hg,by rw [Zb3 hiq (ri.lt e)]; exact ek,hl⟩
 have hmle : MLe m (Zj w) (m.join m') (Zj w') := ⟨hext,fun b L h o => by obtain ⟨_,_,hk⟩ := s.rel.blk b L h; exact t.szs _ (hk.lt (.inl o)),fun g h => .inl h,fun g o h => (t.mle ri).cell g o (hcz g h)⟩
 have hupL : m'.Le (m.join m') := ⟨hup,fun g h => .inr h⟩
 have hfar : ∀ b L k,m b = some L → mi b = none → Hq[b]? = some k → k.live = true → BlkAt B m w L k → ¬ Zhd mi Hi L.g := by
  rintro b L k hb hn ek hl hk ⟨b',L',k',e,ho,hg,ek',hl'⟩
  have e2 : Hq[b']? = some k' := by rw [Zb3 hiq (ri.lt e)]; exact ek'
  obtain ⟨k2,e2',hk2⟩ := s.rel.blk b' L' (hcut b' L' e)
  cases hoL : L.own with
  | true =>
   have := s.rel.inj b b' L L' k k' hb (hcut _ _ e) hoL ho ek e2 hl hl' hg.symm
   subst this
   rw [hn] at e; cases e
  | false =>
   have h1 := hk.foreign hoL hl
   have h2 := (hk2.ours ho).1
   omega
 refine ⟨⟨fun b L h => hext b L (s.ext b L h),fun b L h h' => ?_,⟨Nat.le_trans s.rel.base t.size,fun b L h => ?_,fun g h => h.elim (fun h => Nat.lt_of_lt_of_le (s.rel.zlt g h) t.size) (t.rel.zlt g),?_,?_,t.rel.lib.up (hupL.mle _)⟩,fun g hg hn => ?_,fun b L h h' => ?_,Nat.le_trans s.size t.size,fun g hg => (t.szs g (Nat.lt_of_lt_of_le hg s.size)).trans (s.szs g hg),t.os.trans s.os,t.tape.trans s.tape,t.output.trans s.output,s.hle,fun g h => .inl (s.zext g h),fun g h => ?_,s.drawn.trans t.drawn⟩,hupL,hmle⟩
 ·cases hm : m b with
  | some L' => exact s.dom b L' h hm
  | none =>
   rw [LMap.join_none hm] at h'
   cases hi : mi b with
   | some L' => rw [hcut b L' hi] at hm; cases hm
   | none => exact Nat.le_trans hle (t.dom b L hi h')
 ·cases hm : m b with
  | some L' =>
   rw [LMap.join_left hm] at h; injection h with h; subst h
   obtain ⟨k,ek,hk⟩ := s.rel.blk b L' hm
   refine ⟨k,ek,?_⟩
   cases hi : mi b with
   | some L2 =>
    have := hcut b L2 hi
    rw [hm] at this; injection this with this; subst this
    obtain ⟨k',ek',hk'⟩ := t.rel.blk b L' (t.ext b L' hi)
    have : Hq[b]? = some k' := by rw [Zb3 h1q (t.rel.lt (t.ext b L' hi))]; exact ek'
    rw [ek] at this; injection this with this; subst this
    exact hk'.up hupL
   | none => exact hk.carry hmle t.size fun hl => t.frame _ (hk.lt (.inr hl)) (hfar b L' k hm hi ek hl hk)
  | none =>
   rw [LMap.join_none hm] at h
   obtain ⟨k',ek',hk'⟩ := t.rel.blk b L h
   exact ⟨k',by rw [Zb3 h1q (t.rel.lt h)]; exact ek',hk'.up hupL⟩
 ·intro b L k h ho e hl hz
  cases hm : m b with
  | some L1 =>
   rw [LMap.join_left hm] at h; injection h with h; subst h
   obtain ⟨k2,ek2,hk⟩ := s.rel.blk b L1 hm
   rw [e] at ek2; injection ek2 with ek2; subst ek2
   rcases hz with hz | hz
   ·exact s.rel.zown b L1 k hm ho e hl hz
   ·rcases t.zfresh _ hz with h1 | h1 | h1
    ·exact s.rel.zown b L1 k hm ho e hl (hzc _ h1)
    ·have := hk.lt (.inl ho); omega
    ·cases hi : mi b with
     | none => exact hfar b L1 k hm hi e hl hk h1
     | some L2 =>
      have hx := hcut b L2 hi
      rw [hm] at hx; injection hx with hx; subst hx
      have hb1 := t.ext b L1 hi
      rw [Zb3 h1q (t.rel.lt hb1)] at e
      exact t.rel.zown b L1 k hb1 ho e hl hz
  | none =>
   rw [LMap.join_none hm] at h
   rw [Zb3 h1q (t.rel.lt h)] at e
   have hi : mi b = none := by
    cases hx : mi b with
    | none => rfl
    | some L2 => rw [hcut _ _ hx] at hm; cases hm
   have hnz : ¬ m'.z L.g := t.rel.zown b L k h ho e hl
   rcases hz with hz | hz
   ·exact hnz (t.zext _ (hcz _ hz))
   ·exact hnz hz
 ·
  have key : ∀ b b' L L' k,m b = some L → mi b = none → m b' = none → m' b' = some L' → L.own = true → L'.own = true → Hq[b]? = some k → k.live = true → L.g = L'.g → False := by
   intro b b' L L' k hb hi hb' h' ho ho' ek hl hg
   obtain ⟨k2,ek2,hk⟩ := s.rel.blk b L hb
   rw [ek] at ek2; injection ek2 with ek2; subst ek2
   have hi' : mi b' = none := by
    cases hx : mi b' with
    | none => rfl
    | some L2 => rw [hcut _ _ hx] at hb'; cases hb'
   rcases t.fresh b' L' hi' h' with h1 | h1
   ·have := hk.lt (.inl ho); omega
   ·rw [← hg] at h1; exact hfar b L k hb hi ek hl hk h1
  intro b b' L L' k k' h h' ho ho' e e' hl hl' hg
  cases hm : m b with
  | some L1 =>
   rw [LMap.join_left hm] at h; injection h with h; subst h
   cases hm' : m b' with
   | some L2 =>
    rw [LMap.join_left hm'] at h'; injection h' with h'; subst h'
    exact s.rel.inj b b' L1 L2 k k' hm hm' ho ho' e e' hl hl' hg
   | none =>
    rw [LMap.join_none hm'] at h'
    cases hi : mi b with
    | none => exact (key b b' L1 L' k hm hi hm' h' ho ho' e hl hg).elim
    | some L2 =>
     have hx := hcut b L2 hi
     rw [hm] at hx; injection hx with hx; subst hx
     have hb1 := t.ext b L1 hi
     rw [Zb3 h1q (t.rel.lt hb1)] at e
     rw [Zb3 h1q (t.rel.lt h')] at e'
     exact t.rel.inj b b' L1 L' k k' hb1 h' ho ho' e e' hl hl' hg
  | none =>
   rw [LMap.join_none hm] at h
   cases hm' : m b' with
   | some L2 =>
    rw [LMap.join_left hm'] at h'; injection h' with h'; subst h'
    cases hi : mi b' with
    | none => exact (key b' b L2 L k' hm' hi hm h ho' ho e' hl' hg.symm).elim
    | some L3 =>
     have hx := hcut b' L3 hi
     rw [hm'] at hx; injection hx with hx; subst hx
     have hb1 := t.ext b' L2 hi
     rw [Zb3 h1q (t.rel.lt h)] at e
     rw [Zb3 h1q (t.rel.lt hb1)] at e'
     exact t.rel.inj b b' L L2 k k' h hb1 ho ho' e e' hl hl' hg
   | none =>
    rw [LMap.join_none hm'] at h'
    rw [Zb3 h1q (t.rel.lt h)] at e
    rw [Zb3 h1q (t.rel.lt h')] at e'
    exact t.rel.inj b b' L L' k k' h h' ho ho' e e' hl hl' hg
 ·rw [t.frame g (Nat.lt_of_lt_of_le hg s.size) (fun hi => hn (s.img r0 hg (himg g hi)))]
  exact s.frame g hg hn
 ·cases hm : m b with
  | some L' =>
   rw [LMap.join_left hm] at h'; injection h' with h'; subst h'
   exact s.fresh b L' h hm
  | none =>
   rw [LMap.join_none hm] at h'
   have hi : mi b = none := by
    cases hx : mi b with
    | none => rfl
    | some L2 => rw [hcut _ _ hx] at hm; cases hm
   rcases t.fresh b L hi h' with h1 | h1
   ·exact .inl (Nat.le_trans s.size h1)
   ·by_cases hg : L.g < w0.heap.size
    ·exact .inr (s.img r0 hg (himg _ h1))
    ·exact .inl (by omega)
 ·rcases h with h | h
  ·exact s.zfresh g h
  ·rcases t.zfresh g h with h1 | h1 | h1
   ·exact s.zfresh g (hzc g h1)
   ·exact .inr (.inl (Nat.le_trans s.size h1))
   ·by_cases hg : g < w0.heap.size
    ·exact .inr (.inr (s.img r0 hg (himg _ h1)))
    ·exact .inr (.inl (by omega))
theorem Z3m {sz b : Nat} {z : List Cell} {x n : Opd} : x = .k (.c .nilS) ∨ (AOp.appM sz b z x n).cls = .turns := by
 cases x with
 | k v =>
  cases v with
  | c c => cases c <;> first | exact .inl rfl | exact .inr rfl
  | _ => exact .inr rfl
 | _ => exact .inr rfl
theorem Zwy {o : AOp} {e : Env} {H H' : Heap} {v : AVal} (hc : o.cls = .quiet) (h : ev o e H = some (v,H')) : H' = H ∧ ∀ H2,ev o e H2 = some (v,H2) := by
 cases o <;> try (exfalso; revert hc; simp [AOp.cls]; done)
 case appM sz bytes z x n =>
  rcases Z3m (sz := sz) (b := bytes) (z := z) (x := x) (n := n) with rfl | h' <;> first | (rw [h'] at hc; cases hc; done) | (cases hc; done)
 case max xs =>
  cases xs with
  | nil => simp [ev] at h
  | cons x xs =>
   simp only [ev] at h ⊢
   split at h <;> try (cases h; done)
   split at h <;> try (cases h; done)
   injection h with h; injection h with h1 h2; subst h1; subst h2; exact ⟨rfl,fun _ => rfl⟩
 case min xs =>
  cases xs with
  | nil => simp [ev] at h
  | cons x xs =>
   simp only [ev] at h ⊢
   split at h <;> try (cases h; done)
   split at h <;> try (cases h; done)
   injection h with h; injection h with h1 h2; subst h1; subst h2; exact ⟨rfl,fun _ => rfl⟩
 all_goals
  simp only [ev] at h ⊢
  repeat' (split at h)
  all_goals first
   | contradiction
   | (cases h; done)
   | (injection h with h; injection h with h1 h2; subst h1; subst h2; refine ⟨rfl,fun H2 => ?_⟩; simp_all)
theorem Zrh {H H' : Heap} {sz bytes : Nat} {x y : Cell} {v : AVal} (hx : x = .nilS ∨ (∃ s,x = .zer s) ∨ ∃ b s n sz',x = .slc b s n sz' true) (h : Zc2 H sz bytes x y = some (v,H')) : H <+: H' := by
 unfold Zc2 at h
 rcases hx with rfl | ⟨s,rfl⟩ | ⟨b,s,n,sz',rfl⟩
 all_goals
  simp only [if_true] at h
  repeat' (split at h)
  all_goals first
   | (cases h; done)
   | (injection h with h; injection h with h1 h2; subst h2; first | exact List.prefix_refl _ | exact List.prefix_append _ _)
theorem Z4n {o : AOp} {e : Env} {H H' : Heap} {v : AVal} (hc : o.cls = .reads) (h : ev o e H = some (v,H')) : H <+: H' := by
 cases o <;> try (exfalso; revert hc; simp [AOp.cls]; done)
 case appZ sz bytes x y =>
  simp only [ev] at h
  split at h <;> try (cases h; done)
  ·exact Zrh (.inl rfl) h
  ·exact Zrh (.inr (.inl ⟨_,rfl⟩)) h
  ·exact Zrh (.inr (.inr ⟨_,_,_,_,rfl⟩)) h
 case appM sz bytes z x n =>
  have hx : x = .k (.c .nilS) := by
   rcases Z3m (sz := sz) (b := bytes) (z := z) (x := x) (n := n) with h' | h'
   ·exact h'
   ·rw [h'] at hc; cases hc
  subst hx
  have hk : (Opd.k (.c .nilS)).ev e = .c .nilS := rfl
  simp only [ev,hk] at h
  generalize n.ev e = q at h
  cases q with
  | c c =>
   cases c with
   | int k l =>
    simp only at h
    split at h
    ·injection h with h; injection h with h1 h2; subst h2; exact List.prefix_append _ _
    ·cases h
   | _ => simp at h
  | _ => simp at h
 all_goals
  simp only [ev] at h
  repeat' (split at h)
  all_goals first
   | (cases h; done)
   | (injection h with h; injection h with h1 h2; subst h2; first | exact List.prefix_refl _ | exact List.prefix_append _ _)
theorem Zbfc {o : AOp} {e : Env} {H : Heap} {v : AVal} (h : evF o e H = some v) : ∃ v0 E,ev o e H = some (v0,H ++ E) ∧ frzE H.length E v0 = some v := by
 have key : ∀ {o : AOp},o.cls = .reads → mkF H (ev o e H) = some v → ∃ v0 E,ev o e H = some (v0,H ++ E) ∧ frzE H.length E v0 = some v := by
  intro o hc h
  unfold mkF at h
  split at h <;> try (cases h; done)
  rename_i v0 H1 hev
  obtain ⟨E,rfl⟩ := Z4n hc hev
  rw [List.drop_left] at h
  exact ⟨v0,E,hev,h⟩
 unfold evF at h
 split at h
 ·exact key rfl h
 ·exact key rfl h
 ·exact key rfl h
 ·exact key rfl h
 ·exact key rfl h
 ·exact key rfl h
 ·rename_i n b x y
  obtain ⟨v0,E,h1,h2⟩ := key rfl h
  refine ⟨v0,E,?_,h2⟩
  simp only [ev] at h1 ⊢
  split at h1 <;> first
   | (cases h1; done)
   | (rename_i k1 k2; simp only [k1,k2]; exact h1)
 ·cases h
end Go.Proofs.YticmfblfghdkbaaGreatDoor.Eng
