/- Parts of this claim's proof, joined. No statement of the seat is proved here. -/
import Derived.Test.YticmfblfghdkbaaGreatDoorW8
set_option linter.unusedVariables false
set_option linter.unusedSimpArgs false
namespace Go.Proofs.YticmfblfghdkbaaGreatDoor.Eng
open Go
variable {G : Prog} {p : Post} {k : List Itm} {d : Bool} {e : Env} {H : Heap} {l : List AInstr} {dst : Option Nat}
theorem Zbd0 : Run G p (.code .skip :: k) e H = Run G p k e H := by
 refine propext ⟨?_,Zbfk⟩
 rintro ⟨x,e1,H1,h1,h2⟩
 cases h1; exact h2
theorem Zuh {a b : ACode} : Run G p (.code (.seq a b) :: k) e H = Run G p (.code a :: .code b :: k) e H := by
 refine propext ⟨?_,Zbhh⟩
 rintro ⟨x,e1,H1,h1,h2⟩
 cases h1 with
 | seq h3 h4 => exact ⟨_,_,_,h3,_,_,_,h4,h2⟩
 | seqOut hx h3 =>
  cases x with
  | normal => exact absurd rfl hx
  | exit id => exact ⟨_,_,_,h3,h2⟩
  | ret => exact ⟨_,_,_,h3,h2⟩
theorem Z8g : Run G p (.code (.region l d) :: k) e H = WL G p k d l e H := by
 refine propext ⟨?_,Z7z⟩
 rintro ⟨x,e1,H1,h1,h2⟩
 cases h1 with
 | region h3 => exact ⟨_,_,h3,h2⟩
theorem Zbel {c : Opd} {a b : ACode} : Run G p (.code (.cond c a b) :: k) e H = Zuv G p k (c.ev e) a b e H := by
 refine propext ⟨?_,Zbdv⟩
 rintro ⟨x,e1,H1,h1,h2⟩
 cases h1 with
 | cond h3 h4 => exact ⟨_,h3,_,_,_,h4,h2⟩
theorem Z92 {id : Nat} {a : ACode} : Run G p (.code (.block id a) :: k) e H = Run G p (.code a :: .blk id :: k) e H := by
 refine propext ⟨?_,Zbba⟩
 rintro ⟨x,e1,H1,h1,h2⟩
 cases h1 with
 | block h3 hx =>
  refine ⟨_,_,_,h3,?_⟩
  cases x with
  | normal => simpa [Zde] using h2
  | ret => simpa [Zde] using h2
  | exit i =>
   simp only [Zde]
   rw [if_neg (by intro h; subst h; exact hx rfl)]
   exact h2
 | blockExit h3 => exact ⟨_,_,_,h3,by simpa [Zde] using h2⟩
theorem Zbhd {id : Nat} : Run G p (.blk id :: k) e H = Run G p k e H := by simp [Run,Zde]
theorem Zbhz : Run G p (.code .ret :: k) e H = p.fin e H := by
 refine propext ⟨?_,Zbgv⟩
 rintro ⟨x,e1,H1,h1,h2⟩
 cases h1
 rw [Zlb] at h2; exact h2
def Zyz (G : Prog) (p : Post) (k : Option (List Itm)) (e : Env) (H : Heap) : Prop := match k with | some k => Run G p k e H | none => False
theorem Z7x : Zyz G p (some k) e H = Run G p k e H := rfl
theorem Zgr {id : Nat} : ∀ {k : List Itm},Zde G p k (.exit id) e H = Zyz G p (Zg5 id k) e H
 | [] => by simp [Zde,Zg5,Zyz]
 | .code _ :: k => by simp only [Zde,Zg5]; exact Zgr
 | .loop _ :: k => by simp only [Zde,Zg5]; exact Zgr
 | .blk i :: k => by
  simp only [Zde,Zg5]
  by_cases h : id = i
  ·simp [h,Zyz,Run]
  ·rw [if_neg h,if_neg h]; exact Zgr
theorem Zbfx {id : Nat} : Run G p (.code (.exit id) :: k) e H = Zyz G p (Zg5 id k) e H := by
 refine propext ⟨?_,fun h => ⟨_,_,_,.exit,by rw [Zgr]; exact h⟩⟩
 rintro ⟨x,e1,H1,h1,h2⟩
 cases h1
 rw [Zgr] at h2; exact h2
theorem Z6n {a b : ACode} : Zuv G p k (.c (.bool true)) a b e H = Run G p (.code a :: k) e H := by rw [Zyf]; simp
theorem Z5b {a b : ACode} : Zuv G p k (.c (.bool false)) a b e H = Run G p (.code b :: k) e H := by rw [Zyf]; simp
theorem Z9i {id : Nat} {c : ACode} : Zg5 id (.code c :: k) = Zg5 id k := rfl
theorem Z7s {id : Nat} {c : ACode} : Zg5 id (.loop c :: k) = Zg5 id k := rfl
theorem Zbbm {id i : Nat} : Zg5 id (.blk i :: k) = if id = i then some k else Zg5 id k := rfl
def resW (e : Env) (H : Heap) (rs : List ARes) (R : AVal → Heap → Prop) : Prop := ∃ v,Zg4 e H rs = some v ∧ R v H
theorem Zbjb {rs : List ARes} {R : AVal → Heap → Prop} : Post.fin ⟨rs,R⟩ e H = resW e H rs R := rfl
theorem Zbdz {t : Nat} {R : AVal → Heap → Prop} : resW e H [.tmp t] R = R (e t) H := by
 simp [resW,Zg4,Zek]
theorem Zbbr {t u : Nat} {R : AVal → Heap → Prop} : resW e H [.tmp t,.tmp u] R = R (.tup [e t,e u]) H := by
 simp [resW,Zg4,Zek]
def Zq9 (r : VR0) (R : AVal → Heap → Prop) (H : Heap) : Prop := ∃ v H',r = some (v,H') ∧ R v H
theorem Zbb7 {a n : Nat} {agg : Bool} {R : AVal → Heap → Prop} : resW e H [.cell a agg n] R = Zq9 (Ze8 agg n (e a) H) R H := by
 have : Zg4 e H [.cell a agg n] = (Ze8 agg n (e a) H).map (·.1) := by
  simp only [Zg4,Zek]
  have h : ev (.load agg n (.t a)) e H = Ze8 agg n (e a) H := rfl
  rw [h]
  cases Ze8 agg n (e a) H with
  | none => rfl
  | some x => rfl
 simp only [resW,Zq9,this]
 refine propext ⟨?_,?_⟩
 ·rintro ⟨v,h1,h2⟩
  cases hx : Ze8 agg n (e a) H with
  | none => rw [hx] at h1; simp at h1
  | some x => rw [hx] at h1; simp at h1; exact ⟨v,x.2,by rw [← h1],h2⟩
 ·rintro ⟨v,H',h1,h2⟩
  exact ⟨v,by rw [h1]; rfl,h2⟩
theorem Z71 {v : AVal} {H' : Heap} {R : AVal → Heap → Prop} : Zq9 (some (v,H')) R H = R v H := by
 refine propext ⟨?_,fun h => ⟨_,_,rfl,h⟩⟩
 rintro ⟨v',H2,h1,h2⟩
 injection h1 with h1; injection h1 with h1 _; subst h1; exact h2
section
variable {n sz b i f : Nat} {rows : List (List Cell)} {row : List Cell} {z : Bool} {agg : Bool} {c : Cell} {cs : List Cell} {j : Int} {ik : IntKind} {x : AVal}
theorem Zm5 {k : Blk} (hk : k.own = true) (hl : k.live = true) : mkF H (some (x,H ++ [k])) = if Zp (x.frz H.length k) = true then some (x.frz H.length k) else none := by
 simp only [mkF,List.drop_left,frzE,hk,hl,Bool.true_and]
theorem Zgq {k : Blk} : AVal.frz b k (.c c) = .c (c.frz b k) := by simp [AVal.frz]
theorem Zuq {k : Blk} {s : Nat} (h : s + n ≤ k.rows.length) : Cell.frz b k (.slc b s n sz false) = .lst sz ((k.rows.drop s).take n) := by simp [Cell.frz,h]
theorem Zbdn {k : Blk} {s : Nat} (h : s + n ≤ k.rows.length) : Cell.frz b k (.slc b s n sz true) = .zer sz := by simp [Cell.frz,h]
theorem Zqe {k : Blk} (h : k.rows[i]? = some row) : Cell.frz b k (.ptr b i f) = .fp row f := by simp [Cell.frz,h]
theorem Zm3 (hl : rows.length = n) (hc : closedR rows = true) (hn : n ≠ 0) : mkF H (vLit sz n (some rows) H) = some (.c (.lst sz rows)) := by
 simp only [vLit]
 rw [Zm5 rfl rfl,Zgq,show (n == 0) = false by simpa using hn,Zuq (by simp [hl])]
 simp [Zp,Zc,← hl,hc]
theorem Zbfd : mkF H (vLit sz 0 (some rows) H) = some (.c (.zer sz)) := by
 simp only [vLit,beq_self_eq_true]
 rw [Zm5 rfl rfl,Zgq,Zbdn (by simp)]
 simp [Zp,Zc]
theorem Zq0 (hc : Zc c = true) : mkF H (vBox (.c c) H) = some (.c (.fp [c] 0)) := by
 simp only [vBox]
 rw [Zm5 rfl rfl,Zgq,Zqe (row := [c]) rfl]
 simp [Zp,Zc,Zb,hc]
theorem Zc7 (hc : Zb cs = true) : mkF H (vBox (.agg cs) H) = some (.c (.fp cs 0)) := by
 simp only [vBox]
 rw [Zm5 rfl rfl,Zgq,Zqe (row := cs) rfl]
 simp [Zp,Zc,hc]
theorem Zbgy (hc : Zb cs = true) : mkF H (some (.c (.ptr H.length 0 0),H ++ [{ sz := cs.length,rows := [cs] }])) = some (.c (.fp cs 0)) := by
 rw [Zm5 rfl rfl,Zgq,Zqe (row := cs) rfl]
 simp [Zp,Zc,hc]
theorem Zbe3 : vLen (.c (.lst sz rows)) H = some (.c (.int .i64 rows.length),H) := rfl
theorem Zbdt : vLen (.c (.zer sz)) H = some (.c (.int .i64 0),H) := rfl
theorem Zbh3 {off : Nat} : vFld off (.c (.fp row f)) H = some (.c (.fp row (f + off)),H) := rfl
theorem Zbir : vChk (.c (.fp row f)) H = some (.c (.fp row f),H) := rfl
theorem Zbgj : Ze8 agg n (.c (.fp row f)) H = Zgs agg n f (some row) H := rfl
theorem Zbhy {q : Nat} (h : j = q) : vIx sz (.c (.lst sz rows)) (.c (.int ik j)) H = match rows[q]? with | some r => some (.c (.fp r 0),H) | none => none := by
 subst h
 simp [vIx]
 cases rows[q]? <;> rfl
theorem Zea {k : Blk} {t : Nat} : Zyd b k e t = (e t).frz b k := rfl
end
end Go.Proofs.YticmfblfghdkbaaGreatDoor.Eng
namespace Go.Proofs.YticmfblfghdkbaaGreatDoor.Eng
open Go
section
variable {G : Prog} {T : Nat → Option AFun}
end
end Go.Proofs.YticmfblfghdkbaaGreatDoor.Eng
namespace Go.Proofs.YticmfblfghdkbaaGreatDoor.Eng
open Go
variable {P : Program} {B : Nat} {m : LMap} {H : Heap} {w : World}
def flat (z : Nat → Prop) : LMap := ⟨fun _ => none,z⟩
theorem Rel.flat {z : Nat → Prop} {w : World} (hz : ∀ g,z g → g < w.heap.size) (hlib : Lib (flat z) w) : Rel w.heap.size (flat z) [] w :=
 ⟨Nat.le_refl _,fun b L h => (by cases h),hz,fun b L k h => (by cases h),fun b b' L L' k k' h => (by cases h),hlib⟩
mutual
def Zgx : Cell → Bool
 | .ptr _ _ _ => false
 | .slc _ _ _ _ _ => false
 | .fn _ cs => Zez cs
 | .iface _ _ cs => Zez cs
 | .lst _ rows => rows.isEmpty
 | .fp _ _ => false
 | _ => true
def Zez : List Cell → Bool
 | [] => true
 | x :: r => Zgx x && Zez r
end
theorem Zk0 : ∀ {cs : List Cell},Zez cs = true → ∀ {i : Nat} {c : Cell},cs[i]? = some c → Zgx c = true
 | [],_,i,c,h => by simp at h
 | x :: r,hp,i,c,h => by
  simp only [Zez,Bool.and_eq_true] at hp
  cases i with
  | zero => simp at h; subst h; exact hp.1
  | succ i => exact Zk0 hp.2 (by simpa using h)
theorem VR.plain {m m' : LMap} {σ σ' : Mem} {c : Cell} {v : Value} (h : VR m σ c v) : Zgx c = true → VR m' σ' c v := by
 induction h with
 | int => intro _; exact .int _ _
 | bool => intro _; exact .bool _
 | str => intro _; exact .str _
 | nilI => intro _; exact .nilI
 | nilF => intro _; exact .nilF
 | nilS => intro _; exact .nilS
 | nilP => intro _; exact .nilP
 | ptr => intro hp; simp [Zgx] at hp
 | slc => intro hp; simp [Zgx] at hp
 | fn hl _ ih =>
  intro hp
  simp only [Zgx] at hp
  exact .fn hl fun i c v hc hv => ih i c v hc hv (Zk0 hp hc)
 | ifaceC _ ih =>
  intro hp
  simp only [Zgx,Zez,Bool.and_true] at hp
  exact .ifaceC (ih hp)
 | ifaceA hl _ ih =>
  intro hp
  simp only [Zgx] at hp
  exact .ifaceA hl fun i c v hc hv => ih i c v hc hv (Zk0 hp hc)
 | zerN => intro _; exact .zerN
 | zerS => intro _; exact .zerS
 | emp h => intro _; exact .emp h
 | lstN => intro _; exact .lstN
 | lst h1 h2 h3 h4 h5 h6 _ =>
  intro hp
  simp only [Zgx,List.isEmpty_iff] at hp
  subst hp
  exact VR.lst' (g := 0) (o := 0) (vs := fun _ _ => undef) rfl h1 h2 (fun h => absurd rfl h) (fun i r e => by simp at e) (fun i r f x e => by simp at e) (fun i r f x e => by simp at e)
 | fp => intro hp; simp [Zgx] at hp
mutual
def Zjp : AVal → Bool
 | .c x => Zgx x
 | .agg xs => Zez xs
 | .tup xs => Zum xs
def Zum : List AVal → Bool
 | [] => true
 | x :: r => Zjp x && Zum r
end
theorem Zva : ∀ {cs : List AVal},Zum cs = true → ∀ {i : Nat} {c : AVal},cs[i]? = some c → Zjp c = true
 | [],_,i,c,h => by simp at h
 | x :: r,hp,i,c,h => by
  simp only [Zum,Bool.and_eq_true] at hp
  cases i with
  | zero => simp at h; subst h; exact hp.1
  | succ i => exact Zva hp.2 (by simpa using h)
theorem Zyg {m m' : LMap} {σ σ' : Mem} : ∀ {cs : List Cell} {vs : List Value},All2 (VR m σ) cs vs → Zez cs = true → All2 (VR m' σ') cs vs
 | [],_,h,_ => by cases h; exact .nil
 | c :: cs,_,h,hp => by
  simp only [Zez,Bool.and_eq_true] at hp
  cases h with
  | cons a b => exact .cons (a.plain hp.1) (Zyg b hp.2)
theorem VRA.plain {m m' : LMap} {σ σ' : Mem} {x : AVal} {v : Value} (h : VRA m σ x v) : Zjp x = true → VRA m' σ' x v := by
 induction h with
 | c h => intro hp; exact .c (h.plain (by simpa [Zjp] using hp))
 | agg h => intro hp; exact .agg (Zyg h (by simpa [Zjp] using hp))
 | tup hl _ ih =>
  intro hp
  simp only [Zjp] at hp
  exact .tup hl fun i c v hc hv => ih i c v hc hv (Zva hp hc)
section
variable {z : Nat → Prop} (r : Rel B m H w) (hz : ∀ g,m.z g → z g) (hz2 : ∀ b L k,m b = some L → H[b]? = some k → k.live = true → z L.g)
include r hz hz2
theorem Zv4 {c c' : Cell} (hv : Zk H c = some c') {v : Value} (h : VR m (Zj w) c v) : VR (flat z) (Zj w) c' v := by
 have closed : ∀ {c c' : Cell} {v : Value},(if Zc c = true then some c else none) = some c' → VR m (Zj w) c v → VR (flat z) (Zj w) c' v := by
  intro c c' v hv h
  split at hv <;> try (cases hv; done)
  rename_i hc
  injection hv with hv; subst hv
  exact h.closed hz hc
 have le : m.Le ⟨m.f,fun g => m.z g ∨ z g⟩ := ⟨fun _ _ h => h,fun _ h => .inl h⟩
 have down : ∀ {c : Cell} {v : Value},VR ⟨m.f,fun g => m.z g ∨ z g⟩ (Zj w) c v → Zc c = true → VR (flat z) (Zj w) c v := fun h hc => VR.closed (m := ⟨m.f,fun g => m.z g ∨ z g⟩) (m' := flat z) (fun g h => Or.elim h (hz g) id) h hc
 unfold Zk at hv
 split at hv
 ·rename_i b s n sz zz
  cases h with
  | @slc _ _ _ _ _ A c h1 h2 h3 h4 =>
   split at hv
   ·rename_i hn
    injection hv with hv; subst hv
    subst hn
    exact VR.lst' (g := 0) (o := 0) (vs := fun _ _ => undef) rfl h1 h3 (fun h => absurd rfl h) (fun i r e => by simp at e) (fun i r f x e => by simp at e) (fun i r f x e => by simp at e)
   ·rename_i hn
    split at hv <;> try (cases hv; done)
    rename_i k hk
    split at hv <;> try (cases hv; done)
    rename_i hc
    injection hv with hv; subst hv
    obtain ⟨hl,hs,hcl⟩ := hc
    obtain ⟨L,e,ez,h5⟩ := h4
    obtain ⟨k',hk',hat⟩ := r.blk b L e
    rw [hk] at hk'; injection hk' with hk'; subst hk'
    subst ez
    exact down (hat.lst hl le (.inr (hz2 b L k e hk hl)) hs h1 h3 (fun hc => (h5 hc).1)) (by simp [Zc,hcl])
 ·rename_i b i f
  cases h with
  | ptr e =>
   split at hv <;> try (cases hv; done)
   rename_i row hrow
   split at hv <;> try (cases hv; done)
   rename_i hcl
   injection hv with hv; subst hv
   obtain ⟨k,hk,hl,hq⟩ := Heap.row_some hrow
   obtain ⟨k',hk',hat⟩ := r.blk b _ e
   rw [hk] at hk'; injection hk' with hk'; subst hk'
   exact down (hat.fp hl le (.inr (hz2 b _ k e hk hl)) hq) (by simp [Zc,hcl])
 ·exact closed hv h
theorem Zn0 : ∀ {cs ds : List Cell},Zh H cs = some ds → cs.length = ds.length ∧ ∀ (i : Nat) d v,ds[i]? = some d → (∀ c,cs[i]? = some c → VR m (Zj w) c v) → VR (flat z) (Zj w) d v
 | [],ds,h => by simp [Zh] at h; subst h; exact ⟨rfl,fun i d v e => by simp at e⟩
 | x :: cs,ds,h => by
  simp only [Zh] at h
  split at h <;> try (cases h; done)
  rename_i y s hy hs
  injection h with h; subst h
  obtain ⟨h1,h2⟩ := Zn0 hs
  refine ⟨by simp [h1],fun i d v e hv => ?_⟩
  cases i with
  | zero => simp at e; subst e; exact Zv4 r hz hz2 hy (hv x rfl)
  | succ i => exact h2 i d v (by simpa using e) fun c hc => hv c (by simpa using hc)
theorem Ztj {c c' : Cell} (hv : Ze H c = some c') {v : Value} (h : VR m (Zj w) c v) : VR (flat z) (Zj w) c' v := by
 unfold Ze at hv
 split at hv
 ·rename_i f cs
  split at hv <;> try (cases hv; done)
  rename_i ds hds
  injection hv with hv; subst hv
  obtain ⟨h1,h2⟩ := Zn0 r hz hz2 hds
  cases h with
  | fn hl hk => exact .fn (h1.symm.trans hl) fun i d v hd hv => h2 i d v hd fun c hc => hk i c v hc hv
 ·rename_i t a cs
  split at hv <;> try (cases hv; done)
  rename_i ds hds
  injection hv with hv; subst hv
  obtain ⟨h1,h2⟩ := Zn0 r hz hz2 hds
  cases h with
  | ifaceC hk =>
   cases ds with
   | nil => simp at h1
   | cons d ds =>
    cases ds with
    | cons => simp at h1
    | nil => exact .ifaceC (h2 0 d _ rfl fun c hc => by simp at hc; subst hc; exact hk)
  | ifaceA hl hk => exact .ifaceA (h1.symm.trans hl) fun i d v hd hv => h2 i d v hd fun c hc => hk i c v hc hv
 ·exact Zv4 r hz hz2 hv h
theorem Zsp : ∀ {cs ds : List Cell} {vs : List Value},Zg H cs = some ds → All2 (VR m (Zj w)) cs vs → All2 (VR (flat z) (Zj w)) ds vs
 | [],ds,_,h,ha => by simp [Zg] at h; subst h; cases ha; exact .nil
 | x :: cs,ds,_,h,ha => by
  simp only [Zg] at h
  split at h <;> try (cases h; done)
  rename_i y s hy hs
  injection h with h; subst h
  cases ha with
  | cons a b => exact .cons (Ztj r hz hz2 hy a) (Zsp hs b)
end
mutual
theorem Zv5 {z : Nat → Prop} (r : Rel B m H w) (hz : ∀ g,m.z g → z g) (hz2 : ∀ b L k,m b = some L → H[b]? = some k → k.live = true → z L.g) : ∀ {x y : AVal},Zf H x = some y → ∀ {v : Value},VRA m (Zj w) x v → VRA (flat z) (Zj w) y v
 | .c x,y,hv,v,h => by
  simp only [Zf] at hv
  split at hv <;> try (cases hv; done)
  rename_i d hd
  injection hv with hv; subst hv
  cases h with
  | c h => exact .c (Ztj r hz hz2 hd h)
 | .agg xs,y,hv,v,h => by
  simp only [Zf] at hv
  split at hv <;> try (cases hv; done)
  rename_i d hd
  injection hv with hv; subst hv
  cases h with
  | agg h => exact .agg (Zsp r hz hz2 hd h)
 | .tup xs,y,hv,v,h => by
  simp only [Zf] at hv
  split at hv <;> try (cases hv; done)
  rename_i d hd
  injection hv with hv; subst hv
  cases h with
  | tup hl hk =>
   obtain ⟨h1,h2⟩ := Znl r hz hz2 hd
   exact .tup (h1.symm.trans hl) fun i x v hx hv => h2 i x v hx fun c hc => hk i c v hc hv
theorem Znl {z : Nat → Prop} (r : Rel B m H w) (hz : ∀ g,m.z g → z g) (hz2 : ∀ b L k,m b = some L → H[b]? = some k → k.live = true → z L.g) :
  ∀ {xs ys : List AVal},Zd H xs = some ys → xs.length = ys.length ∧ ∀ (i : Nat) y v,ys[i]? = some y → (∀ x,xs[i]? = some x → VRA m (Zj w) x v) → VRA (flat z) (Zj w) y v
 | [],ys,h => by simp [Zd] at h; subst h; exact ⟨rfl,fun i d v e => by simp at e⟩
 | x :: xs,ys,h => by
  simp only [Zd] at h
  split at h <;> try (cases h; done)
  rename_i y s hy hs
  injection h with h; subst h
  obtain ⟨h1,h2⟩ := Znl r hz hz2 hs
  refine ⟨by simp [h1],fun i d v e hv => ?_⟩
  cases i with
  | zero => simp at e; subst e; exact Zv5 r hz hz2 hy (hv x rfl)
  | succ i => exact h2 i d v (by simpa using e) fun c hc => hv c (by simpa using hc)
end
theorem Zv3 {z : Nat → Prop} (r : Rel B m H w) (hz : ∀ g,m.z g → z g) (hz2 : ∀ b L k,m b = some L → H[b]? = some k → k.live = true → z L.g) {xs ys : List AVal} {vs : List Value} (h : Zd H xs = some ys) (ha : All2 (VRA m (Zj w)) xs vs) : All2 (VRA (flat z) (Zj w)) ys vs := by
 obtain ⟨h1,h2⟩ := Znl r hz hz2 h
 refine All2.of_get (h1.symm.trans ha.length) fun i y v hy hv => h2 i y v hy fun x hx => ?_
 obtain ⟨v',hv',hr⟩ := ha.get hx
 rw [hv] at hv'; injection hv' with hv'; subst hv'
 exact hr
def Pure (P : Program) (f : Nat) (args : List AVal) (v : AVal) : Prop := ∀ H,CallSound P f args H v H
theorem CallSound.pure {f : Nat} {args : List AVal} {v v' : AVal} {E : Heap} (h : CallSound P f args [] v E) (ha : Zr args = true) (hv : Zf E v = some v') : Pure P f args v' := by
 intro H
 refine ⟨h.there,fun B m w vs r hargs => ?_⟩
 have r0 : Rel w.heap.size (flat m.z) [] w := Rel.flat r.zlt r.lib
 refine (h.calls w.heap.size (flat m.z) w vs r0 (Ztu (m := m) (m' := flat m.z) (fun _ h => h) hargs ha)).mono ?_
 rintro e w' ⟨u,m1,rfl,hst,hr⟩
 have hbel := hst.below r0
 have himg : ∀ g,¬ Zhd (flat m.z) [] g := by rintro g ⟨b,L,k,e,_⟩; cases e
 refine ⟨u,⟨m.f,fun g => m.z g ∨ (w.heap.size ≤ g ∧ g < w'.heap.size)⟩,rfl,St.ofBelow r hbel hst.drawn (fun _ h => .inl h) (fun _ h => h),?_⟩
 have := Zv5 hst.rel (z := fun g => m.z g ∨ (w.heap.size ≤ g ∧ g < w'.heap.size)) (fun g hg => ?_) (fun b L k e ek hl => ?_) hv hr
 ·exact this.mono (m := flat fun g => m.z g ∨ (w.heap.size ≤ g ∧ g < w'.heap.size)) (m' := ⟨m.f,fun g => m.z g ∨ (w.heap.size ≤ g ∧ g < w'.heap.size)⟩) ⟨fun _ _ h => (by cases h),fun _ _ h => (by cases h),fun _ h => h,fun _ _ _ => rfl⟩
 ·rcases hst.zfresh g hg with h1 | h1 | h1
  ·exact .inl h1
  ·exact .inr ⟨h1,hst.rel.zlt g hg⟩
  ·exact absurd h1 (himg g)
 ·obtain ⟨k',ek',hat⟩ := hst.rel.blk b L e
  rw [ek] at ek'; injection ek' with ek'; subst ek'
  rcases hst.fresh b L rfl e with h1 | h1
  ·exact .inr ⟨h1,hat.lt (.inr hl)⟩
  ·exact absurd h1 (himg _)
theorem Pure.view {f : Nat} {args args' : List AVal} {v : AVal} (h : Pure P f args' v) (ha : Zd H args = some args') (hv : Zjp v = true) : CallSound P f args H v H := by
 refine ⟨(h []).there,fun B m w vs r hargs => ?_⟩
 have r0 : Rel w.heap.size (flat fun g => g < w.heap.size) [] w := Rel.flat (fun _ h => h) fun g c k => ⟨r.zlt g (r.lib g c k).1,(r.lib g c k).2⟩
 have ha' := Zv3 (z := fun g => g < w.heap.size) r r.zlt (fun b L k e ek hl => by
  obtain ⟨k',ek',hat⟩ := r.blk b L e
  rw [ek] at ek'; injection ek' with ek'; subst ek'
  exact hat.lt (.inr hl)) ha hargs
 refine ((h []).calls w.heap.size _ w vs r0 ha').mono ?_
 rintro e w' ⟨u,m1,rfl,hst,hr⟩
 exact ⟨u,⟨m.f,m.z⟩,rfl,St.ofBelow r (hst.below r0) hst.drawn (fun _ h => h) (fun _ h => .inl h),hr.plain hv⟩
inductive WkC : Cell → Cell → Prop where
 | same (c) : WkC c c
 | nilS (sz) : WkC .nilS (.lst sz [])
 | zer (sz) : WkC (.zer sz) (.lst sz [])
 | emp (sz) : WkC (.emp sz) (.lst sz [])
 | nilZ (sz) : WkC .nilS (.zer sz)
inductive WkA : AVal → AVal → Prop where
 | same (a) : WkA a a
 | c {x y} : WkC x y → WkA (.c x) (.c y)
 | agg {xs ys} : All2 WkC xs ys → WkA (.agg xs) (.agg ys)
 | tup2 {a b x y} : WkA a x → WkA b y → WkA (.tup [a,b]) (.tup [x,y])
theorem VR.wk {σ : Mem} {c d : Cell} {v : Value} (h : VR m σ c v) (k : WkC c d) : VR m σ d v := by
 cases k with
 | same => exact h
 | nilS => cases h; exact .lstN
 | zer => exact Zjr rfl h
 | emp => exact Zjr rfl h
 | nilZ => cases h; exact .zerN
theorem Z7a {σ : Mem} : ∀ {cs ds : List Cell} {vs : List Value},All2 WkC cs ds → All2 (VR m σ) cs vs → All2 (VR m σ) ds vs
 | _,_,_,.nil,h => by cases h; exact .nil
 | _,_,_,.cons k ks,h => by
  cases h with
  | cons a b => exact .cons (a.wk k) (Z7a ks b)
theorem VRA.wk {σ : Mem} {c d : AVal} {v : Value} (h : VRA m σ c v) (k : WkA c d) : VRA m σ d v := by
 induction k generalizing v with
 | same => exact h
 | c k => cases h with | c h => exact .c (h.wk k)
 | agg k => cases h with | agg h => exact .agg (Z7a k h)
 | tup2 k1 k2 ih1 ih2 =>
  cases h with
  | tup hl hk =>
   refine .tup hl fun i x v hx hv => ?_
   match i with
   | 0 => simp at hx; subst hx; exact ih1 (hk 0 _ v rfl hv)
   | 1 => simp at hx; subst hx; exact ih2 (hk 1 _ v rfl hv)
   | i + 2 => simp at hx
theorem Z4x {σ : Mem} : ∀ {cs ds : List AVal} {vs : List Value},All2 WkA cs ds → All2 (VRA m σ) cs vs → All2 (VRA m σ) ds vs
 | _,_,_,.nil,h => by cases h; exact .nil
 | _,_,_,.cons k ks,h => by
  cases h with
  | cons a b => exact .cons (a.wk k) (Z4x ks b)
theorem CallSound.wk {f : Nat} {args args' : List AVal} {H H' : Heap} {v : AVal} (k : All2 WkA args args') (h : CallSound P f args' H v H') : CallSound P f args H v H' :=
 ⟨h.there,fun B m w vs r ha => h.calls B m w vs r (Z4x k ha)⟩
theorem Pure.wk {f : Nat} {args args' : List AVal} {v : AVal} (h : Pure P f args' v) (k : All2 WkA args args') : Pure P f args v := fun H => (h H).wk k
theorem CallSound.empty {f : Nat} {pre post : List AVal} {sz : Nat} {H H' : Heap} {v : AVal} (h1 : CallSound P f (pre ++ .c .nilS :: post) H v H') (h2 : CallSound P f (pre ++ .c (.emp sz) :: post) H v H') : CallSound P f (pre ++ .c (.lst sz []) :: post) H v H' := by
 refine ⟨h1.there,fun B m w vs r ha => ?_⟩
 have key : ∀ {pre : List AVal} {vs : List Value},All2 (VRA m (Zj w)) (pre ++ .c (.lst sz []) :: post) vs → All2 (VRA m (Zj w)) (pre ++ .c .nilS :: post) vs ∨ All2 (VRA m (Zj w)) (pre ++ .c (.emp sz) :: post) vs := by
  intro pre
  induction pre with
  | nil =>
   intro vs h
   cases h with
   | cons a b =>
    cases a with
    | c a =>
     cases a with
     | lstN => exact .inl (.cons (.c .nilS) b)
     | lst h1 h2 => exact .inr (.cons (.c (.emp h2)) b)
  | cons x pre ih =>
   intro vs h
   cases h with
   | cons a b => exact (ih b).imp (.cons a) (.cons a)
 rcases key ha with h | h
 ·exact h1.calls B m w vs r h
 ·exact h2.calls B m w vs r h
theorem CallSound.wkr {f : Nat} {args : List AVal} {H H' : Heap} {v v' : AVal} (k : WkA v v') (h : CallSound P f args H v H') : CallSound P f args H v' H' :=
 ⟨h.there,fun B m w vs r ha => (h.calls B m w vs r ha).mono (by rintro e w' ⟨u,m',h1,h2,h3⟩; exact ⟨u,m',h1,h2,h3.wk k⟩)⟩
theorem Pure.wkr {f : Nat} {args : List AVal} {v v' : AVal} (h : Pure P f args v) (k : WkA v v') : Pure P f args v' := fun H => (h H).wkr k
noncomputable def Zt (P : Program) (T : Nat → Option AFun) : Prog := { fn := T,prim := fun f a H v H' => CallSound P f a H v H' }
theorem Zbeq {T : Nat → Option AFun} (hT : ∀ f a,T f = some a → Zm P f = some a.erase) (h : P.follows .mixedOrders = true) : GOk P (Zt P T) := ⟨hT,fun _ _ _ _ _ h => h,h⟩
def one (f : Nat) (a : AFun) : Nat → Option AFun := fun g => if g = f then some a else none
theorem Zze {f : Nat} {a : AFun} (h : Zm P f = some a.erase) : ∀ g b,one f a g = some b → Zm P g = some b.erase := by
 intro g b hb
 unfold one at hb
 split at hb
 ·rename_i hg
  injection hb with hb; subst hb; subst hg; exact h
 ·cases hb
noncomputable abbrev P1 (P : Program) (f : Nat) (a : AFun) : Prog := Zt P (one f a)
theorem Zx0 {T : Nat → Option AFun} (hT : ∀ f a,T f = some a → Zm P f = some a.erase) (hm : P.follows .mixedOrders = true) {f : Nat} {args : List AVal} {H H' : Heap} {v : AVal} (h : Ev (Zt P T) (.call f args H v H')) : CallSound P f args H v H' :=
 Zbk2 (Zbeq hT hm) h
def lenC : Cell → Prop
 | .lst _ rows => rows.length ≤ maxLen
 | _ => True
def lenA : AVal → Prop
 | .c x => lenC x
 | .agg xs => ∀ x ∈ xs,lenC x
 | .tup _ => True
def Zgn (l : List AVal) : Prop := ∀ a ∈ l,lenA a
theorem VR.lens {σ : Mem} {c : Cell} {v : Value} (h : VR m σ c v) : lenC c := by
 cases h <;> try trivial
 case lstN => exact Nat.zero_le _
 case lst h1 h2 _ _ _ _ => exact Nat.le_trans h1 h2
theorem All2.left_mem {α β : Type} {R : α → β → Prop} {l : List α} {r : List β} (h : All2 R l r) : ∀ a ∈ l,∃ b,R a b := by
 induction h with
 | nil => intro b h; cases h
 | cons hd _ ih => intro b hb; cases hb with
  | head => exact ⟨_,hd⟩
  | tail _ hb => exact ih b hb
theorem VRA.lens {σ : Mem} {c : AVal} {v : Value} (h : VRA m σ c v) : lenA c := by
 cases h with
 | c h => exact h.lens
 | agg h => intro x hx; obtain ⟨_,hr⟩ := h.left_mem x hx; exact hr.lens
 | tup => trivial
theorem Zw2 {f : Nat} {a : AFun} (hf : Zm P f = some a) : ∃ fn,P.funcs[f]? = some fn ∧ fn.body.isSome = true ∧ (fn.name == "runtime.NumGoroutine") = false := by
 unfold Zm at hf
 split at hf <;> try (cases hf; done)
 rename_i fn hfn
 split at hf <;> try (cases hf; done)
 rename_i c rs hbody hrs
 split at hf <;> try (cases hf; done)
 rename_i hname
 exact ⟨fn,hfn,by rw [hbody]; rfl,by simpa using hname⟩
theorem CallSound.of_lens {f : Nat} {args : List AVal} {H H' : Heap} {v : AVal} (ht : ∃ fn,P.funcs[f]? = some fn ∧ fn.body.isSome = true ∧ (fn.name == "runtime.NumGoroutine") = false) (h : Zgn args → CallSound P f args H v H') : CallSound P f args H v H' := by
 by_cases hl : Zgn args
 ·exact h hl
 ·refine ⟨ht,fun B m w vs r ha => ?_⟩
  exact absurd (fun a hm => by obtain ⟨_,hr⟩ := ha.left_mem a hm; exact hr.lens) hl
theorem Zl (hm : P.follows .mixedOrders = true) {f : Nat} {a : AFun} (hf : Zm P f = some a.erase) {args : List AVal} {v : AVal} (ha : Zr args = true)
  (h : Zgn args → ∀ T,Run (Zt P T) ⟨a.res,fun u E => Zf E u = some v⟩ [.code a.body] (Zc3 args) []) : Pure P f args v := by
 intro H
 refine CallSound.of_lens (Zw2 hf) fun hl => ?_
 obtain ⟨u,E,h1,h2⟩ := Zqw (G := P1 P f a) (f := f) (by simp [P1,Zt,one]) (h hl _)
 exact (Zx0 (Zze hf) hm h1).pure ha h2 H
def Zk4 (E : Heap) (u v : AVal) : Prop := ∃ x,Zf E u = some x ∧ WkA x v
theorem Zhg (hm : P.follows .mixedOrders = true) {f : Nat} {a : AFun} (hf : Zm P f = some a.erase) {args : List AVal} {v : AVal} (ha : Zr args = true)
  (h : Zgn args → ∀ T,Run (Zt P T) ⟨a.res,fun u E => Zk4 E u v⟩ [.code a.body] (Zc3 args) []) : Pure P f args v := by
 intro H
 refine CallSound.of_lens (Zw2 hf) fun hl => ?_
 obtain ⟨u,E,h1,x,h2,h3⟩ := Zqw (G := P1 P f a) (f := f) (by simp [P1,Zt,one]) (h hl _)
 exact ((Zx0 (Zze hf) hm h1).pure ha h2 H).wkr h3
theorem Zhq (hm : P.follows .mixedOrders = true) {f : Nat} {a : AFun} (hf : Zm P f = some a.erase) {args : List AVal} {H H' : Heap} {v : AVal}
  (h : ∀ T,Run (Zt P T) ⟨a.res,fun u E => u = v ∧ E = H'⟩ [.code a.body] (Zc3 args) H) : CallSound P f args H v H' := by
 obtain ⟨u,E,h1,rfl,rfl⟩ := Zqw (G := P1 P f a) (f := f) (by simp [P1,Zt,one]) (h _)
 exact Zx0 (Zze hf) hm h1
section
variable {T : Nat → Option AFun} {p : Post} {k : List Itm} {d : Bool} {e : Env} {l : List AInstr} {dst : Option Nat}
theorem Za {f : Nat} {caps : List Cell} {args : List AVal} {v : AVal} (h : Pure P f (args ++ caps.map .c) v) (hw : WL (Zt P T) p k d l (updO e dst v) H) : Zrp (Zt P T) p k d (.c (.fn f caps)) args dst l e H :=
 Zwr ⟨v,H,.prim (h H),fun _ => List.prefix_refl _,hw⟩
theorem Zfj {f : Nat} {caps : List Cell} {args args' : List AVal} {v : AVal} (h : Pure P f args' v) (ha : Zd H (args ++ caps.map .c) = some args') (hv : Zjp v = true) (hw : WL (Zt P T) p k d l (updO e dst v) H) : Zrp (Zt P T) p k d (.c (.fn f caps)) args dst l e H :=
 Zwr ⟨v,H,.prim (h.view ha hv),fun _ => List.prefix_refl _,hw⟩
theorem Zbal {f : Nat} {caps : List Cell} {args : List AVal} {v : AVal} {H1 : Heap} (h : CallSound P f (args ++ caps.map .c) H v H1) (hw : WL (Zt P T) p k d l (updO e dst v) H1) : Zyy (Zt P T) p k d (.c (.fn f caps)) args dst l e H :=
 Zbby ⟨v,H1,.prim h,hw⟩
theorem Z3 {f : Nat} {caps : List Cell} {args : List AVal} {v : AVal} {H1 : Heap} (h : CallSound P f (args ++ caps.map .c) H v H1) (hp : d = true → H <+: H1) (hw : WL (Zt P T) p k d l (updO e dst v) H1) : Zrp (Zt P T) p k d (.c (.fn f caps)) args dst l e H :=
 Zwr ⟨v,H1,.prim h,hp,hw⟩
end
theorem Pure.law {f : Nat} {args : List AVal} (h : Pure P f args (.c (.bool true))) {w : World} (hlib : LibW w) {vs : Array Value} (ha : All2 (VRA (flat fun g => g < w.heap.size) (Zj w)) args vs.toList) :
  Calls P f vs w fun e w' => e = .returned (.bool true) ∧ RowKit.Below w.heap.size w w' := by
 have r0 : Rel w.heap.size (flat fun g => g < w.heap.size) [] w := Rel.flat (fun _ h => h) fun g c k => ⟨hlib.lt k,hlib g c k⟩
 refine ((h []).calls w.heap.size _ w vs r0 ha).mono ?_
 rintro e w' ⟨u,m1,rfl,hst,hr⟩
 refine ⟨?_,hst.below r0⟩
 cases hr with
 | c hr => cases hr; rfl
inductive D where
 | bool
 | int (k : IntKind)
 | str
 | slc (e : D)
 | st (l : List D)
mutual
def D.size : D → Nat
 | .st l => D.sizes l
 | _ => 1
def D.sizes : List D → Nat
 | [] => 0
 | x :: r => x.size + D.sizes r
end
inductive TyD : D → List Cell → Prop where
 | bool (b) : TyD .bool [.bool b]
 | int {k n} : k.min ≤ n → n ≤ k.max → TyD (.int k) [.int k n]
 | str {s} : s.size ≤ maxLen → TyD .str [.str s]
 | slc {e} {rows : List (List Cell)} : rows.length ≤ maxLen → (∀ (i : Nat) r,rows[i]? = some r → TyD e r) → TyD (.slc e) [.lst e.size rows]
 | st0 : TyD (.st []) []
 | st {x l cs ds} : TyD x cs → TyD (.st l) ds → TyD (.st (x :: l)) (cs ++ ds)
theorem TyD.length {d : D} {cs : List Cell} (t : TyD d cs) : cs.length = d.size := by
 induction t with
 | st0 => simp [D.size,D.sizes]
 | st _ _ ih1 ih2 => simp only [D.size,D.sizes,List.length_append] at *; omega
 | _ => simp [D.size]
theorem Zob : ∀ {a b : List Cell},Zb (a ++ b) = (Zb a && Zb b)
 | [],b => by simp [Zb]
 | x :: a,b => by simp [Zb,Zob,Bool.and_assoc]
theorem Zyl : ∀ {rows : List (List Cell)},(∀ (i : Nat) r,rows[i]? = some r → Zb r = true) → closedR rows = true
 | [],_ => rfl
 | r :: rows,h => by
  simp only [closedR,Bool.and_eq_true]
  exact ⟨h 0 r rfl,Zyl fun i q e => h (i + 1) q (by simpa using e)⟩
theorem TyD.closed {d : D} {cs : List Cell} (t : TyD d cs) : Zb cs = true := by
 induction t with
 | slc _ _ ih => simp [Zb,Zc,Zyl ih]
 | st _ _ ih1 ih2 => rw [Zob,ih1,ih2]; rfl
 | _ => simp [Zb,Zc]
mutual
def Zli (P : Program) : Nat → TypeId → Option D
 | 0,_ => none
 | d + 1,t =>
  match P.underlying t with
  | some .bool => if P.cellsOf t = 1 then some .bool else none
  | some (.int k) => if P.cellsOf t = 1 then some (.int k) else none
  | some .string => if P.cellsOf t = 1 then some .str else none
  | some (.slice e) => match Zli P d e with
   | some x => if P.cellsOf e = x.size ∧ 0 < x.size ∧ P.cellsOf t = 1 then some (.slc x) else none
   | none => none
  | some (.struct fs) => match Zqr P d 0 fs.toList with
   | some l => if P.cellsOf t = D.sizes l then some (.st l) else none
   | none => none
  | _ => none
def Zqr (P : Program) : Nat → Nat → List Field → Option (List D)
 | _,_,[] => some []
 | 0,_,_ => none
 | d + 1,off,f :: r =>
  if f.offset = off then
   match Zli P d f.type with
   | some x => if P.cellsOf f.type = x.size then match Zqr P d (off + x.size) r with | some l => some (x :: l) | none => none else none
   | none => none
  else none
end
end Go.Proofs.YticmfblfghdkbaaGreatDoor.Eng
namespace Go.Proofs.YticmfblfghdkbaaGreatDoor.Eng
open Go
variable {P : Program}
theorem Z3z {α β : Type} {f : α → Option β} : ∀ {l : List α} {r : List β},l.mapM f = some r → ∀ {i : Nat} {a : α},l[i]? = some a → ∃ b,f a = some b
 | [],r,h,i,a,hi => by simp at hi
 | x :: l,r,h,i,a,hi => by
  simp only [List.mapM_cons,Option.bind_eq_bind,Option.pure_def] at h
  cases hx : f x with
  | none => simp [hx] at h
  | some y =>
   cases hl : l.mapM f with
   | none => simp [hx,hl] at h
   | some ys =>
    cases i with
    | zero => simp at hi; subst hi; exact ⟨y,hx⟩
    | succ i => exact Z3z hl (by simpa using hi)
theorem Ztw {w : World} {base : Nat} {a : Addr} {n : Nat} {vs : List Value} (h : w.cells? base a n = some vs) : vs.length = n ∧ ∀ (j : Nat) v,vs[j]? = some v → w.cell? (a.add j) = some v := by
 unfold World.cells? at h
 split at h <;> try (cases h; done)
 have key : ∀ (l : List Nat) (vs : List Value),(l.mapM fun i => w.cell? (a.add i)) = some vs → vs.length = l.length ∧ ∀ (j : Nat) v i,vs[j]? = some v → l[j]? = some i → w.cell? (a.add i) = some v := by
  intro l
  induction l with
  | nil => intro vs h; simp at h; subst h; exact ⟨rfl,fun j v i h => by simp at h⟩
  | cons x l ih =>
   intro vs h
   simp only [List.mapM_cons,Option.bind_eq_bind,Option.pure_def] at h
   cases hx : w.cell? (a.add x) with
   | none => simp [hx] at h
   | some y =>
    cases hl : l.mapM fun i => w.cell? (a.add i) with
    | none => simp [hx,hl] at h
    | some ys =>
     simp [hx,hl] at h
     subst h
     obtain ⟨h1,h2⟩ := ih ys hl
     refine ⟨by simp [h1],fun j v i hv hi => ?_⟩
     cases j with
     | zero => simp at hv hi; subst hv; subst hi; exact hx
     | succ j => exact h2 j v i (by simpa using hv) (by simpa using hi)
 obtain ⟨h1,h2⟩ := key _ _ h
 refine ⟨by simpa using h1,fun j v hv => h2 j v j hv ?_⟩
 have : j < vs.length := (List.getElem?_eq_some_iff.1 hv).1
 rw [h1] at this
 simp at this
 simp [this]
theorem Zbcy {w : World} {a : Addr} {v : Value} (h : w.cell? a = some v) : a.spot = none ∧ a.block < w.heap.size := by
 unfold World.cell? at h
 split at h
 ·rename_i c t z hc
  split at h
  ·cases h
  ·rename_i hs
   refine ⟨by simpa using hs,(Array.getElem?_eq_some_iff.1 hc).1⟩
 ·cases h
abbrev Zok (w : World) : LMap := flat fun g => g < w.heap.size
theorem Zvl {w : World} {X : Type} {tr : TypeId → List Value → Option (DataW X × List MemPlace)} {d : Nat}
  (one : ∀ (d' : Nat) (t : TypeId) (s : D),d' ≤ d → Zli P d' t = some s → ∀ (vs : List Value) x,tr t vs = some x → ∃ cs,All2 (VR (Zok w) (Zj w)) cs vs ∧ TyD s cs) :
  ∀ (d' : Nat) (fs : List Field) (off : Nat) (l : List D),d' ≤ d + 1 → Zqr P d' off fs = some l → ∀ (vs : List Value) ys,vs.length = off + D.sizes l →
   (fs.mapM fun f => tr f.type ((vs.drop f.offset).take (P.cellsOf f.type))) = some ys → ∃ cs,All2 (VR (Zok w) (Zj w)) cs (vs.drop off) ∧ TyD (.st l) cs
 | d',[],off,l,hd',hl,vs,ys,hv,hm => by
  have : l = [] := by cases d' <;> (simp [Zqr] at hl; exact hl)
  subst this
  refine ⟨[],?_,.st0⟩
  rw [List.drop_eq_nil_of_le (by simp [hv,D.sizes])]
  exact .nil
 | 0,f :: fs,off,l,hd',hl,vs,ys,hv,hm => by simp [Zqr] at hl
 | d' + 1,f :: fs,off,l,hd',hl,vs,ys,hv,hm => by
  unfold Zqr at hl
  split at hl <;> try (cases hl; done)
  rename_i hoff
  split at hl <;> try (cases hl; done)
  rename_i x hx
  split at hl <;> try (cases hl; done)
  rename_i hsz
  split at hl <;> try (cases hl; done)
  rename_i l' hl'
  injection hl with hl; subst hl
  simp only [List.mapM_cons,Option.bind_eq_bind,Option.pure_def] at hm
  cases h1 : tr f.type ((vs.drop f.offset).take (P.cellsOf f.type)) with
  | none => simp [h1] at hm
  | some y =>
   cases h2 : fs.mapM fun f => tr f.type ((vs.drop f.offset).take (P.cellsOf f.type)) with
   | none => simp [h1,h2] at hm
   | some ys' =>
    obtain ⟨c1,a1,t1⟩ := one d' f.type x (by omega) hx _ y h1
    obtain ⟨c2,a2,t2⟩ := Zvl one d' fs (off + x.size) l' (by omega) hl' vs ys' (by simp only [D.sizes] at hv; omega) h2
    refine ⟨c1 ++ c2,?_,.st t1 t2⟩
    have : vs.drop off = (vs.drop f.offset).take (P.cellsOf f.type) ++ vs.drop (off + x.size) := by
     rw [hoff,hsz,← List.drop_drop,List.take_append_drop]
    rw [this]
    exact a1.append a2
theorem Zbkt {w : World} {X : Type} {enc : TypeId × Value → X} : ∀ (fuel d : Nat) (t : TypeId) (s : D),Zli P d t = some s → ∀ (vs : List Value) x,DataW.trod enc P w 0 (fun _ => true) true fuel t vs = some x →
   ∃ cs,All2 (VR (Zok w) (Zj w)) cs vs ∧ TyD s cs := by
 intro fuel
 induction fuel with
 | zero => intro d t s hd vs x h; simp [DataW.trod] at h
 | succ fuel ih =>
  intro d t s hd vs x h
  cases d with
  | zero => simp [Zli] at hd
  | succ d =>
   have keep : ∀ (c : Cell) (v : Value),VR (Zok w) (Zj w) c v → TyD s [c] → ∃ cs,All2 (VR (Zok w) (Zj w)) cs [v] ∧ TyD s cs :=
    fun c v hv ht => ⟨[c],.single hv,ht⟩
   unfold Zli at hd
   unfold DataW.trod at h
   cases hu : P.underlying t with
   | none => simp [hu] at hd
   | some u =>
    cases u <;> simp only [hu] at hd <;> try (cases hd; done)
    all_goals simp only [hu] at h
    case bool =>
     split at hd <;> try (cases hd; done)
     injection hd with hd; subst hd
     rcases vs with _ | ⟨v,_ | ⟨_,_⟩⟩ <;> try (simp at h; done)
     cases v <;> try (simp at h; done)
     exact keep _ _ (.bool _) (.bool _)
    case int k =>
     split at hd <;> try (cases hd; done)
     injection hd with hd; subst hd
     rcases vs with _ | ⟨v,_ | ⟨_,_⟩⟩ <;> try (simp at h; done)
     cases v <;> try (simp at h; done)
     rename_i k' n
     simp only at h
     split at h <;> try (cases h; done)
     rename_i hk
     obtain ⟨rfl,hw⟩ := hk
     have hb : k'.min ≤ n ∧ n ≤ k'.max := by simpa [Lit.wf] using hw
     exact keep _ _ (.int _ _) (.int hb.1 hb.2)
    case string =>
     split at hd <;> try (cases hd; done)
     injection hd with hd; subst hd
     rcases vs with _ | ⟨v,_ | ⟨_,_⟩⟩ <;> try (simp at h; done)
     cases v <;> try (simp at h; done)
     simp only at h
     split at h <;> try (cases h; done)
     rename_i hs
     exact keep _ _ (.str _) (.str hs)
    case struct fs =>
     split at hd <;> try (cases hd; done)
     rename_i l hl
     split at hd <;> try (cases hd; done)
     rename_i hsz
     injection hd with hd; subst hd
     split at h <;> try (cases h; done)
     rename_i hlen
     cases hm : fs.toList.mapM fun f => DataW.trod enc P w 0 (fun _ => true) true fuel f.type ((vs.drop f.offset).take (P.cellsOf f.type)) with
     | none => rw [hm] at h; simp at h
     | some ys =>
      have := Zvl (P := P) (w := w) (tr := DataW.trod enc P w 0 (fun _ => true) true fuel) (d := d) (fun d' t s _ hs vs x hx => ih d' t s hs vs x hx) d fs.toList 0 l (by omega) hl vs ys (by omega) hm
      simpa using this
    case slice e =>
     split at hd <;> try (cases hd; done)
     rename_i y hy
     split at hd <;> try (cases hd; done)
     rename_i hsz
     injection hd with hd; subst hd
     obtain ⟨hs1,hs2,hs3⟩ := hsz
     rcases vs with _ | ⟨v,_ | ⟨_,_⟩⟩ <;> try (simp at h; done)
     cases v <;> try (simp at h; done)
     rename_i base len cap
     cases base with
     | none =>
      rcases len with _ | len <;> rcases cap with _ | cap <;> try (simp at h; done)
      exact keep _ _ .lstN (.slc (Nat.zero_le _) fun i r e => by simp at e)
     | some a =>
      simp only at h
      split at h <;> try (cases h; done)
      rename_i hcap
      obtain ⟨_,hc1,hc2⟩ := hcap
      cases hm : (List.range len).mapM fun i => (w.cells? 0 (a.add (i * P.cellsOf e)) (P.cellsOf e)).bind (DataW.trod enc P w 0 (fun _ => true) true fuel e) with
      | none => simp [hm] at h
      | some elems =>
       have each : ∀ i,∃ cs : List Cell,i < len → ∃ us,w.cells? 0 (a.add (i * P.cellsOf e)) (P.cellsOf e) = some us ∧ All2 (VR (Zok w) (Zj w)) cs us ∧ TyD y cs := by
        intro i
        by_cases hi : i < len
        ·obtain ⟨b,hb⟩ := Z3z hm (i := i) (a := i) (by simp [hi])
         cases hus : w.cells? 0 (a.add (i * P.cellsOf e)) (P.cellsOf e) with
         | none => simp [hus] at hb
         | some us =>
          simp only [hus,Option.bind_some] at hb
          obtain ⟨cs,h1,h2⟩ := ih d e y hy us b hb
          exact ⟨cs,fun _ => ⟨us,rfl,h1,h2⟩⟩
        ·exact ⟨[],fun h => absurd h hi⟩
       obtain ⟨f,hf⟩ := Classical.skolem.1 each
       have hget : ∀ (i : Nat) r,((List.range len).map f)[i]? = some r → i < len ∧ r = f i := by
        intro i r hr
        have hi : i < len := by have := (List.getElem?_eq_some_iff.1 hr).1; simpa using this
        simp [hi] at hr
        exact ⟨hi,hr.symm⟩
       have spot : 0 < len → a.spot = none ∧ a.block < w.heap.size := by
        intro hl
        obtain ⟨us,h1,h2,h3⟩ := hf 0 hl
        obtain ⟨k1,k2⟩ := Ztw h1
        obtain ⟨v,hv⟩ : ∃ v,us[0]? = some v := ⟨us[0]'(by omega),by simp [show 0 < us.length by omega]⟩
        have hc := k2 0 v hv
        have ha : (a.add (0 * P.cellsOf e)).add 0 = a := by simp [Addr.add]
        rw [ha] at hc
        exact Zbcy hc
       obtain ⟨g,o,sp⟩ := a
       refine keep (.lst y.size ((List.range len).map f)) _ (VR.lst' (g := g) (o := o) (vs := fun i j => (w.cell? ⟨g,o + i * y.size + j,none⟩).getD undef) (by simp) hc1 hc2 (fun hr => ?_) (fun i r hr => ?_) (fun i r j x hr hx => ?_) (fun i r j x hr hx => ?_)) (.slc (by simp; omega) fun i r hr => ?_)
       ·have hl : 0 < len := by
         rcases Nat.eq_zero_or_pos len with h0 | h0
         ·subst h0; simp at hr
         ·exact h0
        have := spot hl
        simp only at this
        obtain ⟨h1,h2⟩ := this
        subst h1
        exact ⟨rfl,h2⟩
       ·obtain ⟨hi,rfl⟩ := hget i r hr
        obtain ⟨us,h1,h2,h3⟩ := hf i hi
        exact h3.length
       ·obtain ⟨hi,rfl⟩ := hget i r hr
        obtain ⟨us,h1,h2,h3⟩ := hf i hi
        have hsp := (spot (by omega)).1
        simp only at hsp
        subst hsp
        obtain ⟨v,hv,hr⟩ := h2.get hx
        have := (Ztw h1).2 j v hv
        rw [Zcf,Zcf,hs1] at this
        rw [Zga,this]
        rfl
       ·obtain ⟨hi,rfl⟩ := hget i r hr
        obtain ⟨us,h1,h2,h3⟩ := hf i hi
        have hsp := (spot (by omega)).1
        simp only at hsp
        subst hsp
        obtain ⟨v,hv,hr⟩ := h2.get hx
        have := (Ztw h1).2 j v hv
        rw [Zcf,Zcf,hs1] at this
        rw [this]
        exact hr
       ·obtain ⟨hi,rfl⟩ := hget i r hr
        obtain ⟨us,h1,h2,h3⟩ := hf i hi
        exact h3
theorem TyD.list {α : Type} {e : D} {f : α → List Cell} (hf : ∀ cs,TyD e cs → ∃ x,cs = f x) {cs : List Cell} (h : TyD (.slc e) cs) : ∃ l : List α,cs = [.lst e.size (l.map f)] ∧ l.length ≤ maxLen := by
 cases h with
 | slc hl h =>
  rename_i rows
  have : ∀ (rows : List (List Cell)),(∀ (i : Nat) r,rows[i]? = some r → TyD e r) → ∃ l : List α,rows = l.map f := by
   intro rows
   induction rows with
   | nil => intro _; exact ⟨[],rfl⟩
   | cons r rows ih =>
    intro h
    obtain ⟨x,hx⟩ := hf r (h 0 r rfl)
    obtain ⟨l,hl⟩ := ih fun i q e => h (i + 1) q (by simpa using e)
    exact ⟨x :: l,by simp [hx,hl]⟩
  obtain ⟨l,rfl⟩ := this rows h
  exact ⟨l,rfl,by simpa using hl⟩
end Go.Proofs.YticmfblfghdkbaaGreatDoor.Eng
