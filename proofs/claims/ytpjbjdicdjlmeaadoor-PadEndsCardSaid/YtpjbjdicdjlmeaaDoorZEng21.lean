/- The engine, part 21: what a function of closed values comes to, at whatever heap. No statement of the seat is proved here. -/
import Derived.Test.YtpjbjdicdjlmeaaDoorZEng20
namespace Go.Proofs.YtpjbjdicdjlmeaaDoor.Eng
open Go
set_option linter.unusedVariables false
set_option linter.unusedSimpArgs false

variable {P : Program} {B : Nat} {m : LMap} {H : Heap} {w : World}

/-- No blocks; what is frozen is given. -/
def flat (z : Nat → Prop) : LMap := ⟨fun _ => none, z⟩
theorem Rel.flat {z : Nat → Prop} {w : World} (hz : ∀ g, z g → g < w.heap.size) (hlib : Lib (flat z) w) : Rel w.heap.size (flat z) [] w :=
  ⟨Nat.le_refl _, fun b L h => (by cases h), hz, fun b L k h => (by cases h), fun b b' L L' k k' h => (by cases h), hlib⟩

/-! ### Plain values: those that name no memory -/
mutual
def plainC : Cell → Bool
  | .ptr _ _ _ => false
  | .slc _ _ _ _ _ => false
  | .fn _ cs => plainCs cs
  | .iface _ _ cs => plainCs cs
  | .lst _ rows => rows.isEmpty
  | .fp _ _ => false
  | _ => true
def plainCs : List Cell → Bool
  | [] => true
  | x :: r => plainC x && plainCs r
end

theorem plainCs_get : ∀ {cs : List Cell}, plainCs cs = true → ∀ {i : Nat} {c : Cell}, cs[i]? = some c → plainC c = true
  | [], _, i, c, h => by simp at h
  | x :: r, hp, i, c, h => by
    simp only [plainCs, Bool.and_eq_true] at hp
    cases i with
    | zero => simp at h; subst h; exact hp.1
    | succ i => exact plainCs_get hp.2 (by simpa using h)

theorem VR.plain {m m' : LMap} {σ σ' : Mem} {c : Cell} {v : Value} (h : VR m σ c v) : plainC c = true → VR m' σ' c v := by
  induction h with
  | int => intro _; exact .int _ _
  | bool => intro _; exact .bool _
  | str => intro _; exact .str _
  | nilI => intro _; exact .nilI
  | nilF => intro _; exact .nilF
  | nilS => intro _; exact .nilS
  | nilP => intro _; exact .nilP
  | ptr => intro hp; simp [plainC] at hp
  | slc => intro hp; simp [plainC] at hp
  | fn hl _ ih =>
    intro hp
    simp only [plainC] at hp
    exact .fn hl fun i c v hc hv => ih i c v hc hv (plainCs_get hp hc)
  | ifaceC _ ih =>
    intro hp
    simp only [plainC, plainCs, Bool.and_true] at hp
    exact .ifaceC (ih hp)
  | ifaceA hl _ ih =>
    intro hp
    simp only [plainC] at hp
    exact .ifaceA hl fun i c v hc hv => ih i c v hc hv (plainCs_get hp hc)
  | zerN => intro _; exact .zerN
  | zerS => intro _; exact .zerS
  | emp h => intro _; exact .emp h
  | lstN => intro _; exact .lstN
  | lst h1 h2 h3 h4 h5 h6 _ =>
    intro hp
    simp only [plainC, List.isEmpty_iff] at hp
    subst hp
    exact VR.lst' (g := 0) (o := 0) (vs := fun _ _ => undef) rfl h1 h2 (fun h => absurd rfl h) (fun i r e => by simp at e) (fun i r f x e => by simp at e) (fun i r f x e => by simp at e)
  | fp => intro hp; simp [plainC] at hp

mutual
def plainA : AVal → Bool
  | .c x => plainC x
  | .agg xs => plainCs xs
  | .tup xs => plainAs xs
def plainAs : List AVal → Bool
  | [] => true
  | x :: r => plainA x && plainAs r
end

theorem plainAs_get : ∀ {cs : List AVal}, plainAs cs = true → ∀ {i : Nat} {c : AVal}, cs[i]? = some c → plainA c = true
  | [], _, i, c, h => by simp at h
  | x :: r, hp, i, c, h => by
    simp only [plainAs, Bool.and_eq_true] at hp
    cases i with
    | zero => simp at h; subst h; exact hp.1
    | succ i => exact plainAs_get hp.2 (by simpa using h)

theorem all2_plain {m m' : LMap} {σ σ' : Mem} : ∀ {cs : List Cell} {vs : List Value}, All2 (VR m σ) cs vs → plainCs cs = true → All2 (VR m' σ') cs vs
  | [], _, h, _ => by cases h; exact .nil
  | c :: cs, _, h, hp => by
    simp only [plainCs, Bool.and_eq_true] at hp
    cases h with
    | cons a b => exact .cons (a.plain hp.1) (all2_plain b hp.2)

theorem VRA.plain {m m' : LMap} {σ σ' : Mem} {x : AVal} {v : Value} (h : VRA m σ x v) : plainA x = true → VRA m' σ' x v := by
  induction h with
  | c h => intro hp; exact .c (h.plain (by simpa [plainA] using hp))
  | agg h => intro hp; exact .agg (all2_plain h (by simpa [plainA] using hp))
  | tup hl _ ih =>
    intro hp
    simp only [plainA] at hp
    exact .tup hl fun i c v hc hv => ih i c v hc hv (plainAs_get hp hc)

/-! ### Views: what a value reads as, if nobody writes -/
section
variable {z : Nat → Prop} (r : Rel B m H w) (hz : ∀ g, m.z g → z g) (hz2 : ∀ b L k, m b = some L → H[b]? = some k → k.live = true → z L.g)
include r hz hz2

theorem viewC_sound {c c' : Cell} (hv : viewC H c = some c') {v : Value} (h : VR m (cellsIn w) c v) : VR (flat z) (cellsIn w) c' v := by
  have closed : ∀ {c c' : Cell} {v : Value}, (if closedC c = true then some c else none) = some c' → VR m (cellsIn w) c v → VR (flat z) (cellsIn w) c' v := by
    intro c c' v hv h
    split at hv <;> try (cases hv; done)
    rename_i hc
    injection hv with hv; subst hv
    exact h.closed hz hc
  have le : m.Le ⟨m.f, fun g => m.z g ∨ z g⟩ := ⟨fun _ _ h => h, fun _ h => .inl h⟩
  have down : ∀ {c : Cell} {v : Value}, VR ⟨m.f, fun g => m.z g ∨ z g⟩ (cellsIn w) c v → closedC c = true → VR (flat z) (cellsIn w) c v := fun h hc => VR.closed (m := ⟨m.f, fun g => m.z g ∨ z g⟩) (m' := flat z) (fun g h => Or.elim h (hz g) id) h hc
  unfold viewC at hv
  split at hv
  · rename_i b s n sz zz
    cases h with
    | @slc _ _ _ _ _ A c h1 h2 h3 h4 =>
      split at hv
      · rename_i hn
        injection hv with hv; subst hv
        subst hn
        exact VR.lst' (g := 0) (o := 0) (vs := fun _ _ => undef) rfl h1 h3 (fun h => absurd rfl h) (fun i r e => by simp at e) (fun i r f x e => by simp at e) (fun i r f x e => by simp at e)
      · rename_i hn
        split at hv <;> try (cases hv; done)
        rename_i k hk
        split at hv <;> try (cases hv; done)
        rename_i hc
        injection hv with hv; subst hv
        obtain ⟨hl, hs, hcl⟩ := hc
        obtain ⟨L, e, ez, h5⟩ := h4
        obtain ⟨k', hk', hat⟩ := r.blk b L e
        rw [hk] at hk'; injection hk' with hk'; subst hk'
        subst ez
        exact down (hat.lst hl le (.inr (hz2 b L k e hk hl)) hs h1 h3 (fun hc => (h5 hc).1)) (by simp [closedC, hcl])
  · rename_i b i f
    cases h with
    | ptr e =>
      split at hv <;> try (cases hv; done)
      rename_i row hrow
      split at hv <;> try (cases hv; done)
      rename_i hcl
      injection hv with hv; subst hv
      obtain ⟨k, hk, hl, hq⟩ := Heap.row_some hrow
      obtain ⟨k', hk', hat⟩ := r.blk b _ e
      rw [hk] at hk'; injection hk' with hk'; subst hk'
      exact down (hat.fp hl le (.inr (hz2 b _ k e hk hl)) hq) (by simp [closedC, hcl])
  · exact closed hv h

theorem viewCs_sound : ∀ {cs ds : List Cell}, viewCs H cs = some ds → cs.length = ds.length ∧ ∀ (i : Nat) d v, ds[i]? = some d → (∀ c, cs[i]? = some c → VR m (cellsIn w) c v) → VR (flat z) (cellsIn w) d v
  | [], ds, h => by simp [viewCs] at h; subst h; exact ⟨rfl, fun i d v e => by simp at e⟩
  | x :: cs, ds, h => by
    simp only [viewCs] at h
    split at h <;> try (cases h; done)
    rename_i y s hy hs
    injection h with h; subst h
    obtain ⟨h1, h2⟩ := viewCs_sound hs
    refine ⟨by simp [h1], fun i d v e hv => ?_⟩
    cases i with
    | zero => simp at e; subst e; exact viewC_sound r hz hz2 hy (hv x rfl)
    | succ i => exact h2 i d v (by simpa using e) fun c hc => hv c (by simpa using hc)

theorem viewFn_sound {c c' : Cell} (hv : viewFn H c = some c') {v : Value} (h : VR m (cellsIn w) c v) : VR (flat z) (cellsIn w) c' v := by
  unfold viewFn at hv
  split at hv
  · rename_i f cs
    split at hv <;> try (cases hv; done)
    rename_i ds hds
    injection hv with hv; subst hv
    obtain ⟨h1, h2⟩ := viewCs_sound r hz hz2 hds
    cases h with
    | fn hl hk => exact .fn (h1.symm.trans hl) fun i d v hd hv => h2 i d v hd fun c hc => hk i c v hc hv
  · rename_i t a cs
    split at hv <;> try (cases hv; done)
    rename_i ds hds
    injection hv with hv; subst hv
    obtain ⟨h1, h2⟩ := viewCs_sound r hz hz2 hds
    cases h with
    | ifaceC hk =>
      cases ds with
      | nil => simp at h1
      | cons d ds =>
        cases ds with
        | cons => simp at h1
        | nil => exact .ifaceC (h2 0 d _ rfl fun c hc => by simp at hc; subst hc; exact hk)
    | ifaceA hl hk => exact .ifaceA (h1.symm.trans hl) fun i d v hd hv => h2 i d v hd fun c hc => hk i c v hc hv
  · exact viewC_sound r hz hz2 hv h

theorem viewFs_sound : ∀ {cs ds : List Cell} {vs : List Value}, viewFs H cs = some ds → All2 (VR m (cellsIn w)) cs vs → All2 (VR (flat z) (cellsIn w)) ds vs
  | [], ds, _, h, ha => by simp [viewFs] at h; subst h; cases ha; exact .nil
  | x :: cs, ds, _, h, ha => by
    simp only [viewFs] at h
    split at h <;> try (cases h; done)
    rename_i y s hy hs
    injection h with h; subst h
    cases ha with
    | cons a b => exact .cons (viewFn_sound r hz hz2 hy a) (viewFs_sound hs b)

end

mutual
theorem viewA_sound {z : Nat → Prop} (r : Rel B m H w) (hz : ∀ g, m.z g → z g) (hz2 : ∀ b L k, m b = some L → H[b]? = some k → k.live = true → z L.g) : ∀ {x y : AVal}, viewA H x = some y → ∀ {v : Value}, VRA m (cellsIn w) x v → VRA (flat z) (cellsIn w) y v
  | .c x, y, hv, v, h => by
    simp only [viewA] at hv
    split at hv <;> try (cases hv; done)
    rename_i d hd
    injection hv with hv; subst hv
    cases h with
    | c h => exact .c (viewFn_sound r hz hz2 hd h)
  | .agg xs, y, hv, v, h => by
    simp only [viewA] at hv
    split at hv <;> try (cases hv; done)
    rename_i d hd
    injection hv with hv; subst hv
    cases h with
    | agg h => exact .agg (viewFs_sound r hz hz2 hd h)
  | .tup xs, y, hv, v, h => by
    simp only [viewA] at hv
    split at hv <;> try (cases hv; done)
    rename_i d hd
    injection hv with hv; subst hv
    cases h with
    | tup hl hk =>
      obtain ⟨h1, h2⟩ := viewAs_sound r hz hz2 hd
      exact .tup (h1.symm.trans hl) fun i x v hx hv => h2 i x v hx fun c hc => hk i c v hc hv
theorem viewAs_sound {z : Nat → Prop} (r : Rel B m H w) (hz : ∀ g, m.z g → z g) (hz2 : ∀ b L k, m b = some L → H[b]? = some k → k.live = true → z L.g) :
    ∀ {xs ys : List AVal}, viewAs H xs = some ys → xs.length = ys.length ∧ ∀ (i : Nat) y v, ys[i]? = some y → (∀ x, xs[i]? = some x → VRA m (cellsIn w) x v) → VRA (flat z) (cellsIn w) y v
  | [], ys, h => by simp [viewAs] at h; subst h; exact ⟨rfl, fun i d v e => by simp at e⟩
  | x :: xs, ys, h => by
    simp only [viewAs] at h
    split at h <;> try (cases h; done)
    rename_i y s hy hs
    injection h with h; subst h
    obtain ⟨h1, h2⟩ := viewAs_sound r hz hz2 hs
    refine ⟨by simp [h1], fun i d v e hv => ?_⟩
    cases i with
    | zero => simp at e; subst e; exact viewA_sound r hz hz2 hy (hv x rfl)
    | succ i => exact h2 i d v (by simpa using e) fun c hc => hv c (by simpa using hc)
end

theorem viewAs_all2 {z : Nat → Prop} (r : Rel B m H w) (hz : ∀ g, m.z g → z g) (hz2 : ∀ b L k, m b = some L → H[b]? = some k → k.live = true → z L.g) {xs ys : List AVal} {vs : List Value} (h : viewAs H xs = some ys) (ha : All2 (VRA m (cellsIn w)) xs vs) : All2 (VRA (flat z) (cellsIn w)) ys vs := by
  obtain ⟨h1, h2⟩ := viewAs_sound r hz hz2 h
  refine All2.of_get (h1.symm.trans ha.length) fun i y v hy hv => h2 i y v hy fun x hx => ?_
  obtain ⟨v', hv', hr⟩ := ha.get hx
  rw [hv] at hv'; injection hv' with hv'; subst hv'
  exact hr

/-! ### Contracts -/
/-- A call of closed values comes to a closed value, at whatever heap, and leaves the heap as it is. -/
def Pure (P : Program) (f : Nat) (args : List AVal) (v : AVal) : Prop := ∀ H, CallSound P f args H v H

theorem CallSound.pure {f : Nat} {args : List AVal} {v v' : AVal} {E : Heap} (h : CallSound P f args [] v E) (ha : closedAs args = true) (hv : viewA E v = some v') : Pure P f args v' := by
  intro H
  refine ⟨h.there, fun B m w vs r hargs => ?_⟩
  have r0 : Rel w.heap.size (flat m.z) [] w := Rel.flat r.zlt r.lib
  refine (h.calls w.heap.size (flat m.z) w vs r0 (all2_closedA (m := m) (m' := flat m.z) (fun _ h => h) hargs ha)).mono ?_
  rintro e w' ⟨u, m1, rfl, hst, hr⟩
  have hbel := hst.below r0
  have himg : ∀ g, ¬ ownImg (flat m.z) [] g := by rintro g ⟨b, L, k, e, _⟩; cases e
  refine ⟨u, ⟨m.f, fun g => m.z g ∨ (w.heap.size ≤ g ∧ g < w'.heap.size)⟩, rfl, St.ofBelow r hbel hst.drawn (fun _ h => .inl h) (fun _ h => h), ?_⟩
  have := viewA_sound hst.rel (z := fun g => m.z g ∨ (w.heap.size ≤ g ∧ g < w'.heap.size)) (fun g hg => ?_) (fun b L k e ek hl => ?_) hv hr
  · exact this.mono (m := flat fun g => m.z g ∨ (w.heap.size ≤ g ∧ g < w'.heap.size)) (m' := ⟨m.f, fun g => m.z g ∨ (w.heap.size ≤ g ∧ g < w'.heap.size)⟩) ⟨fun _ _ h => (by cases h), fun _ _ h => (by cases h), fun _ h => h, fun _ _ _ => rfl⟩
  · rcases hst.zfresh g hg with h1 | h1 | h1
    · exact .inl h1
    · exact .inr ⟨h1, hst.rel.zlt g hg⟩
    · exact absurd h1 (himg g)
  · obtain ⟨k', ek', hat⟩ := hst.rel.blk b L e
    rw [ek] at ek'; injection ek' with ek'; subst ek'
    rcases hst.fresh b L rfl e with h1 | h1
    · exact .inr ⟨h1, hat.lt (.inr hl)⟩
    · exact absurd h1 (himg _)

/-- Arguments are read as they stand; the answer names no memory. -/
theorem Pure.view {f : Nat} {args args' : List AVal} {v : AVal} (h : Pure P f args' v) (ha : viewAs H args = some args') (hv : plainA v = true) : CallSound P f args H v H := by
  refine ⟨(h []).there, fun B m w vs r hargs => ?_⟩
  have r0 : Rel w.heap.size (flat fun g => g < w.heap.size) [] w := Rel.flat (fun _ h => h) fun g c k => ⟨r.zlt g (r.lib g c k).1, (r.lib g c k).2⟩
  have ha' := viewAs_all2 (z := fun g => g < w.heap.size) r r.zlt (fun b L k e ek hl => by
    obtain ⟨k', ek', hat⟩ := r.blk b L e
    rw [ek] at ek'; injection ek' with ek'; subst ek'
    exact hat.lt (.inr hl)) ha hargs
  refine ((h []).calls w.heap.size _ w vs r0 ha').mono ?_
  rintro e w' ⟨u, m1, rfl, hst, hr⟩
  exact ⟨u, ⟨m.f, m.z⟩, rfl, St.ofBelow r (hst.below r0) hst.drawn (fun _ h => h) (fun _ h => .inl h), hr.plain hv⟩

/-! ### An empty slice is as good as nil -/
inductive WkC : Cell → Cell → Prop where
  | same (c) : WkC c c
  | nilS (sz) : WkC .nilS (.lst sz [])
  | zer (sz) : WkC (.zer sz) (.lst sz [])
  | emp (sz) : WkC (.emp sz) (.lst sz [])
  | nilZ (sz) : WkC .nilS (.zer sz)
inductive WkA : AVal → AVal → Prop where
  | same (a) : WkA a a
  | c {x y} : WkC x y → WkA (.c x) (.c y)
  | agg {xs ys} : All2 WkC xs ys → WkA (.agg xs) (.agg ys)
  | tup2 {a b x y} : WkA a x → WkA b y → WkA (.tup [a, b]) (.tup [x, y])

theorem VR.wk {σ : Mem} {c d : Cell} {v : Value} (h : VR m σ c v) (k : WkC c d) : VR m σ d v := by
  cases k with
  | same => exact h
  | nilS => cases h; exact .lstN
  | zer => exact weak_sound rfl h
  | emp => exact weak_sound rfl h
  | nilZ => cases h; exact .zerN
theorem all2_wk {σ : Mem} : ∀ {cs ds : List Cell} {vs : List Value}, All2 WkC cs ds → All2 (VR m σ) cs vs → All2 (VR m σ) ds vs
  | _, _, _, .nil, h => by cases h; exact .nil
  | _, _, _, .cons k ks, h => by
    cases h with
    | cons a b => exact .cons (a.wk k) (all2_wk ks b)
theorem VRA.wk {σ : Mem} {c d : AVal} {v : Value} (h : VRA m σ c v) (k : WkA c d) : VRA m σ d v := by
  induction k generalizing v with
  | same => exact h
  | c k => cases h with | c h => exact .c (h.wk k)
  | agg k => cases h with | agg h => exact .agg (all2_wk k h)
  | tup2 k1 k2 ih1 ih2 =>
    cases h with
    | tup hl hk =>
      refine .tup hl fun i x v hx hv => ?_
      match i with
      | 0 => simp at hx; subst hx; exact ih1 (hk 0 _ v rfl hv)
      | 1 => simp at hx; subst hx; exact ih2 (hk 1 _ v rfl hv)
      | i + 2 => simp at hx
theorem all2_wkA {σ : Mem} : ∀ {cs ds : List AVal} {vs : List Value}, All2 WkA cs ds → All2 (VRA m σ) cs vs → All2 (VRA m σ) ds vs
  | _, _, _, .nil, h => by cases h; exact .nil
  | _, _, _, .cons k ks, h => by
    cases h with
    | cons a b => exact .cons (a.wk k) (all2_wkA ks b)
theorem CallSound.wk {f : Nat} {args args' : List AVal} {H H' : Heap} {v : AVal} (k : All2 WkA args args') (h : CallSound P f args' H v H') : CallSound P f args H v H' :=
  ⟨h.there, fun B m w vs r ha => h.calls B m w vs r (all2_wkA k ha)⟩
theorem Pure.wk {f : Nat} {args args' : List AVal} {v : AVal} (h : Pure P f args' v) (k : All2 WkA args args') : Pure P f args v := fun H => (h H).wk k

/-- An empty slice is nil, or not. -/
theorem CallSound.empty {f : Nat} {pre post : List AVal} {sz : Nat} {H H' : Heap} {v : AVal} (h1 : CallSound P f (pre ++ .c .nilS :: post) H v H') (h2 : CallSound P f (pre ++ .c (.emp sz) :: post) H v H') : CallSound P f (pre ++ .c (.lst sz []) :: post) H v H' := by
  refine ⟨h1.there, fun B m w vs r ha => ?_⟩
  have key : ∀ {pre : List AVal} {vs : List Value}, All2 (VRA m (cellsIn w)) (pre ++ .c (.lst sz []) :: post) vs → All2 (VRA m (cellsIn w)) (pre ++ .c .nilS :: post) vs ∨ All2 (VRA m (cellsIn w)) (pre ++ .c (.emp sz) :: post) vs := by
    intro pre
    induction pre with
    | nil =>
      intro vs h
      cases h with
      | cons a b =>
        cases a with
        | c a =>
          cases a with
          | lstN => exact .inl (.cons (.c .nilS) b)
          | lst h1 h2 => exact .inr (.cons (.c (.emp h2)) b)
    | cons x pre ih =>
      intro vs h
      cases h with
      | cons a b => exact (ih b).imp (.cons a) (.cons a)
  rcases key ha with h | h
  · exact h1.calls B m w vs r h
  · exact h2.calls B m w vs r h

/-- An answer that is nil, told as an empty slice. -/
theorem CallSound.wkr {f : Nat} {args : List AVal} {H H' : Heap} {v v' : AVal} (k : WkA v v') (h : CallSound P f args H v H') : CallSound P f args H v' H' :=
  ⟨h.there, fun B m w vs r ha => (h.calls B m w vs r ha).mono (by rintro e w' ⟨u, m', h1, h2, h3⟩; exact ⟨u, m', h1, h2, h3.wk k⟩)⟩
theorem Pure.wkr {f : Nat} {args : List AVal} {v v' : AVal} (h : Pure P f args v) (k : WkA v v') : Pure P f args v' := fun H => (h H).wkr k

/-! ### The program of a text -/
/-- The slim functions of a text, and whatever call is known to be sound. -/
noncomputable def progT (P : Program) (T : Nat → Option AFun) : Prog := { fn := T, prim := fun f a H v H' => CallSound P f a H v H' }
theorem progT_ok {T : Nat → Option AFun} (hT : ∀ f a, T f = some a → cmpFun P f = some a.erase) (h : P.follows .mixedOrders = true) : GOk P (progT P T) := ⟨hT, fun _ _ _ _ _ h => h, h⟩

def one (f : Nat) (a : AFun) : Nat → Option AFun := fun g => if g = f then some a else none
theorem one_ok {f : Nat} {a : AFun} (h : cmpFun P f = some a.erase) : ∀ g b, one f a g = some b → cmpFun P g = some b.erase := by
  intro g b hb
  unfold one at hb
  split at hb
  · rename_i hg
    injection hb with hb; subst hb; subst hg; exact h
  · cases hb

/-- The program of one function. -/
noncomputable abbrev P1 (P : Program) (f : Nat) (a : AFun) : Prog := progT P (one f a)

theorem sound1 {T : Nat → Option AFun} (hT : ∀ f a, T f = some a → cmpFun P f = some a.erase) (hm : P.follows .mixedOrders = true) {f : Nat} {args : List AVal} {H H' : Heap} {v : AVal} (h : Ev (progT P T) (.call f args H v H')) : CallSound P f args H v H' :=
  sound (progT_ok hT hm) h

/-- What no slice of the machine can be longer than. -/
def lenC : Cell → Prop
  | .lst _ rows => rows.length ≤ maxLen
  | _ => True
def lenA : AVal → Prop
  | .c x => lenC x
  | .agg xs => ∀ x ∈ xs, lenC x
  | .tup _ => True
def lenAs (l : List AVal) : Prop := ∀ a ∈ l, lenA a

theorem VR.lens {σ : Mem} {c : Cell} {v : Value} (h : VR m σ c v) : lenC c := by
  cases h <;> try trivial
  case lstN => exact Nat.zero_le _
  case lst h1 h2 _ _ _ _ => exact Nat.le_trans h1 h2
theorem All2.left_mem {α β : Type} {R : α → β → Prop} {l : List α} {r : List β} (h : All2 R l r) : ∀ a ∈ l, ∃ b, R a b := by
  induction h with
  | nil => intro b h; cases h
  | cons hd _ ih => intro b hb; cases hb with
    | head => exact ⟨_, hd⟩
    | tail _ hb => exact ih b hb
theorem VRA.lens {σ : Mem} {c : AVal} {v : Value} (h : VRA m σ c v) : lenA c := by
  cases h with
  | c h => exact h.lens
  | agg h => intro x hx; obtain ⟨_, hr⟩ := h.left_mem x hx; exact hr.lens
  | tup => trivial

theorem there_of {f : Nat} {a : AFun} (hf : cmpFun P f = some a) : ∃ fn, P.funcs[f]? = some fn ∧ fn.body.isSome = true ∧ (fn.name == "runtime.NumGoroutine") = false := by
  unfold cmpFun at hf
  split at hf <;> try (cases hf; done)
  rename_i fn hfn
  split at hf <;> try (cases hf; done)
  rename_i c rs hbody hrs
  split at hf <;> try (cases hf; done)
  rename_i hname
  exact ⟨fn, hfn, by rw [hbody]; rfl, by simpa using hname⟩

/-- Arguments that no machine has: nothing is to be shown. -/
theorem CallSound.of_lens {f : Nat} {args : List AVal} {H H' : Heap} {v : AVal} (ht : ∃ fn, P.funcs[f]? = some fn ∧ fn.body.isSome = true ∧ (fn.name == "runtime.NumGoroutine") = false) (h : lenAs args → CallSound P f args H v H') : CallSound P f args H v H' := by
  by_cases hl : lenAs args
  · exact h hl
  · refine ⟨ht, fun B m w vs r ha => ?_⟩
    exact absurd (fun a hm => by obtain ⟨_, hr⟩ := ha.left_mem a hm; exact hr.lens) hl

/-- A function's contract out of its body. -/
theorem pure_of (hm : P.follows .mixedOrders = true) {f : Nat} {a : AFun} (hf : cmpFun P f = some a.erase) {args : List AVal} {v : AVal} (ha : closedAs args = true)
    (h : lenAs args → ∀ T, Run (progT P T) ⟨a.res, fun u E => viewA E u = some v⟩ [.code a.body] (initEnv args) []) : Pure P f args v := by
  intro H
  refine CallSound.of_lens (there_of hf) fun hl => ?_
  obtain ⟨u, E, h1, h2⟩ := wcall_of (G := P1 P f a) (f := f) (by simp [P1, progT, one]) (h hl _)
  exact (sound1 (one_ok hf) hm h1).pure ha h2 H

/-- The same, where nil may be told as an empty slice. -/
def viewW (E : Heap) (u v : AVal) : Prop := ∃ x, viewA E u = some x ∧ WkA x v
theorem pure_ofW (hm : P.follows .mixedOrders = true) {f : Nat} {a : AFun} (hf : cmpFun P f = some a.erase) {args : List AVal} {v : AVal} (ha : closedAs args = true)
    (h : lenAs args → ∀ T, Run (progT P T) ⟨a.res, fun u E => viewW E u v⟩ [.code a.body] (initEnv args) []) : Pure P f args v := by
  intro H
  refine CallSound.of_lens (there_of hf) fun hl => ?_
  obtain ⟨u, E, h1, x, h2, h3⟩ := wcall_of (G := P1 P f a) (f := f) (by simp [P1, progT, one]) (h hl _)
  exact ((sound1 (one_ok hf) hm h1).pure ha h2 H).wkr h3

/-- A function's contract at a heap. -/
theorem sound_of (hm : P.follows .mixedOrders = true) {f : Nat} {a : AFun} (hf : cmpFun P f = some a.erase) {args : List AVal} {H H' : Heap} {v : AVal}
    (h : ∀ T, Run (progT P T) ⟨a.res, fun u E => u = v ∧ E = H'⟩ [.code a.body] (initEnv args) H) : CallSound P f args H v H' := by
  obtain ⟨u, E, h1, rfl, rfl⟩ := wcall_of (G := P1 P f a) (f := f) (by simp [P1, progT, one]) (h _)
  exact sound1 (one_ok hf) hm h1

/-- A closed call that was run. -/
theorem pure_run {T : Nat → Option AFun} (hT : ∀ f a, T f = some a → cmpFun P f = some a.erase) (hm : P.follows .mixedOrders = true) (n : Nat) {f : Nat} {args : List AVal} {v v' : AVal} {E : Heap} (h : (runN T n).1 f args [] = some (v, E)) (ha : closedAs args = true) (hv : viewA E v = some v') : Pure P f args v' :=
  (sound1 hT hm ((runN_sound (G := progT P T) (fun _ _ h => h) n).1 _ _ _ _ _ h)).pure ha hv

section
variable {T : Nat → Option AFun} {p : Post} {k : List Itm} {d : Bool} {e : Env} {l : List AInstr} {dst : Option Nat}
/-- A call whose contract is known: closed arguments. -/
theorem callW_pure {f : Nat} {caps : List Cell} {args : List AVal} {v : AVal} (h : Pure P f (args ++ caps.map .c) v) (hw : WL (progT P T) p k d l (updO e dst v) H) : callW (progT P T) p k d (.c (.fn f caps)) args dst l e H :=
  callW_of ⟨v, H, .prim (h H), fun _ => List.prefix_refl _, hw⟩
/-- A call whose contract is known: arguments read as they stand, a plain answer. -/
theorem callW_view {f : Nat} {caps : List Cell} {args args' : List AVal} {v : AVal} (h : Pure P f args' v) (ha : viewAs H (args ++ caps.map .c) = some args') (hv : plainA v = true) (hw : WL (progT P T) p k d l (updO e dst v) H) : callW (progT P T) p k d (.c (.fn f caps)) args dst l e H :=
  callW_of ⟨v, H, .prim (h.view ha hv), fun _ => List.prefix_refl _, hw⟩
/-- A call whose contract at this heap is known. -/
theorem callW_at {f : Nat} {caps : List Cell} {args : List AVal} {v : AVal} {H1 : Heap} (h : CallSound P f (args ++ caps.map .c) H v H1) (hp : d = true → H <+: H1) (hw : WL (progT P T) p k d l (updO e dst v) H1) : callW (progT P T) p k d (.c (.fn f caps)) args dst l e H :=
  callW_of ⟨v, H1, .prim h, hp, hw⟩
end

/-! ### Laws -/
/-- A law's call, out of its contract. -/
theorem Pure.law {f : Nat} {args : List AVal} (h : Pure P f args (.c (.bool true))) {w : World} (hlib : LibW w) {vs : Array Value} (ha : All2 (VRA (flat fun g => g < w.heap.size) (cellsIn w)) args vs.toList) :
    Calls P f vs w fun e w' => e = .returned (.bool true) ∧ RowKit.Below w.heap.size w w' := by
  have r0 : Rel w.heap.size (flat fun g => g < w.heap.size) [] w := Rel.flat (fun _ h => h) fun g c k => ⟨hlib.lt k, hlib g c k⟩
  refine ((h []).calls w.heap.size _ w vs r0 ha).mono ?_
  rintro e w' ⟨u, m1, rfl, hst, hr⟩
  refine ⟨?_, hst.below r0⟩
  cases hr with
  | c hr => cases hr; rfl

end Go.Proofs.YtpjbjdicdjlmeaaDoor.Eng
