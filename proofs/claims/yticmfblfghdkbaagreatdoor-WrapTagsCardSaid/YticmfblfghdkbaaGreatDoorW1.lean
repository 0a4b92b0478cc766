/- Parts of this claim's proof, joined. No statement of the seat is proved here. -/
import Derived.Test.YticmfblfghdkbaaGreatDoorW0
import Derived.Laws.AppendOwn
import Derived.Laws.World
import Derived.Laws.Cells
import Derived.Below
import Derived.Laws.CopyRow
import Derived.Laws.Append
import Derived.Laws.Entries
import Derived.Laws.BytesString
import Derived.Laws.Slices
import Derived.Laws.StructEq
set_option linter.unusedVariables false
set_option linter.unusedSimpArgs false
namespace Go.Proofs.YticmfblfghdkbaaGreatDoor.Eng
open Go
inductive All2 {α β : Type} (R : α → β → Prop) : List α → List β → Prop where
  | nil : All2 R [] []
  | cons {a b l r} : R a b → All2 R l r → All2 R (a :: l) (b :: r)
namespace All2
variable {α β : Type} {R S : α → β → Prop}
theorem length {l : List α} {r : List β} (h : All2 R l r) : l.length = r.length := by
  induction h with
  | nil => rfl
  | cons _ _ ih => simp [ih]
theorem mono {l : List α} {r : List β} (h : All2 R l r) (f : ∀ a b,R a b → S a b) : All2 S l r := by
  induction h with
  | nil => exact .nil
  | cons h _ ih => exact .cons (f _ _ h) ih
theorem get {l : List α} {r : List β} (h : All2 R l r) : ∀ {i : Nat} {a : α},l[i]? = some a → ∃ b,r[i]? = some b ∧ R a b := by
  induction h with
  | nil => intro i a h; simp at h
  | cons hd _ ih =>
    intro i a h
    cases i with
    | zero => simp at h; subst h; exact ⟨_,by simp,hd⟩
    | succ i => simp at h; obtain ⟨b,hb,hr⟩ := ih h; exact ⟨b,by simpa using hb,hr⟩
theorem of_get {l : List α} : ∀ {r : List β},l.length = r.length → (∀ (i : Nat) a b,l[i]? = some a → r[i]? = some b → R a b) → All2 R l r := by
  induction l with
  | nil => intro r h _; cases r with
    | nil => exact .nil
    | cons => simp at h
  | cons a l ih =>
    intro r h hr
    cases r with
    | nil => simp at h
    | cons b r => exact .cons (hr 0 a b (by simp) (by simp)) (ih (by simpa using h) fun i x y hx hy => hr (i + 1) x y (by simpa using hx) (by simpa using hy))
theorem append {l l' : List α} {r r' : List β} (h : All2 R l r) (h' : All2 R l' r') : All2 R (l ++ l') (r ++ r') := by
  induction h with
  | nil => exact h'
  | cons hd _ ih => exact .cons hd ih
theorem take {l : List α} {r : List β} (h : All2 R l r) : ∀ n : Nat,All2 R (l.take n) (r.take n) := by
  induction h with
  | nil => intro n; simpa using All2.nil
  | cons hd _ ih => intro n; cases n with
    | zero => simpa using All2.nil
    | succ n => simpa using All2.cons hd (ih n)
theorem drop {l : List α} {r : List β} (h : All2 R l r) : ∀ n : Nat,All2 R (l.drop n) (r.drop n) := by
  induction h with
  | nil => intro n; simpa using All2.nil
  | cons hd tl ih => intro n; cases n with
    | zero => simpa using All2.cons hd tl
    | succ n => simpa using ih n
theorem single {a : α} {b : β} (h : R a b) : All2 R [a] [b] := .cons h .nil
theorem inv_single {a : α} {r : List β} (h : All2 R [a] r) : ∃ b,r = [b] ∧ R a b := by
  cases h with
  | cons h t => cases t; exact ⟨_,rfl,h⟩
theorem right_mem {l : List α} {r : List β} (h : All2 R l r) : ∀ b ∈ r,∃ a ∈ l,R a b := by
  induction h with
  | nil => intro b h; cases h
  | cons hd _ ih => intro b hb; cases hb with
    | head => exact ⟨_,by simp,hd⟩
    | tail _ hb => obtain ⟨a,ha,hr⟩ := ih b hb; exact ⟨a,by simp [ha],hr⟩
end All2
structure Loc where
  g : Nat
  o : Nat
  sz : Nat
  own : Bool
structure LMap where
  f : Nat → Option Loc
  z : Nat → Prop
instance : CoeFun LMap fun _ => Nat → Option Loc := ⟨LMap.f⟩
structure Mem where
  len : Nat → Nat
  cell : Addr → Option Value
instance : CoeFun Mem fun _ => Nat → Nat := ⟨Mem.len⟩
def Z44 (w : World) (g : Nat) : Nat :=
  match w.heap[g]? with
  | some (.cells c _ _) => c.size
  | _ => 0
def Zj (w : World) : Mem := ⟨Z44 w,w.cell?⟩
theorem Zga (w : World) : (Zj w).cell = w.cell? := rfl
inductive VR (m : LMap) (σ : Mem) : Cell → Value → Prop where
  | int (k n) : VR m σ (.int k n) (.int k n)
  | bool (b) : VR m σ (.bool b) (.bool b)
  | str (s) : VR m σ (.str s) (.string s)
  | nilI : VR m σ .nilI .nilIface
  | nilF : VR m σ .nilF .nilFunc
  | nilS : VR m σ .nilS (.slice none 0 0)
  | nilP : VR m σ .nilP (.pointer none)
  | ptr {b i f L} : m b = some L → VR m σ (.ptr b i f) (.pointer (some ⟨L.g,L.o + i * L.sz + f,none⟩))
  | slc {b s n sz z A c} : n ≤ c → (z = true → c = 0) → c ≤ maxLen →
      (∃ L,m b = some L ∧ L.sz = sz ∧ (c ≠ 0 → A = ⟨L.g,L.o + s * sz,none⟩ ∧ (L.own = true → (s + c) * sz = σ L.g))) → VR m σ (.slc b s n sz z) (.slice (some A) n c)
  | fn {f cs} {vs : Array Value} : cs.length = vs.size → (∀ (i : Nat) c v,cs[i]? = some c → vs[i]? = some v → VR m σ c v) → VR m σ (.fn f cs) (.func (.func f) #[] vs)
  | ifaceC {t c v} : VR m σ c v → VR m σ (.iface t false [c]) (.iface t v)
  | ifaceA {t cs} {vs : Array Value} : cs.length = vs.size → (∀ (i : Nat) c v,cs[i]? = some c → vs[i]? = some v → VR m σ c v) → VR m σ (.iface t true cs) (.iface t (.agg vs))
  | zerN {sz} : VR m σ (.zer sz) (.slice none 0 0)
  | emp {sz A c} : c ≤ maxLen → VR m σ (.emp sz) (.slice (some A) 0 c)
  | zerS {sz A} : VR m σ (.zer sz) (.slice (some A) 0 0)
  | lstN {sz} : VR m σ (.lst sz []) (.slice none 0 0)
  | lst {sz A c g o} {rows : List (List Cell)} {vs : Nat → Nat → Value} : rows.length ≤ c → c ≤ maxLen → (rows ≠ [] → A = ⟨g,o,none⟩ ∧ m.z g) → (∀ (i : Nat) r,rows[i]? = some r → r.length = sz) →
      (∀ (i : Nat) r (f : Nat) x,rows[i]? = some r → r[f]? = some x → σ.cell ⟨g,o + i * sz + f,none⟩ = some (vs i f)) → (∀ (i : Nat) r (f : Nat) x,rows[i]? = some r → r[f]? = some x → VR m σ x (vs i f)) →
      VR m σ (.lst sz rows) (.slice (some A) rows.length c)
  | fp {f g o} {row : List Cell} {vs : Nat → Value} : m.z g → (∀ (j : Nat) x,row[j]? = some x → σ.cell ⟨g,o + j,none⟩ = some (vs j)) → (∀ (j : Nat) x,row[j]? = some x → VR m σ x (vs j)) → VR m σ (.fp row f) (.pointer (some ⟨g,o + f,none⟩))
inductive VRA (m : LMap) (σ : Mem) : AVal → Value → Prop where
  | c {x v} : VR m σ x v → VRA m σ (.c x) v
  | agg {cs} {vs : Array Value} : All2 (VR m σ) cs vs.toList → VRA m σ (.agg cs) (.agg vs)
  | tup {xs} {vs : Array Value} : xs.length = vs.size → (∀ (i : Nat) x v,xs[i]? = some x → vs[i]? = some v → VRA m σ x v) → VRA m σ (.tup xs) (.tuple vs)
structure MLe (m : LMap) (σ : Mem) (m' : LMap) (σ' : Mem) : Prop where
  map : ∀ b L,m b = some L → m' b = some L
  size : ∀ b L,m b = some L → L.own = true → σ' L.g = σ L.g
  z : ∀ g,m.z g → m'.z g
  cell : ∀ g o,m.z g → σ'.cell ⟨g,o,none⟩ = σ.cell ⟨g,o,none⟩
def Z2z (g : Nat) (c : Value) : Prop := (g = 0 ∧ c = Value.iface 235 (.agg #[.pointer (some ⟨7,98,none⟩)]))
def Lib (m : LMap) (w : World) : Prop := ∀ g c,Z2z g c → m.z g ∧ w.cell? ⟨g,0,none⟩ = some c
def LibW (w : World) : Prop := ∀ g c,Z2z g c → w.cell? ⟨g,0,none⟩ = some c
theorem Lib.up {m m' : LMap} {w w' : World} (h : Lib m w) (hm : MLe m (Zj w) m' (Zj w')) : Lib m' w' := fun g c k => ⟨hm.z g (h g c k).1,(hm.cell g 0 (h g c k).1).trans (h g c k).2⟩
theorem Lib.w {m : LMap} {w : World} (h : Lib m w) : LibW w := fun g c k => (h g c k).2
theorem LibW.lt {w : World} (h : LibW w) {g : Nat} {c : Value} (k : Z2z g c) : g < w.heap.size := by
  rcases Nat.lt_or_ge g w.heap.size with h' | h'
  · exact h'
  · have := h g c k; simp [World.cell?,Array.getElem?_eq_none h'] at this
theorem LibW.none (h : ∀ g c,¬ Z2z g c) (w : World) : LibW w := fun g c k => (h g c k).elim
theorem MLe.refl (m σ) : MLe m σ m σ := ⟨fun _ _ h => h,fun _ _ _ _ => rfl,fun _ h => h,fun _ _ _ => rfl⟩
theorem MLe.trans {m σ m1 σ1 m2 σ2} (h : MLe m σ m1 σ1) (k : MLe m1 σ1 m2 σ2) : MLe m σ m2 σ2 :=
  ⟨fun b L e => k.map b L (h.map b L e),fun b L e o => (k.size b L (h.map b L e) o).trans (h.size b L e o),fun g h' => k.z g (h.z g h'),fun g o h' => (k.cell g o (h.z g h')).trans (h.cell g o h')⟩
structure LMap.Le (m m' : LMap) : Prop where
  map : ∀ b L,m b = some L → m' b = some L
  z : ∀ g,m.z g → m'.z g
theorem LMap.Le.mle {m m' : LMap} (h : m.Le m') (σ : Mem) : MLe m σ m' σ := ⟨h.map,fun _ _ _ _ => rfl,h.z,fun _ _ _ => rfl⟩
theorem LMap.Le.refl (m : LMap) : m.Le m := ⟨fun _ _ h => h,fun _ h => h⟩
theorem LMap.Le.trans {m m1 m2 : LMap} (h : m.Le m1) (k : m1.Le m2) : m.Le m2 := ⟨fun b L e => k.map b L (h.map b L e),fun g e => k.z g (h.z g e)⟩
theorem VR.mono {m σ m' σ'} (h : MLe m σ m' σ') {c v} (r : VR m σ c v) : VR m' σ' c v := by
  induction r with
  | int => exact .int _ _
  | bool => exact .bool _
  | str => exact .str _
  | nilI => exact .nilI
  | nilF => exact .nilF
  | nilS => exact .nilS
  | nilP => exact .nilP
  | ptr e => exact .ptr (h.map _ _ e)
  | slc h1 h2 h3 h4 =>
    obtain ⟨L,e,ez,h5⟩ := h4
    refine .slc h1 h2 h3 ⟨L,h.map _ _ e,ez,fun hc => ?_⟩
    obtain ⟨ea,es⟩ := h5 hc
    exact ⟨ea,fun ho => (es ho).trans (h.size _ _ e ho).symm⟩
  | fn hl _ ih => exact .fn hl ih
  | ifaceC _ ih => exact .ifaceC ih
  | ifaceA hl _ ih => exact .ifaceA hl ih
  | zerN => exact .zerN
  | zerS => exact .zerS
  | emp h => exact .emp h
  | lstN => exact .lstN
  | lst h1 h2 h3 h4 h5 _ ih =>
    refine .lst h1 h2 (fun hr => ⟨(h3 hr).1,h.z _ (h3 hr).2⟩) h4 (fun i r f x e1 e2 => ?_) ih
    have hr := (h3 (by intro h0; rw [h0] at e1; simp at e1)).2
    rw [h.cell _ _ hr]
    exact h5 i r f x e1 e2
  | fp h1 h2 _ ih => exact .fp (h.z _ h1) (fun j x e => by rw [h.cell _ _ h1]; exact h2 j x e) ih
theorem VRA.mono {m σ m' σ'} (h : MLe m σ m' σ') {c v} (r : VRA m σ c v) : VRA m' σ' c v := by
  induction r with
  | c r => exact .c (r.mono h)
  | agg r => exact .agg (r.mono fun _ _ => VR.mono h)
  | tup hl _ ih => exact .tup hl ih
theorem VR.oneCell {m σ c v} (r : VR m σ c v) : v.oneCell' = true := by cases r <;> rfl
theorem VR.cells {m σ c v} (r : VR m σ c v) : v.cells = #[v] := by cases r <;> rfl
theorem VRA.undef {m σ} : VRA m σ Zfo undef := .tup rfl (fun i x v h => by simp at h)
theorem VRA.cells {m σ v u} (r : VRA m σ v u) (h : v.cells ≠ [] ∨ ∃ cs,v = .agg cs) : All2 (VR m σ) v.cells u.cells.toList := by
  cases r with
  | c r => rw [r.cells]; exact .single r
  | agg r => exact r
  | tup => rcases h with h | ⟨_,h⟩
           · simp [AVal.cells] at h
           · cases h
structure HLe (H H' : Heap) : Prop where
  len : H.length ≤ H'.length
  blk : ∀ b k',b < H.length → H'[b]? = some k' → ∃ k,H[b]? = some k ∧ k'.sz = k.sz ∧ k'.own = k.own ∧ (k'.live = true → k.live = true)
theorem HLe.refl (H) : HLe H H := ⟨Nat.le_refl _,fun b k' _ h => ⟨k',h,rfl,rfl,id⟩⟩
theorem HLe.trans {H H1 H2 : Heap} (h : HLe H H1) (k : HLe H1 H2) : HLe H H2 :=
  ⟨Nat.le_trans h.len k.len,fun b k' hb e => by
    obtain ⟨k1,e1,a1,b1,c1⟩ := k.blk b k' (Nat.lt_of_lt_of_le hb h.len) e
    obtain ⟨k0,e0,a0,b0,c0⟩ := h.blk b k1 hb e1
    exact ⟨k0,e0,a1.trans a0,b1.trans b0,fun x => c0 (c1 x)⟩⟩
theorem HLe.append (H E : Heap) : HLe H (H ++ E) :=
  ⟨by simp,fun b k' hb e => ⟨k',by rw [List.getElem?_append_left hb] at e; exact e,rfl,rfl,id⟩⟩
theorem HLe.set {H : Heap} {b : Nat} {k k' : Blk} (h : H[b]? = some k) (hs : k'.sz = k.sz) (ho : k'.own = k.own) (hl : k'.live = true → k.live = true) : HLe H (H.set b k') :=
  ⟨by simp,fun b' q hb e => by
    by_cases hbb : b = b'
    · subst hbb
      simp [hb] at e
      subst e
      exact ⟨k,h,hs,ho,hl⟩
    · rw [List.getElem?_set_ne hbb] at e
      exact ⟨q,e,rfl,rfl,id⟩⟩
theorem HLe.of_prefix {H H' : Heap} (h : H <+: H') : HLe H H' := by
  obtain ⟨E,rfl⟩ := h; exact HLe.append H E
def Z2s (m : LMap) (w : World) (L : Loc) (i : Nat) (r : List Cell) : Prop :=
  r.length = L.sz ∧ ∀ (f : Nat) c,r[f]? = some c → ∃ v,w.cell? ⟨L.g,L.o + i * L.sz + f,none⟩ = some v ∧ VR m (Zj w) c v
def Thaw (n : Nat) (z : Nat × Nat) : Prop := n ≤ z.1 ∨ z.2 = 0
theorem Thaw.zero (n : Nat) : Thaw n (0,0) := .inr rfl
theorem Thaw.at {n i : Nat} {z : Nat × Nat} (h : Thaw n z) (hi : i < n) : (decide (z.1 ≤ i) && decide (i < z.2)) = false := by
  rcases h with h | h
  · have : ¬ z.1 ≤ i := by omega
    simp [this]
  · have : ¬ i < z.2 := by omega
    simp [this]
theorem Thaw.frozen {w : World} {g i : Nat} {cur : Array Value} {t : TypeId} {z : Nat × Nat} (hg : w.heap[g]? = some (.cells cur t z)) (h : Thaw cur.size z) (hi : i < cur.size) : w.frozen? ⟨g,i,none⟩ = false := by
  have := h.at hi
  obtain ⟨a,b⟩ := z
  simpa [World.frozen?,hg] using this
structure BlkAt (B : Nat) (m : LMap) (w : World) (L : Loc) (k : Blk) : Prop where
  sz : k.sz = L.sz
  own : k.own = L.own
  lt : (L.own = true ∨ k.live = true) → L.g < w.heap.size
  ours : L.own = true → B ≤ L.g ∧ L.o = 0
  foreign : L.own = false → k.live = true → L.g < B
  rows : k.live = true → ∀ (i : Nat) r,k.rows[i]? = some r → Z2s m w L i r
  row : L.own = true → k.live = true → ∃ cur t z,w.heap[L.g]? = some (.cells cur t z) ∧ Thaw cur.size z
structure Rel (B : Nat) (m : LMap) (H : Heap) (w : World) : Prop where
  base : B ≤ w.heap.size
  blk : ∀ b L,m b = some L → ∃ k,H[b]? = some k ∧ BlkAt B m w L k
  zlt : ∀ g,m.z g → g < w.heap.size
  zown : ∀ b L k,m b = some L → L.own = true → H[b]? = some k → k.live = true → ¬ m.z L.g
  inj : ∀ b b' L L' k k',m b = some L → m b' = some L' → L.own = true → L'.own = true → H[b]? = some k → H[b']? = some k' → k.live = true → k'.live = true → L.g = L'.g → b = b'
  lib : Lib m w
def Zhd (m : LMap) (H : Heap) (g : Nat) : Prop := ∃ b L k,m b = some L ∧ L.own = true ∧ L.g = g ∧ H[b]? = some k ∧ k.live = true
def Dr (w w' : World) : Prop := true = true ∨ w.drawn ≤ w'.drawn
theorem Dr.refl (w : World) : Dr w w := .inr (Nat.le_refl _)
theorem Dr.trans {w w1 w2 : World} (h : Dr w w1) (h' : Dr w1 w2) : Dr w w2 := by
  rcases h with h | h
  · exact .inl h
  · rcases h' with h' | h'
    · exact .inl h'
    · exact .inr (Nat.le_trans h h')
structure St (B : Nat) (H : Heap) (m : LMap) (w : World) (H' : Heap) (m' : LMap) (w' : World) : Prop where
  ext : ∀ b L,m b = some L → m' b = some L
  dom : ∀ b L,m b = none → m' b = some L → H.length ≤ b
  rel : Rel B m' H' w'
  frame : ∀ g,g < w.heap.size → ¬ Zhd m H g → w'.heap[g]? = w.heap[g]?
  fresh : ∀ b L,m b = none → m' b = some L → w.heap.size ≤ L.g ∨ Zhd m H L.g
  size : w.heap.size ≤ w'.heap.size
  szs : ∀ g,g < w.heap.size → Zj w' g = Zj w g
  os : w'.os = w.os
  tape : w'.tape = w.tape
  output : w'.output = w.output
  hle : HLe H H'
  zext : ∀ g,m.z g → m'.z g
  zfresh : ∀ g,m'.z g → m.z g ∨ w.heap.size ≤ g ∨ Zhd m H g
  drawn : Dr w w'
theorem St.refl {B H m w} (r : Rel B m H w) : St B H m w H m w :=
  ⟨fun _ _ h => h,(fun _ _ h k => by rw [h] at k; cases k),r,fun _ _ _ => rfl,(fun _ _ h k => by rw [h] at k; cases k),Nat.le_refl _,fun _ _ => rfl,rfl,rfl,rfl,HLe.refl _,fun _ h => h,fun _ h => .inl h,Dr.refl _⟩
theorem Rel.zimg {B H m w} (r : Rel B m H w) {g : Nat} (h : m.z g) : ¬ Zhd m H g := by
  rintro ⟨b,L,k,e,ho,rfl,ek,hl⟩
  exact r.zown b L k e ho ek hl h
theorem St.mle {B H m w H' m' w'} (r : Rel B m H w) (s : St B H m w H' m' w') : MLe m (Zj w) m' (Zj w') :=
  ⟨s.ext,fun b L h o => by obtain ⟨k,_,hk⟩ := r.blk b L h; exact s.szs _ (hk.lt (.inl o)),s.zext,fun g o h => World.cell?_of_block (s.frame g (r.zlt g h) (r.zimg h))⟩
theorem St.le {B H m w H' m' w'} (s : St B H m w H' m' w') : m.Le m' := ⟨s.ext,s.zext⟩
theorem Rel.lt {B m H w} (r : Rel B m H w) {b L} (h : m b = some L) : b < H.length := by
  obtain ⟨k,e,_⟩ := r.blk b L h
  exact (List.getElem?_eq_some_iff.1 e).1
theorem St.img {B H m w H' m' w'} (r : Rel B m H w) (s : St B H m w H' m' w') {g : Nat} (hg : g < w.heap.size) (h : Zhd m' H' g) : Zhd m H g := by
  obtain ⟨b,L,k,e,ho,rfl,ek,hl⟩ := h
  cases hm : m b with
  | some L0 =>
    have := s.ext b L0 hm
    rw [e] at this; injection this with this; subst this
    obtain ⟨k0,e0,_,_,hl0⟩ := s.hle.blk b k (r.lt hm) ek
    exact ⟨b,L,k0,hm,ho,rfl,e0,hl0 hl⟩
  | none =>
    rcases s.fresh b L hm e with h | h
    · omega
    · exact h
theorem St.trans {B H m w H1 m1 w1 H2 m2 w2} (r : Rel B m H w) (s : St B H m w H1 m1 w1) (t : St B H1 m1 w1 H2 m2 w2) : St B H m w H2 m2 w2 where
  ext := fun b L h => t.ext b L (s.ext b L h)
  dom := fun b L h h2 => by
    cases h1 : m1 b with
    | some L1 => exact s.dom b L1 h h1
    | none => exact Nat.le_trans s.hle.len (t.dom b L h1 h2)
  rel := t.rel
  frame := fun g hg hn => (t.frame g (Nat.lt_of_lt_of_le hg s.size) (fun hi => hn (s.img r hg hi))).trans (s.frame g hg hn)
  fresh := fun b L h h2 => by
    cases h1 : m1 b with
    | some L1 =>
      have := t.ext b L1 h1
      rw [h2] at this; injection this with this; subst this
      exact s.fresh b L h h1
    | none =>
      rcases t.fresh b L h1 h2 with h3 | h3
      · exact .inl (Nat.le_trans s.size h3)
      · by_cases hg : L.g < w.heap.size
        · exact .inr (s.img r hg h3)
        · exact .inl (by omega)
  size := Nat.le_trans s.size t.size
  szs := fun g hg => (t.szs g (Nat.lt_of_lt_of_le hg s.size)).trans (s.szs g hg)
  os := t.os.trans s.os
  tape := t.tape.trans s.tape
  output := t.output.trans s.output
  hle := s.hle.trans t.hle
  zext := fun g h => t.zext g (s.zext g h)
  zfresh := fun g h => by
    rcases t.zfresh g h with h | h | h
    · exact s.zfresh g h
    · exact .inr (.inl (Nat.le_trans s.size h))
    · by_cases hg : g < w.heap.size
      · exact .inr (.inr (s.img r hg h))
      · exact .inr (.inl (by omega))
  drawn := s.drawn.trans t.drawn
theorem St.below {B H m w H' m' w'} (r : Rel B m H w) (s : St B H m w H' m' w') : RowKit.Below B w w' :=
  ⟨s.os,s.tape,s.output,s.size,fun k hk => s.frame k (Nat.lt_of_lt_of_le hk r.base) (by
    rintro ⟨b,L,q,e,ho,rfl,ek,hl⟩
    obtain ⟨_,_,hb⟩ := r.blk b L e
    have := (hb.ours ho).1
    omega)⟩
theorem Zco {w : World} {g : Nat} {cur : Array Value} {t : TypeId} {fz : Nat × Nat} (h : w.heap[g]? = some (.cells cur t fz)) : Zj w g = cur.size := by
 simp [Zj,Z44,h]
theorem Zhj {w w' : World} {g : Nat} (h : w'.heap[g]? = w.heap[g]?) : Zj w' g = Zj w g := by simp [Zj,Z44,h]
theorem St.drew {B H m w} (r : Rel B m H w) : St B H m w H m w.drew where
 ext := fun _ _ h => h
 dom := fun _ _ h k => by rw [h] at k; cases k
 rel := ⟨r.base,fun b L h => by
  obtain ⟨k,e,hk⟩ := r.blk b L h
  exact ⟨k,e,⟨hk.sz,hk.own,hk.lt,hk.ours,hk.foreign,hk.rows,hk.row⟩⟩,r.zlt,r.zown,r.inj,r.lib⟩
 frame := fun _ _ _ => rfl
 fresh := fun _ _ h k => by rw [h] at k; cases k
 size := Nat.le_refl _
 szs := fun _ _ => rfl
 os := rfl
 tape := rfl
 output := rfl
 hle := HLe.refl _
 zext := fun _ h => h
 zfresh := fun _ h => .inl h
 drawn := Or.inr (Nat.le_succ _)
def Zen (m : LMap) (b : Nat) (L : Loc) : LMap := ⟨fun x => if x = b then some L else m x,m.z⟩
theorem Zc1 (m : LMap) (b : Nat) (L : Loc) : Zen m b L b = some L := by simp [Zen]
theorem Zcj {m : LMap} {b x : Nat} {L : Loc} (h : x ≠ b) : Zen m b L x = m x := by simp [Zen,h]
def RowsIn (m : LMap) (σ : Mem) (sz : Nat) (rows : List (List Cell)) (vs : Array Value) : Prop :=
 ∀ (i : Nat) r,rows[i]? = some r → r.length = sz ∧ ∀ (f : Nat) c,r[f]? = some c → ∃ v,vs[i * sz + f]? = some v ∧ VR m σ c v
theorem RowsIn.mono {m σ m' σ' sz rows vs} (h : MLe m σ m' σ') (r : RowsIn m σ sz rows vs) : RowsIn m' σ' sz rows vs := fun i q e =>
 ⟨(r i q e).1,fun f c ef => by obtain ⟨v,e1,e2⟩ := (r i q e).2 f c ef; exact ⟨v,e1,e2.mono h⟩⟩
theorem BlkAt.carry {B : Nat} {m m' : LMap} {w w' : World} {L : Loc} {k : Blk} (h : BlkAt B m w L k) (hm : MLe m (Zj w) m' (Zj w')) (hs : w.heap.size ≤ w'.heap.size)
  (hg : k.live = true → w'.heap[L.g]? = w.heap[L.g]?) : BlkAt B m' w' L k where
 sz := h.sz
 own := h.own
 lt := fun x => Nat.lt_of_lt_of_le (h.lt x) hs
 ours := h.ours
 foreign := h.foreign
 rows := fun hl i r e => by
  obtain ⟨h1,h2⟩ := h.rows hl i r e
  refine ⟨h1,fun f c ef => ?_⟩
  obtain ⟨v,e1,e2⟩ := h2 f c ef
  exact ⟨v,(World.cell?_of_block (hg hl)).trans e1,e2.mono hm⟩
 row := fun ho hl => by rw [hg hl]; exact h.row ho hl
theorem St.new {B H m w} (r : Rel B m H w) (t : TypeId) (k : Blk) (vs : Array Value) (ho : k.own = true) (hr : RowsIn m (Zj w) k.sz k.rows vs) (z : Nat × Nat := (0,0)) (hz : Thaw vs.size z := by exact .inr rfl) :
  St B H m w (H ++ [k]) (Zen m H.length ⟨w.heap.size,0,k.sz,true⟩) (w.alloc (.cells vs t z)) := by
 have hmn : m H.length = none := by
  cases h : m H.length with
  | none => rfl
  | some L => exact absurd (r.lt h) (Nat.lt_irrefl _)
 have hext : ∀ b L,m b = some L → Zen m H.length ⟨w.heap.size,0,k.sz,true⟩ b = some L := fun b L h => by
  rw [Zcj (by intro e; subst e; rw [hmn] at h; cases h)]; exact h
 have hold : ∀ g,g < w.heap.size → (w.alloc (.cells vs t z)).heap[g]? = w.heap[g]? := fun g hg => heap_alloc_old w _ g hg
 have hnew : (w.alloc (.cells vs t z)).heap[w.heap.size]? = some (.cells vs t z) := heap_alloc_new w _
 have hm : MLe m (Zj w) (Zen m H.length ⟨w.heap.size,0,k.sz,true⟩) (Zj (w.alloc (.cells vs t z))) :=
  ⟨hext,fun b L h o => by obtain ⟨_,_,hk⟩ := r.blk b L h; exact Zhj (hold _ (hk.lt (.inl o))),fun _ h => h,fun g o h => World.cell?_of_block (hold g (r.zlt g h))⟩
 refine ⟨hext,?_,⟨?_,?_,fun g h => Nat.lt_of_lt_of_le (r.zlt g h) (by simp),?_,?_,r.lib.up hm⟩,fun g hg _ => hold g hg,?_,by simp,fun g hg => Zhj (hold g hg),rfl,rfl,rfl,HLe.append _ _,fun _ h => h,fun _ h => .inl h,Or.inr (Nat.le_refl _)⟩
 ·intro b L h h'
  by_cases e : b = H.length
  ·omega
  ·rw [Zcj e,h] at h'; cases h'
 ·have := r.base; simp; omega
 ·intro b L h
  by_cases e : b = H.length
  ·subst e
   rw [Zc1] at h
   injection h with h
   subst h
   refine ⟨k,by simp,⟨rfl,ho,fun _ => by simp,fun _ => ⟨r.base,rfl⟩,(fun h => by cases h),fun _ i q e => ?_,fun _ _ => ⟨vs,t,z,hnew,hz⟩⟩⟩
   obtain ⟨h1,h2⟩ := hr i q e
   refine ⟨h1,fun f c ef => ?_⟩
   obtain ⟨v,e1,e2⟩ := h2 f c ef
   refine ⟨v,?_,e2.mono hm⟩
   simp only [Nat.zero_add]
   rw [cell_of_row _ _ _ _ _ _ hnew]
   exact e1
  ·rw [Zcj e] at h
   obtain ⟨q,eq,hq⟩ := r.blk b L h
   exact ⟨q,by rw [List.getElem?_append_left (r.lt h)]; exact eq,hq.carry hm (by simp) fun hl => hold _ (hq.lt (.inr hl))⟩
 ·intro b L q h ho1 e hl hz
  by_cases eb : b = H.length
  ·subst eb
   rw [Zc1] at h
   injection h with h
   subst h
   exact Nat.lt_irrefl _ (r.zlt _ hz)
  ·rw [Zcj eb] at h
   rw [List.getElem?_append_left (r.lt h)] at e
   exact r.zown b L q h ho1 e hl hz
 ·intro b b' L L' q q' h h' ho1 ho2 e e' hl hl' hg
  by_cases eb : b = H.length
  ·by_cases eb' : b' = H.length
   ·omega
   ·exfalso
    subst eb
    rw [Zc1] at h
    rw [Zcj eb'] at h'
    injection h with h
    subst h
    obtain ⟨_,_,hq⟩ := r.blk b' L' h'
    have := hq.lt (.inl (by assumption))
    simp only at hg
    omega
  ·by_cases eb' : b' = H.length
   ·exfalso
    subst eb'
    rw [Zc1] at h'
    rw [Zcj eb] at h
    injection h' with h'
    subst h'
    obtain ⟨_,_,hq⟩ := r.blk b L h
    have := hq.lt (.inl (by assumption))
    simp only at hg
    omega
   ·rw [Zcj eb] at h
    rw [Zcj eb'] at h'
    rw [List.getElem?_append_left (r.lt h)] at e
    rw [List.getElem?_append_left (r.lt h')] at e'
    exact r.inj b b' L L' q q' h h' ho1 ho2 e e' hl hl' hg
 ·intro b L h h'
  by_cases e : b = H.length
  ·subst e
   rw [Zc1] at h'
   injection h' with h'
   subst h'
   exact .inl (Nat.le_refl _)
  ·rw [Zcj e,h] at h'; cases h'
theorem St.turn {B H m w} (r : Rel B m H w) {b : Nat} {L : Loc} {k k' : Blk} (hb : m b = some L) (hk : H[b]? = some k) (ho : L.own = true) (hl : k.live = true)
  {cur : Array Value} {t : TypeId} {z : Nat × Nat} (hg : w.heap[L.g]? = some (.cells cur t z)) (hth : Thaw cur.size z) (cs : Array Value) (hcs : cs.size = cur.size)
  (hsz : k'.sz = k.sz) (hown : k'.own = k.own) (hrows : k'.live = true → RowsIn m (Zj w) L.sz k'.rows cs) :
  St B H m w (H.set b k') m (w.setRow L.g cs) := by
 have hnew : (w.setRow L.g cs).heap[L.g]? = some (.cells cs t z) := setRow_heap w L.g cur cs t z hg
 have hother : ∀ g,g ≠ L.g → (w.setRow L.g cs).heap[g]? = w.heap[g]? := fun g hne => setRow_other w L.g g cs hne
 have hsize : (w.setRow L.g cs).heap.size = w.heap.size := by simp [World.setRow]
 have hcells : ∀ g,Zj (w.setRow L.g cs) g = Zj w g := fun g => by
  by_cases e : g = L.g
  ·subst e; rw [Zco hnew,Zco hg,hcs]
  ·exact Zhj (hother g e)
 have hm : MLe m (Zj w) m (Zj (w.setRow L.g cs)) := ⟨fun _ _ h => h,fun _ _ _ _ => hcells _,fun _ h => h,fun g o h => World.cell?_of_block (hother g (by intro e; subst e; exact r.zown b L k hb ho hk hl h))⟩
 obtain ⟨k0,hk0,hat⟩ := r.blk b L hb
 rw [hk] at hk0; injection hk0 with hk0; subst hk0
 refine ⟨fun _ _ h => h,(fun _ _ h h' => by rw [h] at h'; cases h'),⟨by rw [hsize]; exact r.base,?_,fun g h => (by rw [hsize]; exact r.zlt g h),?_,?_,r.lib.up hm⟩,?_,(fun _ _ h h' => by rw [h] at h'; cases h'),by rw [hsize]; exact Nat.le_refl _,fun g _ => hcells g,rfl,rfl,rfl,
  HLe.set hk hsz hown (fun _ => hl),fun _ h => h,fun _ h => .inl h,Or.inr (Nat.le_refl _)⟩
 ·intro b' L' h'
  by_cases e : b' = b
  ·subst e
   rw [hb] at h'; injection h' with h'; subst h'
   refine ⟨k',by simp [r.lt hb],⟨hsz.trans hat.sz,hown.trans hat.own,fun _ => (by rw [hsize]; exact hat.lt (.inl ho)),hat.ours,(fun h => by rw [ho] at h; cases h),fun hl' i q e => ?_,fun _ _ => ⟨cs,t,z,hnew,by rw [hcs]; exact hth⟩⟩⟩
   obtain ⟨h1,h2⟩ := hrows hl' i q e
   refine ⟨h1,fun f c ef => ?_⟩
   obtain ⟨v,e1,e2⟩ := h2 f c ef
   refine ⟨v,?_,e2.mono hm⟩
   rw [(hat.ours ho).2,Nat.zero_add,cell_of_row _ _ _ _ _ _ hnew]
   exact e1
  ·obtain ⟨q,eq,hq⟩ := r.blk b' L' h'
   refine ⟨q,by rw [List.getElem?_set_ne (fun x => e x.symm)]; exact eq,hq.carry hm (by rw [hsize]; exact Nat.le_refl _) fun hlq => hother _ ?_⟩
   intro eg
   cases ho' : L'.own with
   | true => exact e (r.inj b' b L' L q k h' hb ho' ho eq hk hlq hl eg)
   | false =>
    have h1 := hq.foreign ho' hlq
    have h2 := (hat.ours ho).1
    omega
 ·intro b1 L1 q1 h1 ho1 e1 hl1 hz
  by_cases eb : b = b1
  ·subst eb
   exact r.zown b L1 k h1 ho1 hk hl hz
  ·rw [List.getElem?_set_ne eb] at e1
   exact r.zown b1 L1 q1 h1 ho1 e1 hl1 hz
 ·intro b1 b2 L1 L2 q1 q2 h1 h2 ho1 ho2 e1 e2 hl1 hl2 hgg
  have back : ∀ (b' : Nat) (q' : Blk),(H.set b k')[b']? = some q' → q'.live = true → ∃ q : Blk,H[b']? = some q ∧ q.live = true := fun b' q' e hl' => by
   by_cases eb : b = b'
   ·subst eb; exact ⟨k,hk,hl⟩
   ·rw [List.getElem?_set_ne eb] at e; exact ⟨q',e,hl'⟩
  obtain ⟨p1,f1,g1⟩ := back b1 q1 e1 hl1
  obtain ⟨p2,f2,g2⟩ := back b2 q2 e2 hl2
  exact r.inj b1 b2 L1 L2 p1 p2 h1 h2 ho1 ho2 f1 f2 g1 g2 hgg
 ·intro g hg' hn
  refine hother g fun e => hn ?_
  subst e
  exact ⟨b,L,k,hb,ho,rfl,hk,hl⟩
theorem St.adopt {B H m w} (r : Rel B m H w) {b : Nat} {L : Loc} {k0 k : Blk} (hb : m b = some L) (hk0 : H[b]? = some k0) (hdead : k0.live = false) (ho : L.own = true) (hko : k.own = true) (hksz : k.sz = L.sz)
  {cur : Array Value} {t : TypeId} {z : Nat × Nat} (hg : w.heap[L.g]? = some (.cells cur t z)) (hth : Thaw cur.size z) (hrows : RowsIn m (Zj w) L.sz k.rows cur)
  (hfree : ∀ b' L' k',m b' = some L' → L'.own = true → H[b']? = some k' → k'.live = true → L'.g ≠ L.g) (hnz : ¬ m.z L.g) :
  Rel B (Zen m H.length ⟨L.g,0,L.sz,true⟩) (H ++ [k]) w ∧ (∀ b L',m b = some L' → Zen m H.length ⟨L.g,0,L.sz,true⟩ b = some L') := by
 have hmn : m H.length = none := by
  cases h : m H.length with
  | none => rfl
  | some L => exact absurd (r.lt h) (Nat.lt_irrefl _)
 have hext : ∀ b L',m b = some L' → Zen m H.length ⟨L.g,0,L.sz,true⟩ b = some L' := fun b L' h => by
  rw [Zcj (by intro e; subst e; rw [hmn] at h; cases h)]; exact h
 have hm : MLe m (Zj w) (Zen m H.length ⟨L.g,0,L.sz,true⟩) (Zj w) := ⟨hext,fun _ _ _ _ => rfl,fun _ h => h,fun _ _ _ => rfl⟩
 obtain ⟨_,_,hat⟩ := r.blk b L hb
 refine ⟨⟨r.base,?_,r.zlt,?_,?_,r.lib.up hm⟩,hext⟩
 ·intro b' L' h
  by_cases e : b' = H.length
  ·subst e
   rw [Zc1] at h
   injection h with h
   subst h
   refine ⟨k,by simp,⟨hksz,hko,fun _ => hat.lt (.inl ho),fun _ => ⟨(hat.ours ho).1,rfl⟩,(fun h => by cases h),fun _ i q e => ?_,fun _ _ => ⟨cur,t,z,hg,hth⟩⟩⟩
   obtain ⟨h1,h2⟩ := hrows i q e
   refine ⟨h1,fun f c ef => ?_⟩
   obtain ⟨v,e1,e2⟩ := h2 f c ef
   refine ⟨v,?_,e2.mono hm⟩
   simp only [Nat.zero_add]
   rw [cell_of_row _ _ _ _ _ _ hg]
   exact e1
  ·rw [Zcj e] at h
   obtain ⟨q,eq,hq⟩ := r.blk b' L' h
   exact ⟨q,by rw [List.getElem?_append_left (r.lt h)]; exact eq,hq.carry hm (Nat.le_refl _) fun _ => rfl⟩
 ·intro b1 L1 q h ho1 e hl hz
  by_cases eb : b1 = H.length
  ·subst eb
   rw [Zc1] at h
   injection h with h
   subst h
   exact hnz hz
  ·rw [Zcj eb] at h
   rw [List.getElem?_append_left (r.lt h)] at e
   exact r.zown b1 L1 q h ho1 e hl hz
 ·intro b1 b2 L1 L2 q q' h h' ho1 ho2 e e' hl hl' hgg
  by_cases eb : b1 = H.length
  ·by_cases eb' : b2 = H.length
   ·omega
   ·exfalso
    subst eb
    rw [Zc1] at h
    rw [Zcj eb'] at h'
    injection h with h
    subst h
    rw [List.getElem?_append_left (r.lt h')] at e'
    exact hfree b2 L2 q' h' ho2 e' hl' hgg.symm
  ·by_cases eb' : b2 = H.length
   ·exfalso
    subst eb'
    rw [Zc1] at h'
    rw [Zcj eb] at h
    injection h' with h'
    subst h'
    rw [List.getElem?_append_left (r.lt h)] at e
    exact hfree b1 L1 q h ho1 e hl hgg
   ·rw [Zcj eb] at h
    rw [Zcj eb'] at h'
    rw [List.getElem?_append_left (r.lt h)] at e
    rw [List.getElem?_append_left (r.lt h')] at e'
    exact r.inj b1 b2 L1 L2 q q' h h' ho1 ho2 e e' hl hl' hgg
theorem St.drop {B H m w} (r : Rel B m H w) {b : Nat} {k : Blk} (hk : H[b]? = some k) : St B H m w (H.set b { k with live := false }) m w := by
 refine ⟨fun _ _ h => h,(fun _ _ h h' => by rw [h] at h'; cases h'),⟨r.base,?_,r.zlt,?_,?_,r.lib⟩,fun _ _ _ => rfl,(fun _ _ h h' => by rw [h] at h'; cases h'),Nat.le_refl _,fun _ _ => rfl,rfl,rfl,rfl,HLe.set hk rfl rfl (fun h => by cases h),fun _ h => h,fun _ h => .inl h,Or.inr (Nat.le_refl _)⟩
 ·intro b' L' h'
  obtain ⟨q,eq,hq⟩ := r.blk b' L' h'
  by_cases e : b = b'
  ·subst e
   rw [hk] at eq; injection eq with eq; subst eq
   exact ⟨{ k with live := false },by simp [r.lt h'],⟨hq.sz,hq.own,(fun h => hq.lt (h.elim .inl (fun h => by cases h))),hq.ours,(fun _ h => by cases h),(fun h => by cases h),(fun _ h => by cases h)⟩⟩
  ·exact ⟨q,by rw [List.getElem?_set_ne e]; exact eq,hq⟩
 ·intro b1 L1 q h ho1 e hl hz
  by_cases eb : b = b1
  ·subst eb
   have hlt : b < H.length := (List.getElem?_eq_some_iff.1 hk).1
   simp [hlt] at e
   subst e
   cases hl
  ·rw [List.getElem?_set_ne eb] at e
   exact r.zown b1 L1 q h ho1 e hl hz
 ·intro b1 b2 L1 L2 q1 q2 h1 h2 ho1 ho2 e1 e2 hl1 hl2 hgg
  have back : ∀ (b' : Nat) (q' : Blk),(H.set b { k with live := false })[b']? = some q' → q'.live = true → H[b']? = some q' := fun b' q' e hl' => by
   by_cases eb : b = b'
   ·subst eb
    have hlt : b < H.length := (List.getElem?_eq_some_iff.1 hk).1
    simp [hlt] at e
    subst e
    cases hl'
   ·rw [List.getElem?_set_ne eb] at e; exact e
  exact r.inj b1 b2 L1 L2 q1 q2 h1 h2 ho1 ho2 (back _ _ e1 hl1) (back _ _ e2 hl2) hl1 hl2 hgg
theorem St.ofBelow {B : Nat} {m : LMap} {H : Heap} {w w' : World} (r : Rel B m H w) (h : RowKit.Below w.heap.size w w') (hd : Dr w w') {z : Nat → Prop} (hz : ∀ g,m.z g → z g) (hz2 : ∀ g,z g → m.z g ∨ (w.heap.size ≤ g ∧ g < w'.heap.size)) : St B H m w H ⟨m.f,z⟩ w' := by
 have hs : w.heap.size ≤ w'.heap.size := h.size
 have hg : ∀ g,g < w.heap.size → w'.heap[g]? = w.heap[g]? := fun g hg => h.block g hg
 have hm : MLe m (Zj w) ⟨m.f,z⟩ (Zj w') := ⟨fun _ _ h => h,fun b L h o => by obtain ⟨_,_,hk⟩ := r.blk b L h; exact Zhj (hg _ (hk.lt (.inl o))),hz,fun g o h => World.cell?_of_block (hg g (r.zlt g h))⟩
 refine ⟨fun _ _ h => h,(fun _ _ h k => by rw [show m _ = _ from k] at h; cases h),⟨Nat.le_trans r.base hs,fun b L hb => ?_,fun g h => ?_,fun b L k hb ho e hl h => ?_,r.inj,r.lib.up hm⟩,fun g h1 _ => hg g h1,(fun _ _ h k => by rw [show m _ = _ from k] at h; cases h),hs,fun g h1 => Zhj (hg g h1),h.os,h.tape,h.output,HLe.refl _,hz,fun g h => (hz2 g h).elim .inl fun h => .inr (.inl h.1),hd⟩
 ·obtain ⟨k,e,hk⟩ := r.blk b L hb
  exact ⟨k,e,hk.carry hm hs fun hl => hg _ (hk.lt (.inr hl))⟩
 ·rcases hz2 g h with h | h
  ·exact Nat.lt_of_lt_of_le (r.zlt g h) hs
  ·exact h.2
 ·rcases hz2 _ h with h | h
  ·exact r.zown b L k hb ho e hl h
  ·obtain ⟨q,_,hq⟩ := r.blk b L hb
   have := hq.lt (.inl ho)
   omega
end Go.Proofs.YticmfblfghdkbaaGreatDoor.Eng
namespace Go.Proofs.YticmfblfghdkbaaGreatDoor.Eng
open Go
variable {P : Program} {B : Nat} {m : LMap} {H : Heap} {w : World} {σ : Mem}
theorem Zss {v : Value} {c : Cell} (h : Zqd v = some c) : VR m σ c v := by
 unfold Zqd at h
 split at h <;> first | (injection h with h; subst h; constructor) | cases h
theorem Zdd : ∀ {vs : List Value} {cs : List Cell},cellsOf vs = some cs → All2 (VR m σ) cs vs
 | [],cs,h => by simp [cellsOf] at h; subst h; exact .nil
 | v :: r,cs,h => by
  unfold cellsOf at h
  cases h1 : Zqd v with
  | none => simp [h1] at h
  | some c =>
   cases h2 : cellsOf r with
   | none => simp [h1,h2] at h
   | some l => simp [h1,h2] at h; subst h; exact .cons (Zss h1) (Zdd h2)
theorem Z3n {v : Value} {a : AVal} (h : Ztc v = some a) : VRA m σ a v := by
 unfold Ztc at h
 split at h
 ·split at h
  ·rename_i h1
   injection h with h; subst h; exact .agg (Zdd h1)
  ·cases h
 ·split at h
  ·rename_i h1
   injection h with h; subst h; exact .c (Zss h1)
  ·cases h
def EnvOn (m : LMap) (σ : Mem) (ts : List Nat) (e : Env) (a : Act) : Prop := ∀ t ∈ ts,VRA m σ (e t) (a.tmps.getD t undef)
theorem EnvOn.mono {m' σ' ts e a} (h : EnvOn m σ ts e a) (hm : MLe m σ m' σ') : EnvOn m' σ' ts e a := fun t ht => (h t ht).mono hm
theorem EnvOn.left {ts us e a} (h : EnvOn m σ (ts ++ us) e a) : EnvOn m σ ts e a := fun t ht => h t (by simp [ht])
theorem EnvOn.right {ts us e a} (h : EnvOn m σ (ts ++ us) e a) : EnvOn m σ us e a := fun t ht => h t (by simp [ht])
theorem Zcp {x : Operand} {y : Opd} {e : Env} {a : Act} (h : Zx x = some y) (he : EnvOn m σ y.tmps e a) : VRA m σ (y.ev e) (a.eval x) := by
 unfold Zx at h
 split at h
 ·injection h with h; subst h; exact he _ (by simp [Opd.tmps])
 ·rename_i v
  cases h1 : Ztc v with
  | none => simp [h1] at h
  | some av => simp [h1] at h; subst h; exact Z3n h1
 ·injection h with h; subst h
  exact .c (.fn rfl (fun i c v hc => by simp at hc))
 ·cases h
theorem Zmz {e : Env} {a : Act} : ∀ {xs : List Operand} {ys : List Opd},Ze0 xs = some ys → EnvOn m σ (ys.flatMap Opd.tmps) e a → All2 (fun y v => VRA m σ (y.ev e) v) ys (xs.map a.eval)
 | [],ys,h,_ => by simp [Ze0] at h; subst h; exact .nil
 | x :: r,ys,h,he => by
  unfold Ze0 at h
  cases h1 : Zx x with
  | none => simp [h1] at h
  | some y => cases h2 : Ze0 r with
   | none => simp [h1,h2] at h
   | some l =>
    simp [h1,h2] at h
    subst h
    rw [List.flatMap_cons] at he
    exact .cons (Zcp h1 he.left) (Zmz h2 he.right)
theorem Zh3 {t : TypeId} {g : Bool} (h : Zdi P t = some g) (w : World) : (isAgg t).run P w = .ok g w := by
 unfold Zdi at h
 cases hd : P.underlying t with
 | none => simp [hd] at h
 | some d => cases d <;> simp [hd] at h <;> subst h <;> simp [isAgg,run_underlying hd]
theorem Zfg {t : TypeId} {n : Nat} (h : Zbm P t = some n) : ∃ i,P.info? t = some i ∧ i.size = n := by
 unfold Zbm at h
 cases hi : P.info? t with
 | none => simp [hi] at h
 | some i => simp [hi] at h; exact ⟨i,rfl,h⟩
theorem Zck {t : TypeId} {n : Nat} (h : Zbm P t = some n) (w : World) : (sizeOf t).run P w = .ok n w := by
 obtain ⟨i,hi,rfl⟩ := Zfg h
 simp [sizeOf,typeInfo,hi]
theorem Zsw {t : TypeId} {z : List Cell} (h : Zdm P t = some z) : ∃ v,(∀ w,(zeroValue t).run P w = .ok v w) ∧ ∀ m σ,All2 (VR m σ) z v.cells.toList := by
 unfold Zdm at h
 cases hi : P.info? t with
 | none => simp [hi] at h
 | some i =>
  cases hz : i.zero with
  | none => simp [hi,hz] at h
  | some v => simp [hi,hz] at h; exact ⟨v,fun w => by simp [zeroValue,typeInfo,hi,hz],fun m σ => Zdd h⟩
theorem Zbf2 {L : Loc} {i : Nat} {r : List Cell} (h : Z2s m w L i r) : ∃ vs : List Value,All2 (VR m (Zj w)) r vs ∧ ∀ (f : Nat) v,vs[f]? = some v → w.cell? ⟨L.g,L.o + i * L.sz + f,none⟩ = some v := by
 obtain ⟨_,h2⟩ := h
 refine ⟨(List.range r.length).map fun f => (w.cell? ⟨L.g,L.o + i * L.sz + f,none⟩).getD undef,All2.of_get (by simp) ?_,?_⟩
 ·intro f c v hc hv
  obtain ⟨u,e1,e2⟩ := h2 f c hc
  have hf : f < r.length := (List.getElem?_eq_some_iff.1 hc).1
  simp [hf,e1] at hv
  subst hv
  exact e2
 ·intro f v hv
  have hf : f < r.length := by
   have := (List.getElem?_eq_some_iff.1 hv).1
   simpa using this
  obtain ⟨u,e1,_⟩ := h2 f r[f] (List.getElem?_eq_getElem hf)
  simp [hf,e1] at hv
  subst hv
  exact e1
theorem Heap.row_some {b i : Nat} {r : List Cell} (h : H.row b i = some r) : ∃ k,H[b]? = some k ∧ k.live = true ∧ k.rows[i]? = some r := by
 unfold Heap.row at h
 cases hk : H[b]? with
 | none => simp [hk] at h
 | some k => cases hl : k.live with
  | false => simp [hk,hl] at h
  | true => simp [hk,hl] at h; exact ⟨k,rfl,hl,h⟩
theorem Rel.rowAt (r : Rel B m H w) {b i : Nat} {L : Loc} {q : List Cell} (hb : m b = some L) (h : H.row b i = some q) : Z2s m w L i q := by
 obtain ⟨k,hk,hl,hq⟩ := Heap.row_some h
 obtain ⟨k',hk',hat⟩ := r.blk b L hb
 rw [hk] at hk'; injection hk' with hk'; subst hk'
 exact hat.rows hl i q hq
theorem Zcf (g o n : Nat) : (⟨g,o,none⟩ : Addr).add n = ⟨g,o + n,none⟩ := by
 unfold Addr.add; split
 ·subst_vars; rfl
 ·rfl
theorem Zl3 {g : Bool} {cs : List Cell} {v : AVal} {vs : List Value} (h : Zcm g cs = some v) (hr : All2 (VR m σ) cs vs) :
  (g = true ∧ VRA m σ v (.agg vs.toArray)) ∨ (g = false ∧ ∃ u,vs = [u] ∧ VRA m σ v u) := by
 unfold Zcm at h
 cases g with
 | true => simp at h; subst h; exact .inl ⟨rfl,.agg (by simpa using hr)⟩
 | false =>
  simp at h
  split at h
  ·rename_i x
   injection h with h; subst h
   obtain ⟨u,rfl,hu⟩ := hr.inv_single
   exact .inr ⟨rfl,u,rfl,.c hu⟩
  ·cases h
theorem Zbii {t : TypeId} {g : Bool} {n : Nat} (hg : Zdi P t = some g) (hn : Zbm P t = some n) (A : Addr) {cs : List Cell} {us : List Value} (h3 : All2 (VR m (Zj w)) cs us) (hlen : us.length = n)
  (hcell : ∀ (j : Nat) u,us[j]? = some u → w.cell? (A.add j) = some u) {v : AVal} (hv : Zcm g cs = some v) :
  ∃ v',(Instr.loadAt t (.pointer (some A))).run P w = .ok v' w ∧ VRA m (Zj w) v v' := by
 rcases Zl3 hv h3 with ⟨rfl,hr⟩ | ⟨rfl,u,hu,hr⟩
 ·refine ⟨_,?_,hr⟩
  have := run_loadCells_list (P := P) w A _ hcell
  rw [hlen] at this
  simp [Instr.loadAt,Instr.sureAddr,loadVar,Zh3 hg,Zck hn,this]
 ·refine ⟨u,?_,hr⟩
  have h0 := hcell 0 u (by rw [hu]; rfl)
  have ha : A.add 0 = A := by simp [Addr.add]
  rw [ha] at h0
  simp [Instr.loadAt,Instr.sureAddr,loadVar,Zh3 hg,h0]
theorem Zvw {t : TypeId} {g : Bool} {n : Nat} (hg : Zdi P t = some g) (hn : Zbm P t = some n) {f : Nat} {q : List Cell} {v : AVal} {va : Value}
  (ha : VR m (Zj w) (.fp q f) va) (hfn : f + n ≤ q.length) (hv : Zcm g ((q.drop f).take n) = some v) :
  ∃ v',(Instr.loadAt t va).run P w = .ok v' w ∧ VRA m (Zj w) v v' := by
 cases ha with
 | @fp _ gg o _ vs h1 h2 h3 =>
  have hl : ((q.drop f).take n).length = n := by simp; omega
  have hget : ∀ (j : Nat) x,((q.drop f).take n)[j]? = some x → q[f + j]? = some x := fun j x e => by
   rw [List.getElem?_take] at e
   split at e
   ·rw [List.getElem?_drop] at e; exact e
   ·cases e
  refine Zbii hg hn ⟨gg,o + f,none⟩ (cs := (q.drop f).take n) (us := (List.range n).map fun j => vs (f + j)) (All2.of_get (by simp; omega) fun j x u e1 e2 => ?_) (by simp) (fun j u e => ?_) hv
  ·have hj : j < n := by have := (List.getElem?_eq_some_iff.1 e1).1; omega
   simp [hj] at e2
   subst e2
   exact h3 _ x (hget j x e1)
  ·have hj : j < n := by have := (List.getElem?_eq_some_iff.1 e).1; simpa using this
   simp [hj] at e
   subst e
   have := h2 (f + j) _ (hget j _ (List.getElem?_eq_getElem (by omega)))
   rw [Zcf,Nat.add_assoc]
   exact this
theorem Zx5 (r : Rel B m H w) {t : TypeId} {g : Bool} {n : Nat} (hg : Zdi P t = some g) (hn : Zbm P t = some n) {b i f : Nat} {q : List Cell} {v : AVal} {va : Value}
  (ha : VRA m (Zj w) (.c (.ptr b i f)) va) (hq : H.row b i = some q) (hfn : f + n ≤ q.length) (hv : Zcm g ((q.drop f).take n) = some v) :
  ∃ v',(Instr.loadAt t va).run P w = .ok v' w ∧ VRA m (Zj w) v v' := by
 cases ha with
 | c ha =>
  cases ha with
  | ptr hb =>
   rename_i L
   obtain ⟨vs,h1,h2⟩ := Zbf2 (r.rowAt hb hq)
   have hl := h1.length
   have h3 : All2 (VR m (Zj w)) ((q.drop f).take n) ((vs.drop f).take n) := (h1.drop f).take n
   have hlen : ((vs.drop f).take n).length = n := by simp; omega
   have hcell : ∀ (j : Nat) u,((vs.drop f).take n)[j]? = some u → w.cell? ((⟨L.g,L.o + i * L.sz + f,none⟩ : Addr).add j) = some u := by
    intro j u hj
    rw [Zcf,Nat.add_assoc]
    refine h2 (f + j) u ?_
    rw [List.getElem?_take] at hj
    split at hj
    ·rw [List.getElem?_drop] at hj; exact hj
    ·cases hj
   rcases Zl3 hv h3 with ⟨rfl,hr⟩ | ⟨rfl,u,hu,hr⟩
   ·refine ⟨_,?_,hr⟩
    have := run_loadCells_list (P := P) w ⟨L.g,L.o + i * L.sz + f,none⟩ _ hcell
    rw [hlen] at this
    simp [Instr.loadAt,Instr.sureAddr,loadVar,Zh3 hg,Zck hn,this]
   ·refine ⟨u,?_,hr⟩
    have h0 := hcell 0 u (by rw [hu]; rfl)
    rw [Zcf,Nat.add_zero] at h0
    simp [Instr.loadAt,Instr.sureAddr,loadVar,Zh3 hg,h0]
theorem Zep {i j f sz : Nat} (h : i < j) (hf : f < sz) : i * sz + f < j * sz := by
 have : (i + 1) * sz ≤ j * sz := Nat.mul_le_mul_right sz h
 rw [Nat.add_mul,Nat.one_mul] at this
 omega
theorem Zdt (P : Program) (g o : Nat) (t : TypeId) (z : Nat × Nat) : ∀ (vs : List Value) (i : Nat) (cur : Array Value) (w : World),w.heap[g]? = some (.cells cur t z) → Thaw cur.size z → o + i + vs.length ≤ cur.size → (∀ v ∈ vs,v.oneCell' = true) →
  (storeCells ⟨g,o,none⟩ vs i).run P w = .ok () (w.setRow g (cur.toList.take (o + i) ++ vs ++ cur.toList.drop (o + i + vs.length)).toArray)
 | [],i,cur,w,hg,_,_,_ => by
  simp only [storeCells,List.append_nil,List.length_nil,Nat.add_zero,List.take_append_drop,Array.toArray_toList]
  rw [setRow_self w g cur t z hg]
  rfl
 | v :: rest,i,cur,w,hg,hz,hl,h1 => by
  have hi : o + i < cur.size := by simp at hl; omega
  have hadd : (⟨g,o,none⟩ : Addr).add i = ⟨g,o + i,none⟩ := by unfold Addr.add; split <;> simp_all
  have hcell : w.cell? ⟨g,o + i,none⟩ = some cur[o + i] := by simp [World.cell?,hg,hi]
  have hfro : w.frozen? ⟨g,o + i,none⟩ = false := Thaw.frozen hg hz hi
  have hst : (store ((⟨g,o,none⟩ : Addr).add i) v).run P w = .ok () (w.setRow g (cur.setIfInBounds (o + i) v)) := by
   rw [hadd,run_store P w _ v _ (h1 v (by simp)),hcell]
   simp [hfro,setCell_eq_setRow w g (o + i) cur t z v hg]
  have ih := Zdt P g o t z rest (i + 1) (cur.setIfInBounds (o + i) v) (w.setRow g (cur.setIfInBounds (o + i) v)) (setRow_heap w g cur _ t _ hg) (by simpa using hz) (by simp at hl ⊢; omega) (fun x hx => h1 x (by simp [hx]))
  simp only [storeCells,Sem.run_bind,hst,Result.andThen_ok,ih,setRow_setRow]
  congr 3
  have e := list_seg_step cur.toList (o + i) v rest (by simp at hl ⊢; omega)
  simpa [Array.toList_setIfInBounds,Nat.add_assoc] using e
theorem Zlh (r : Rel B m H w) {b : Nat} {L : Loc} {k : Blk} (hb : m b = some L) (hk : H[b]? = some k) (ho : L.own = true) (hl : k.live = true) {cur : Array Value} {t : TypeId} {z : Nat × Nat} (hg : w.heap[L.g]? = some (.cells cur t z)) :
  RowsIn m (Zj w) L.sz k.rows cur := by
 obtain ⟨k',hk',hat⟩ := r.blk b L hb
 rw [hk] at hk'; injection hk' with hk'; subst hk'
 intro i q e
 obtain ⟨h1,h2⟩ := hat.rows hl i q e
 refine ⟨h1,fun f c ef => ?_⟩
 obtain ⟨v,e1,e2⟩ := h2 f c ef
 rw [(hat.ours ho).2,Nat.zero_add,cell_of_row _ _ _ _ _ _ hg] at e1
 exact ⟨v,e1,e2⟩
theorem Zg6 (cur : List Value) (o : Nat) (vs : List Value) (h : o + vs.length ≤ cur.length) (j : Nat) :
  (cur.take o ++ vs ++ cur.drop (o + vs.length))[j]? = if o ≤ j ∧ j < o + vs.length then vs[j - o]? else cur[j]? := by
 have hl : (cur.take o).length = o := by simp; omega
 by_cases h1 : j < o
 ·rw [if_neg (by omega),List.append_assoc,List.getElem?_append_left (by omega),List.getElem?_take,if_pos h1]
 ·by_cases h2 : j < o + vs.length
  ·rw [if_pos (by omega),List.append_assoc,List.getElem?_append_right (by omega),hl,List.getElem?_append_left (by omega)]
  ·rw [if_neg (by omega),List.getElem?_append_right (by simp; omega),List.getElem?_drop]
   congr 1
   simp
   omega
theorem Z6r (r : Rel B m H w) {t : TypeId} {n : Nat} (hn : Zbm P t = some n) {b i f : Nat} {q : List Cell} {v : AVal} {va vv : Value}
  (ha : VRA m (Zj w) (.c (.ptr b i f)) va) (hv : VRA m (Zj w) v vv) (hc : v.cells ≠ [] ∨ ∃ cs,v = .agg cs) (hq : H.row b i = some q) (hm : H.mine b = true) (hcl : v.cells.length = n) (hn0 : 0 < n) (hfn : f + n ≤ q.length) :
  ∃ w',(Instr.storeAt t va vv).run P w = .ok () w' ∧ St B H m w (H.put b i (q.take f ++ v.cells ++ q.drop (f + n))) m w' := by
 cases ha with
 | c ha =>
  cases ha with
  | ptr hb =>
   rename_i L
   obtain ⟨k,hk,hl,hkq⟩ := Heap.row_some hq
   have hown : k.own = true := by simp [Heap.mine,hk,hl] at hm; exact hm
   obtain ⟨k',hk',hat⟩ := r.blk b L hb
   rw [hk] at hk'; injection hk' with hk'; subst hk'
   have ho : L.own = true := by rw [← hat.own]; exact hown
   obtain ⟨cur,ct,z,hg,hth⟩ := hat.row ho hl
   have hrows := Zlh r hb hk ho hl hg
   have hvs := hv.cells hc
   have hvl := hvs.length
   obtain ⟨hq1,hq2⟩ := hrows i q hkq
   have hin : i * L.sz + f + vv.cells.toList.length ≤ cur.size := by
    rw [← hvl,hcl]
    obtain ⟨u,e1,_⟩ := hq2 (f + n - 1) (q[f + n - 1]'(by omega)) (List.getElem?_eq_getElem (by omega))
    have := (Array.getElem?_eq_some_iff.1 e1).1
    omega
   have hst := Zdt P L.g (i * L.sz + f) ct z vv.cells.toList 0 cur w hg hth (by simpa using hin) (by
    intro u hu
    obtain ⟨c,_,hc⟩ := hvs.right_mem u hu
    exact hc.oneCell)
   simp only [Nat.add_zero] at hst
   have hrun : (Instr.storeAt t (.pointer (some ⟨L.g,L.o + i * L.sz + f,none⟩)) vv).run P w = .ok () (w.setRow L.g (List.take (i * L.sz + f) cur.toList ++ vv.cells.toList ++ List.drop (i * L.sz + f + vv.cells.toList.length) cur.toList).toArray) := by
    have h0 : L.o = 0 := (hat.ours ho).2
    have hsz : vv.cells.size = n := by rw [← hcl,hvl]; simp
    simp [Instr.storeAt,Instr.sureAddr,storeVar,Zck hn,hsz,h0,hst]
   refine ⟨_,hrun,?_⟩
   ·have hput : H.put b i (q.take f ++ v.cells ++ q.drop (f + n)) = H.set b { k with rows := k.rows.set i (q.take f ++ v.cells ++ q.drop (f + n)) } := by simp [Heap.put,hk]
    rw [hput]
    refine St.turn r hb hk ho hl hg hth _ ?_ rfl rfl ?_
    ·have hin' := hin
     simp only [Array.length_toList] at hin'
     simp only [List.size_toArray,List.length_append,List.length_take,List.length_drop,Array.length_toList]
     omega
    ·intro _ i' q' e'
     simp only [List.getElem?_set] at e'
     split at e'
     ·rename_i hii
      subst hii
      split at e'
      ·injection e' with e'
       subst e'
       refine ⟨by simp [hcl]; omega,fun f' c' ef => ?_⟩
       rw [List.getElem?_toArray,Zg6 _ _ _ (by simpa using hin)]
       by_cases hff : f ≤ f' ∧ f' < f + n
       ·have h1 : (q.take f ++ v.cells ++ q.drop (f + n))[f']? = v.cells[f' - f]? := by
         rw [List.append_assoc,List.getElem?_append_right (by simp; omega)]
         rw [List.getElem?_append_left (by simp; omega)]
         congr 1
         simp
         omega
        rw [h1] at ef
        obtain ⟨u,e1,e2⟩ := hvs.get ef
        refine ⟨u,?_,e2⟩
        rw [if_pos (by rw [← hvl,hcl]; omega)]
        rw [show i * L.sz + f' - (i * L.sz + f) = f' - f by omega]
        exact e1
       ·have h1 : (q.take f ++ v.cells ++ q.drop (f + n))[f']? = q[f']? := by
         by_cases hlt : f' < f
         ·rw [List.append_assoc,List.getElem?_append_left (by simp; omega),List.getElem?_take,if_pos hlt]
         ·rw [List.getElem?_append_right (by simp; omega),List.getElem?_drop]
          congr 1
          simp
          omega
        rw [h1] at ef
        obtain ⟨u,e1,e2⟩ := hq2 f' c' ef
        refine ⟨u,?_,e2⟩
        rw [if_neg (by rw [← hvl,hcl]; omega)]
        simpa using e1
      ·cases e'
     ·rename_i hii
      obtain ⟨g1,g2⟩ := hrows i' q' e'
      refine ⟨g1,fun f' c' ef => ?_⟩
      obtain ⟨u,e1,e2⟩ := g2 f' c' ef
      refine ⟨u,?_,e2⟩
      have hf' : f' < L.sz := by rw [← g1]; exact (List.getElem?_eq_some_iff.1 ef).1
      rw [List.getElem?_toArray,Zg6 _ _ _ (by simpa using hin),if_neg]
      ·simpa using e1
      ·rw [← hvl,hcl]
       rcases Nat.lt_or_gt_of_ne hii with h | h
       ·have := Zep (sz := L.sz) (f := f + n - 1) h (by omega)
        omega
       ·have := Zep (sz := L.sz) h hf'
        omega
end Go.Proofs.YticmfblfghdkbaaGreatDoor.Eng
