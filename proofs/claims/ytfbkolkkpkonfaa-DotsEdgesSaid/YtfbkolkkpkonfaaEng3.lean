/- The engine, part 3: how an abstract heap stands to the machine's memory. No statement of the seat is proved here. -/
import Derived.Test.YtfbkolkkpkonfaaEng2
import Derived.Laws.AppendOwn
import Derived.Laws.World
import Derived.Laws.Cells
import Derived.Below
namespace Go.Proofs.Ytfbkolkkpkonfaa.Eng
open Go
set_option linter.unusedVariables false
set_option linter.unusedSimpArgs false

/-! ### Lists, element by element -/
inductive All2 {α β : Type} (R : α → β → Prop) : List α → List β → Prop where
  | nil : All2 R [] []
  | cons {a b l r} : R a b → All2 R l r → All2 R (a :: l) (b :: r)

namespace All2
variable {α β : Type} {R S : α → β → Prop}
theorem length {l : List α} {r : List β} (h : All2 R l r) : l.length = r.length := by
  induction h with
  | nil => rfl
  | cons _ _ ih => simp [ih]
theorem mono {l : List α} {r : List β} (h : All2 R l r) (f : ∀ a b, R a b → S a b) : All2 S l r := by
  induction h with
  | nil => exact .nil
  | cons h _ ih => exact .cons (f _ _ h) ih
theorem get {l : List α} {r : List β} (h : All2 R l r) : ∀ {i : Nat} {a : α}, l[i]? = some a → ∃ b, r[i]? = some b ∧ R a b := by
  induction h with
  | nil => intro i a h; simp at h
  | cons hd _ ih =>
    intro i a h
    cases i with
    | zero => simp at h; subst h; exact ⟨_, by simp, hd⟩
    | succ i => simp at h; obtain ⟨b, hb, hr⟩ := ih h; exact ⟨b, by simpa using hb, hr⟩
theorem of_get {l : List α} : ∀ {r : List β}, l.length = r.length → (∀ (i : Nat) a b, l[i]? = some a → r[i]? = some b → R a b) → All2 R l r := by
  induction l with
  | nil => intro r h _; cases r with
    | nil => exact .nil
    | cons => simp at h
  | cons a l ih =>
    intro r h hr
    cases r with
    | nil => simp at h
    | cons b r => exact .cons (hr 0 a b (by simp) (by simp)) (ih (by simpa using h) fun i x y hx hy => hr (i + 1) x y (by simpa using hx) (by simpa using hy))
theorem append {l l' : List α} {r r' : List β} (h : All2 R l r) (h' : All2 R l' r') : All2 R (l ++ l') (r ++ r') := by
  induction h with
  | nil => exact h'
  | cons hd _ ih => exact .cons hd ih
theorem take {l : List α} {r : List β} (h : All2 R l r) : ∀ n : Nat, All2 R (l.take n) (r.take n) := by
  induction h with
  | nil => intro n; simpa using All2.nil
  | cons hd _ ih => intro n; cases n with
    | zero => simpa using All2.nil
    | succ n => simpa using All2.cons hd (ih n)
theorem drop {l : List α} {r : List β} (h : All2 R l r) : ∀ n : Nat, All2 R (l.drop n) (r.drop n) := by
  induction h with
  | nil => intro n; simpa using All2.nil
  | cons hd tl ih => intro n; cases n with
    | zero => simpa using All2.cons hd tl
    | succ n => simpa using ih n
theorem single {a : α} {b : β} (h : R a b) : All2 R [a] [b] := .cons h .nil
theorem inv_single {a : α} {r : List β} (h : All2 R [a] r) : ∃ b, r = [b] ∧ R a b := by
  cases h with
  | cons h t => cases t; exact ⟨_, rfl, h⟩
theorem right_mem {l : List α} {r : List β} (h : All2 R l r) : ∀ b ∈ r, ∃ a ∈ l, R a b := by
  induction h with
  | nil => intro b h; cases h
  | cons hd _ ih => intro b hb; cases hb with
    | head => exact ⟨_, by simp, hd⟩
    | tail _ hb => obtain ⟨a, ha, hr⟩ := ih b hb; exact ⟨a, by simp [ha], hr⟩
end All2

/-! ### Where an abstract block lies -/
structure Loc where
  g : Nat
  o : Nat
  sz : Nat
  own : Bool

/-- Where abstract blocks lie; which blocks of memory nobody writes any more. -/
structure LMap where
  f : Nat → Option Loc
  z : Nat → Prop
instance : CoeFun LMap fun _ => Nat → Option Loc := ⟨LMap.f⟩

/-- How many cells a block of memory has, what the cells hold. -/
structure Mem where
  len : Nat → Nat
  cell : Addr → Option Value
instance : CoeFun Mem fun _ => Nat → Nat := ⟨Mem.len⟩

def sizeIn (w : World) (g : Nat) : Nat :=
  match w.heap[g]? with
  | some (.cells c _ _) => c.size
  | _ => 0

def cellsIn (w : World) : Mem := ⟨sizeIn w, w.cell?⟩
theorem cellsIn_at (w : World) (g : Nat) : (cellsIn w).len g = sizeIn w g := rfl
theorem cellsIn_cell (w : World) : (cellsIn w).cell = w.cell? := rfl

inductive VR (m : LMap) (σ : Mem) : Cell → Value → Prop where
  | int (k n) : VR m σ (.int k n) (.int k n)
  | bool (b) : VR m σ (.bool b) (.bool b)
  | str (s) : VR m σ (.str s) (.string s)
  | nilI : VR m σ .nilI .nilIface
  | nilF : VR m σ .nilF .nilFunc
  | nilS : VR m σ .nilS (.slice none 0 0)
  | nilP : VR m σ .nilP (.pointer none)
  | ptr {b i f L} : m b = some L → VR m σ (.ptr b i f) (.pointer (some ⟨L.g, L.o + i * L.sz + f, none⟩))
  | slc {b s n sz z A c} : n ≤ c → (z = true → c = 0) → c ≤ maxLen →
      (∃ L, m b = some L ∧ L.sz = sz ∧ (c ≠ 0 → A = ⟨L.g, L.o + s * sz, none⟩ ∧ (L.own = true → (s + c) * sz = σ L.g))) → VR m σ (.slc b s n sz z) (.slice (some A) n c)
  | fn {f cs} {vs : Array Value} : cs.length = vs.size → (∀ (i : Nat) c v, cs[i]? = some c → vs[i]? = some v → VR m σ c v) → VR m σ (.fn f cs) (.func (.func f) #[] vs)
  | ifaceC {t c v} : VR m σ c v → VR m σ (.iface t false [c]) (.iface t v)
  | ifaceA {t cs} {vs : Array Value} : cs.length = vs.size → (∀ (i : Nat) c v, cs[i]? = some c → vs[i]? = some v → VR m σ c v) → VR m σ (.iface t true cs) (.iface t (.agg vs))
  | zerN {sz} : VR m σ (.zer sz) (.slice none 0 0)
  | emp {sz A c} : c ≤ maxLen → VR m σ (.emp sz) (.slice (some A) 0 c)
  | zerS {sz A} : VR m σ (.zer sz) (.slice (some A) 0 0)
  | lstN {sz} : VR m σ (.lst sz []) (.slice none 0 0)
  | lst {sz A c g o} {rows : List (List Cell)} {vs : Nat → Nat → Value} : rows.length ≤ c → c ≤ maxLen → (rows ≠ [] → A = ⟨g, o, none⟩ ∧ m.z g) → (∀ (i : Nat) r, rows[i]? = some r → r.length = sz) →
      (∀ (i : Nat) r (f : Nat) x, rows[i]? = some r → r[f]? = some x → σ.cell ⟨g, o + i * sz + f, none⟩ = some (vs i f)) → (∀ (i : Nat) r (f : Nat) x, rows[i]? = some r → r[f]? = some x → VR m σ x (vs i f)) →
      VR m σ (.lst sz rows) (.slice (some A) rows.length c)
  | fp {f g o} {row : List Cell} {vs : Nat → Value} : m.z g → (∀ (j : Nat) x, row[j]? = some x → σ.cell ⟨g, o + j, none⟩ = some (vs j)) → (∀ (j : Nat) x, row[j]? = some x → VR m σ x (vs j)) → VR m σ (.fp row f) (.pointer (some ⟨g, o + f, none⟩))

inductive VRA (m : LMap) (σ : Mem) : AVal → Value → Prop where
  | c {x v} : VR m σ x v → VRA m σ (.c x) v
  | agg {cs} {vs : Array Value} : All2 (VR m σ) cs vs.toList → VRA m σ (.agg cs) (.agg vs)
  | tup {xs} {vs : Array Value} : xs.length = vs.size → (∀ (i : Nat) x v, xs[i]? = some x → vs[i]? = some v → VRA m σ x v) → VRA m σ (.tup xs) (.tuple vs)

/-- The map and the blocks' sizes may grow. -/
structure MLe (m : LMap) (σ : Mem) (m' : LMap) (σ' : Mem) : Prop where
  map : ∀ b L, m b = some L → m' b = some L
  size : ∀ b L, m b = some L → L.own = true → σ' L.g = σ L.g
  z : ∀ g, m.z g → m'.z g
  cell : ∀ g o, m.z g → σ'.cell ⟨g, o, none⟩ = σ.cell ⟨g, o, none⟩

theorem MLe.refl (m σ) : MLe m σ m σ := ⟨fun _ _ h => h, fun _ _ _ _ => rfl, fun _ h => h, fun _ _ _ => rfl⟩
theorem MLe.trans {m σ m1 σ1 m2 σ2} (h : MLe m σ m1 σ1) (k : MLe m1 σ1 m2 σ2) : MLe m σ m2 σ2 :=
  ⟨fun b L e => k.map b L (h.map b L e), fun b L e o => (k.size b L (h.map b L e) o).trans (h.size b L e o), fun g h' => k.z g (h.z g h'), fun g o h' => (k.cell g o (h.z g h')).trans (h.cell g o h')⟩

/-- One map has all that the other has. -/
structure LMap.Le (m m' : LMap) : Prop where
  map : ∀ b L, m b = some L → m' b = some L
  z : ∀ g, m.z g → m'.z g
theorem LMap.Le.mle {m m' : LMap} (h : m.Le m') (σ : Mem) : MLe m σ m' σ := ⟨h.map, fun _ _ _ _ => rfl, h.z, fun _ _ _ => rfl⟩
theorem LMap.Le.refl (m : LMap) : m.Le m := ⟨fun _ _ h => h, fun _ h => h⟩
theorem LMap.Le.trans {m m1 m2 : LMap} (h : m.Le m1) (k : m1.Le m2) : m.Le m2 := ⟨fun b L e => k.map b L (h.map b L e), fun g e => k.z g (h.z g e)⟩

theorem VR.mono {m σ m' σ'} (h : MLe m σ m' σ') {c v} (r : VR m σ c v) : VR m' σ' c v := by
  induction r with
  | int => exact .int _ _
  | bool => exact .bool _
  | str => exact .str _
  | nilI => exact .nilI
  | nilF => exact .nilF
  | nilS => exact .nilS
  | nilP => exact .nilP
  | ptr e => exact .ptr (h.map _ _ e)
  | slc h1 h2 h3 h4 =>
    obtain ⟨L, e, ez, h5⟩ := h4
    refine .slc h1 h2 h3 ⟨L, h.map _ _ e, ez, fun hc => ?_⟩
    obtain ⟨ea, es⟩ := h5 hc
    exact ⟨ea, fun ho => (es ho).trans (h.size _ _ e ho).symm⟩
  | fn hl _ ih => exact .fn hl ih
  | ifaceC _ ih => exact .ifaceC ih
  | ifaceA hl _ ih => exact .ifaceA hl ih
  | zerN => exact .zerN
  | zerS => exact .zerS
  | emp h => exact .emp h
  | lstN => exact .lstN
  | lst h1 h2 h3 h4 h5 _ ih =>
    refine .lst h1 h2 (fun hr => ⟨(h3 hr).1, h.z _ (h3 hr).2⟩) h4 (fun i r f x e1 e2 => ?_) ih
    have hr := (h3 (by intro h0; rw [h0] at e1; simp at e1)).2
    rw [h.cell _ _ hr]
    exact h5 i r f x e1 e2
  | fp h1 h2 _ ih => exact .fp (h.z _ h1) (fun j x e => by rw [h.cell _ _ h1]; exact h2 j x e) ih

theorem VRA.mono {m σ m' σ'} (h : MLe m σ m' σ') {c v} (r : VRA m σ c v) : VRA m' σ' c v := by
  induction r with
  | c r => exact .c (r.mono h)
  | agg r => exact .agg (r.mono fun _ _ => VR.mono h)
  | tup hl _ ih => exact .tup hl ih

theorem VR.oneCell {m σ c v} (r : VR m σ c v) : v.oneCell' = true := by cases r <;> rfl
theorem VR.cells {m σ c v} (r : VR m σ c v) : v.cells = #[v] := by cases r <;> rfl
theorem VRA.undef {m σ} : VRA m σ undefA undef := .tup rfl (fun i x v h => by simp at h)

theorem VRA.cells {m σ v u} (r : VRA m σ v u) (h : v.cells ≠ [] ∨ ∃ cs, v = .agg cs) : All2 (VR m σ) v.cells u.cells.toList := by
  cases r with
  | c r => rw [r.cells]; exact .single r
  | agg r => exact r
  | tup => rcases h with h | ⟨_, h⟩
           · simp [AVal.cells] at h
           · cases h

/-! ### Heaps -/
structure HLe (H H' : Heap) : Prop where
  len : H.length ≤ H'.length
  blk : ∀ b k', b < H.length → H'[b]? = some k' → ∃ k, H[b]? = some k ∧ k'.sz = k.sz ∧ k'.own = k.own ∧ (k'.live = true → k.live = true)

theorem HLe.refl (H) : HLe H H := ⟨Nat.le_refl _, fun b k' _ h => ⟨k', h, rfl, rfl, id⟩⟩
theorem HLe.trans {H H1 H2 : Heap} (h : HLe H H1) (k : HLe H1 H2) : HLe H H2 :=
  ⟨Nat.le_trans h.len k.len, fun b k' hb e => by
    obtain ⟨k1, e1, a1, b1, c1⟩ := k.blk b k' (Nat.lt_of_lt_of_le hb h.len) e
    obtain ⟨k0, e0, a0, b0, c0⟩ := h.blk b k1 hb e1
    exact ⟨k0, e0, a1.trans a0, b1.trans b0, fun x => c0 (c1 x)⟩⟩
theorem HLe.append (H E : Heap) : HLe H (H ++ E) :=
  ⟨by simp, fun b k' hb e => ⟨k', by rw [List.getElem?_append_left hb] at e; exact e, rfl, rfl, id⟩⟩
theorem HLe.set {H : Heap} {b : Nat} {k k' : Blk} (h : H[b]? = some k) (hs : k'.sz = k.sz) (ho : k'.own = k.own) (hl : k'.live = true → k.live = true) : HLe H (H.set b k') :=
  ⟨by simp, fun b' q hb e => by
    by_cases hbb : b = b'
    · subst hbb
      simp [hb] at e
      subst e
      exact ⟨k, h, hs, ho, hl⟩
    · rw [List.getElem?_set_ne hbb] at e
      exact ⟨q, e, rfl, rfl, id⟩⟩
theorem HLe.of_prefix {H H' : Heap} (h : H <+: H') : HLe H H' := by
  obtain ⟨E, rfl⟩ := h; exact HLe.append H E

/-- A row of memory reads as cells. -/
def RowAt (m : LMap) (w : World) (L : Loc) (i : Nat) (r : List Cell) : Prop :=
  r.length = L.sz ∧ ∀ (f : Nat) c, r[f]? = some c → ∃ v, w.cell? ⟨L.g, L.o + i * L.sz + f, none⟩ = some v ∧ VR m (cellsIn w) c v

structure BlkAt (B : Nat) (m : LMap) (w : World) (L : Loc) (k : Blk) : Prop where
  sz : k.sz = L.sz
  own : k.own = L.own
  lt : (L.own = true ∨ k.live = true) → L.g < w.heap.size
  ours : L.own = true → B ≤ L.g ∧ L.o = 0
  foreign : L.own = false → k.live = true → L.g < B
  rows : k.live = true → ∀ (i : Nat) r, k.rows[i]? = some r → RowAt m w L i r
  row : L.own = true → k.live = true → ∃ cur t, w.heap[L.g]? = some (.cells cur t (0, 0))

structure Rel (B : Nat) (m : LMap) (H : Heap) (w : World) : Prop where
  base : B ≤ w.heap.size
  blk : ∀ b L, m b = some L → ∃ k, H[b]? = some k ∧ BlkAt B m w L k
  zlt : ∀ g, m.z g → g < w.heap.size
  zown : ∀ b L k, m b = some L → L.own = true → H[b]? = some k → k.live = true → ¬ m.z L.g
  inj : ∀ b b' L L' k k', m b = some L → m b' = some L' → L.own = true → L'.own = true → H[b]? = some k → H[b']? = some k' → k.live = true → k'.live = true → L.g = L'.g → b = b'

def ownImg (m : LMap) (H : Heap) (g : Nat) : Prop := ∃ b L k, m b = some L ∧ L.own = true ∧ L.g = g ∧ H[b]? = some k ∧ k.live = true

structure St (B : Nat) (H : Heap) (m : LMap) (w : World) (H' : Heap) (m' : LMap) (w' : World) : Prop where
  ext : ∀ b L, m b = some L → m' b = some L
  dom : ∀ b L, m b = none → m' b = some L → H.length ≤ b
  rel : Rel B m' H' w'
  frame : ∀ g, g < w.heap.size → ¬ ownImg m H g → w'.heap[g]? = w.heap[g]?
  fresh : ∀ b L, m b = none → m' b = some L → w.heap.size ≤ L.g ∨ ownImg m H L.g
  size : w.heap.size ≤ w'.heap.size
  szs : ∀ g, g < w.heap.size → cellsIn w' g = cellsIn w g
  os : w'.os = w.os
  tape : w'.tape = w.tape
  output : w'.output = w.output
  hle : HLe H H'
  zext : ∀ g, m.z g → m'.z g
  zfresh : ∀ g, m'.z g → m.z g ∨ w.heap.size ≤ g ∨ ownImg m H g
  drawn : w.drawn ≤ w'.drawn

theorem St.refl {B H m w} (r : Rel B m H w) : St B H m w H m w :=
  ⟨fun _ _ h => h, (fun _ _ h k => by rw [h] at k; cases k), r, fun _ _ _ => rfl, (fun _ _ h k => by rw [h] at k; cases k), Nat.le_refl _, fun _ _ => rfl, rfl, rfl, rfl, HLe.refl _, fun _ h => h, fun _ h => .inl h, Nat.le_refl _⟩

theorem Rel.zimg {B H m w} (r : Rel B m H w) {g : Nat} (h : m.z g) : ¬ ownImg m H g := by
  rintro ⟨b, L, k, e, ho, rfl, ek, hl⟩
  exact r.zown b L k e ho ek hl h

theorem St.mle {B H m w H' m' w'} (r : Rel B m H w) (s : St B H m w H' m' w') : MLe m (cellsIn w) m' (cellsIn w') :=
  ⟨s.ext, fun b L h o => by obtain ⟨k, _, hk⟩ := r.blk b L h; exact s.szs _ (hk.lt (.inl o)), s.zext, fun g o h => World.cell?_of_block (s.frame g (r.zlt g h) (r.zimg h))⟩
theorem St.le {B H m w H' m' w'} (s : St B H m w H' m' w') : m.Le m' := ⟨s.ext, s.zext⟩

theorem Rel.lt {B m H w} (r : Rel B m H w) {b L} (h : m b = some L) : b < H.length := by
  obtain ⟨k, e, _⟩ := r.blk b L h
  exact (List.getElem?_eq_some_iff.1 e).1

theorem St.img {B H m w H' m' w'} (r : Rel B m H w) (s : St B H m w H' m' w') {g : Nat} (hg : g < w.heap.size) (h : ownImg m' H' g) : ownImg m H g := by
  obtain ⟨b, L, k, e, ho, rfl, ek, hl⟩ := h
  cases hm : m b with
  | some L0 =>
    have := s.ext b L0 hm
    rw [e] at this; injection this with this; subst this
    obtain ⟨k0, e0, _, _, hl0⟩ := s.hle.blk b k (r.lt hm) ek
    exact ⟨b, L, k0, hm, ho, rfl, e0, hl0 hl⟩
  | none =>
    rcases s.fresh b L hm e with h | h
    · omega
    · exact h

theorem St.trans {B H m w H1 m1 w1 H2 m2 w2} (r : Rel B m H w) (s : St B H m w H1 m1 w1) (t : St B H1 m1 w1 H2 m2 w2) : St B H m w H2 m2 w2 where
  ext := fun b L h => t.ext b L (s.ext b L h)
  dom := fun b L h h2 => by
    cases h1 : m1 b with
    | some L1 => exact s.dom b L1 h h1
    | none => exact Nat.le_trans s.hle.len (t.dom b L h1 h2)
  rel := t.rel
  frame := fun g hg hn => (t.frame g (Nat.lt_of_lt_of_le hg s.size) (fun hi => hn (s.img r hg hi))).trans (s.frame g hg hn)
  fresh := fun b L h h2 => by
    cases h1 : m1 b with
    | some L1 =>
      have := t.ext b L1 h1
      rw [h2] at this; injection this with this; subst this
      exact s.fresh b L h h1
    | none =>
      rcases t.fresh b L h1 h2 with h3 | h3
      · exact .inl (Nat.le_trans s.size h3)
      · by_cases hg : L.g < w.heap.size
        · exact .inr (s.img r hg h3)
        · exact .inl (by omega)
  size := Nat.le_trans s.size t.size
  szs := fun g hg => (t.szs g (Nat.lt_of_lt_of_le hg s.size)).trans (s.szs g hg)
  os := t.os.trans s.os
  tape := t.tape.trans s.tape
  output := t.output.trans s.output
  hle := s.hle.trans t.hle
  zext := fun g h => t.zext g (s.zext g h)
  zfresh := fun g h => by
    rcases t.zfresh g h with h | h | h
    · exact s.zfresh g h
    · exact .inr (.inl (Nat.le_trans s.size h))
    · by_cases hg : g < w.heap.size
      · exact .inr (.inr (s.img r hg h))
      · exact .inr (.inl (by omega))
  drawn := Nat.le_trans s.drawn t.drawn

theorem St.below {B H m w H' m' w'} (r : Rel B m H w) (s : St B H m w H' m' w') : RowKit.Below B w w' :=
  ⟨s.os, s.tape, s.output, s.size, fun k hk => s.frame k (Nat.lt_of_lt_of_le hk r.base) (by
    rintro ⟨b, L, q, e, ho, rfl, ek, hl⟩
    obtain ⟨_, _, hb⟩ := r.blk b L e
    have := (hb.ours ho).1
    omega)⟩

end Go.Proofs.Ytfbkolkkpkonfaa.Eng
