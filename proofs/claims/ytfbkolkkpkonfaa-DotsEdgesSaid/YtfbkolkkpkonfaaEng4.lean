/- The engine, part 4: what a new block, a store and an append do to the relation. No statement of the seat is proved here. -/
import Derived.Test.YtfbkolkkpkonfaaEng3
import Derived.Laws.CopyRow
import Derived.Laws.Append
namespace Go.Proofs.Ytfbkolkkpkonfaa.Eng
open Go
set_option linter.unusedVariables false
set_option linter.unusedSimpArgs false

theorem cellsIn_row {w : World} {g : Nat} {cur : Array Value} {t : TypeId} {fz : Nat × Nat} (h : w.heap[g]? = some (.cells cur t fz)) : cellsIn w g = cur.size := by
  simp [cellsIn, sizeIn, h]
theorem cellsIn_same {w w' : World} {g : Nat} (h : w'.heap[g]? = w.heap[g]?) : cellsIn w' g = cellsIn w g := by simp [cellsIn, sizeIn, h]

/-- The world but for draws. -/
theorem St.drew {B H m w} (r : Rel B m H w) : St B H m w H m w.drew where
  ext := fun _ _ h => h
  dom := fun _ _ h k => by rw [h] at k; cases k
  rel := ⟨r.base, fun b L h => by
    obtain ⟨k, e, hk⟩ := r.blk b L h
    exact ⟨k, e, ⟨hk.sz, hk.own, hk.lt, hk.ours, hk.foreign, hk.rows, hk.row⟩⟩, r.zlt, r.zown, r.inj⟩
  frame := fun _ _ _ => rfl
  fresh := fun _ _ h k => by rw [h] at k; cases k
  size := Nat.le_refl _
  szs := fun _ _ => rfl
  os := rfl
  tape := rfl
  output := rfl
  hle := HLe.refl _
  zext := fun _ h => h
  zfresh := fun _ h => .inl h
  drawn := Nat.le_succ _

def addLoc (m : LMap) (b : Nat) (L : Loc) : LMap := ⟨fun x => if x = b then some L else m x, m.z⟩
theorem addLoc_z (m : LMap) (b : Nat) (L : Loc) : (addLoc m b L).z = m.z := rfl

theorem addLoc_same (m : LMap) (b : Nat) (L : Loc) : addLoc m b L b = some L := by simp [addLoc]
theorem addLoc_ne {m : LMap} {b x : Nat} {L : Loc} (h : x ≠ b) : addLoc m b L x = m x := by simp [addLoc, h]

/-- A block's content as rows of related cells. -/
def RowsIn (m : LMap) (σ : Mem) (sz : Nat) (rows : List (List Cell)) (vs : Array Value) : Prop :=
  ∀ (i : Nat) r, rows[i]? = some r → r.length = sz ∧ ∀ (f : Nat) c, r[f]? = some c → ∃ v, vs[i * sz + f]? = some v ∧ VR m σ c v

theorem RowsIn.mono {m σ m' σ' sz rows vs} (h : MLe m σ m' σ') (r : RowsIn m σ sz rows vs) : RowsIn m' σ' sz rows vs := fun i q e =>
  ⟨(r i q e).1, fun f c ef => by obtain ⟨v, e1, e2⟩ := (r i q e).2 f c ef; exact ⟨v, e1, e2.mono h⟩⟩

/-- Whoever is mapped, is not own and live at this row: unaffected by what happens to it. -/
theorem BlkAt.carry {B : Nat} {m m' : LMap} {w w' : World} {L : Loc} {k : Blk} (h : BlkAt B m w L k) (hm : MLe m (cellsIn w) m' (cellsIn w')) (hs : w.heap.size ≤ w'.heap.size)
    (hg : k.live = true → w'.heap[L.g]? = w.heap[L.g]?) : BlkAt B m' w' L k where
  sz := h.sz
  own := h.own
  lt := fun x => Nat.lt_of_lt_of_le (h.lt x) hs
  ours := h.ours
  foreign := h.foreign
  rows := fun hl i r e => by
    obtain ⟨h1, h2⟩ := h.rows hl i r e
    refine ⟨h1, fun f c ef => ?_⟩
    obtain ⟨v, e1, e2⟩ := h2 f c ef
    exact ⟨v, (World.cell?_of_block (hg hl)).trans e1, e2.mono hm⟩
  row := fun ho hl => by rw [hg hl]; exact h.row ho hl

theorem St.new {B H m w} (r : Rel B m H w) (t : TypeId) (k : Blk) (vs : Array Value) (ho : k.own = true) (hr : RowsIn m (cellsIn w) k.sz k.rows vs) :
    St B H m w (H ++ [k]) (addLoc m H.length ⟨w.heap.size, 0, k.sz, true⟩) (w.alloc (.cells vs t)) := by
  have hmn : m H.length = none := by
    cases h : m H.length with
    | none => rfl
    | some L => exact absurd (r.lt h) (Nat.lt_irrefl _)
  have hext : ∀ b L, m b = some L → addLoc m H.length ⟨w.heap.size, 0, k.sz, true⟩ b = some L := fun b L h => by
    rw [addLoc_ne (by intro e; subst e; rw [hmn] at h; cases h)]; exact h
  have hold : ∀ g, g < w.heap.size → (w.alloc (.cells vs t)).heap[g]? = w.heap[g]? := fun g hg => heap_alloc_old w _ g hg
  have hnew : (w.alloc (.cells vs t)).heap[w.heap.size]? = some (.cells vs t (0, 0)) := heap_alloc_new w _
  have hm : MLe m (cellsIn w) (addLoc m H.length ⟨w.heap.size, 0, k.sz, true⟩) (cellsIn (w.alloc (.cells vs t))) :=
    ⟨hext, fun b L h o => by obtain ⟨_, _, hk⟩ := r.blk b L h; exact cellsIn_same (hold _ (hk.lt (.inl o))), fun _ h => h, fun g o h => World.cell?_of_block (hold g (r.zlt g h))⟩
  refine ⟨hext, ?_, ⟨?_, ?_, fun g h => Nat.lt_of_lt_of_le (r.zlt g h) (by simp), ?_, ?_⟩, fun g hg _ => hold g hg, ?_, by simp, fun g hg => cellsIn_same (hold g hg), rfl, rfl, rfl, HLe.append _ _, fun _ h => h, fun _ h => .inl h, Nat.le_refl _⟩
  · intro b L h h'
    by_cases e : b = H.length
    · omega
    · rw [addLoc_ne e, h] at h'; cases h'
  · have := r.base; simp; omega
  · intro b L h
    by_cases e : b = H.length
    · subst e
      rw [addLoc_same] at h
      injection h with h
      subst h
      refine ⟨k, by simp, ⟨rfl, ho, fun _ => by simp, fun _ => ⟨r.base, rfl⟩, (fun h => by cases h), fun _ i q e => ?_, fun _ _ => ⟨vs, t, hnew⟩⟩⟩
      obtain ⟨h1, h2⟩ := hr i q e
      refine ⟨h1, fun f c ef => ?_⟩
      obtain ⟨v, e1, e2⟩ := h2 f c ef
      refine ⟨v, ?_, e2.mono hm⟩
      simp only [Nat.zero_add]
      rw [cell_of_row _ _ _ _ _ _ hnew]
      exact e1
    · rw [addLoc_ne e] at h
      obtain ⟨q, eq, hq⟩ := r.blk b L h
      exact ⟨q, by rw [List.getElem?_append_left (r.lt h)]; exact eq, hq.carry hm (by simp) fun hl => hold _ (hq.lt (.inr hl))⟩
  · intro b L q h ho1 e hl hz
    by_cases eb : b = H.length
    · subst eb
      rw [addLoc_same] at h
      injection h with h
      subst h
      exact Nat.lt_irrefl _ (r.zlt _ hz)
    · rw [addLoc_ne eb] at h
      rw [List.getElem?_append_left (r.lt h)] at e
      exact r.zown b L q h ho1 e hl hz
  · intro b b' L L' q q' h h' ho1 ho2 e e' hl hl' hg
    by_cases eb : b = H.length
    · by_cases eb' : b' = H.length
      · omega
      · exfalso
        subst eb
        rw [addLoc_same] at h
        rw [addLoc_ne eb'] at h'
        injection h with h
        subst h
        obtain ⟨_, _, hq⟩ := r.blk b' L' h'
        have := hq.lt (.inl (by assumption))
        simp only at hg
        omega
    · by_cases eb' : b' = H.length
      · exfalso
        subst eb'
        rw [addLoc_same] at h'
        rw [addLoc_ne eb] at h
        injection h' with h'
        subst h'
        obtain ⟨_, _, hq⟩ := r.blk b L h
        have := hq.lt (.inl (by assumption))
        simp only at hg
        omega
      · rw [addLoc_ne eb] at h
        rw [addLoc_ne eb'] at h'
        rw [List.getElem?_append_left (r.lt h)] at e
        rw [List.getElem?_append_left (r.lt h')] at e'
        exact r.inj b b' L L' q q' h h' ho1 ho2 e e' hl hl' hg
  · intro b L h h'
    by_cases e : b = H.length
    · subst e
      rw [addLoc_same] at h'
      injection h' with h'
      subst h'
      exact .inl (Nat.le_refl _)
    · rw [addLoc_ne e, h] at h'; cases h'

/-- An own, live row is written: the block has other rows, or is given up. -/
theorem St.turn {B H m w} (r : Rel B m H w) {b : Nat} {L : Loc} {k k' : Blk} (hb : m b = some L) (hk : H[b]? = some k) (ho : L.own = true) (hl : k.live = true)
    {cur : Array Value} {t : TypeId} (hg : w.heap[L.g]? = some (.cells cur t (0, 0))) (cs : Array Value) (hcs : cs.size = cur.size)
    (hsz : k'.sz = k.sz) (hown : k'.own = k.own) (hrows : k'.live = true → RowsIn m (cellsIn w) L.sz k'.rows cs) :
    St B H m w (H.set b k') m (w.setRow L.g cs) := by
  have hnew : (w.setRow L.g cs).heap[L.g]? = some (.cells cs t (0, 0)) := setRow_heap w L.g cur cs t (0, 0) hg
  have hother : ∀ g, g ≠ L.g → (w.setRow L.g cs).heap[g]? = w.heap[g]? := fun g hne => setRow_other w L.g g cs hne
  have hsize : (w.setRow L.g cs).heap.size = w.heap.size := by simp [World.setRow]
  have hcells : ∀ g, cellsIn (w.setRow L.g cs) g = cellsIn w g := fun g => by
    by_cases e : g = L.g
    · subst e; rw [cellsIn_row hnew, cellsIn_row hg, hcs]
    · exact cellsIn_same (hother g e)
  have hm : MLe m (cellsIn w) m (cellsIn (w.setRow L.g cs)) := ⟨fun _ _ h => h, fun _ _ _ _ => hcells _, fun _ h => h, fun g o h => World.cell?_of_block (hother g (by intro e; subst e; exact r.zown b L k hb ho hk hl h))⟩
  obtain ⟨k0, hk0, hat⟩ := r.blk b L hb
  rw [hk] at hk0; injection hk0 with hk0; subst hk0
  refine ⟨fun _ _ h => h, (fun _ _ h h' => by rw [h] at h'; cases h'), ⟨by rw [hsize]; exact r.base, ?_, fun g h => (by rw [hsize]; exact r.zlt g h), ?_, ?_⟩, ?_, (fun _ _ h h' => by rw [h] at h'; cases h'), by rw [hsize]; exact Nat.le_refl _, fun g _ => hcells g, rfl, rfl, rfl,
    HLe.set hk hsz hown (fun _ => hl), fun _ h => h, fun _ h => .inl h, Nat.le_refl _⟩
  · intro b' L' h'
    by_cases e : b' = b
    · subst e
      rw [hb] at h'; injection h' with h'; subst h'
      refine ⟨k', by simp [r.lt hb], ⟨hsz.trans hat.sz, hown.trans hat.own, fun _ => (by rw [hsize]; exact hat.lt (.inl ho)), hat.ours, (fun h => by rw [ho] at h; cases h), fun hl' i q e => ?_, fun _ _ => ⟨cs, t, hnew⟩⟩⟩
      obtain ⟨h1, h2⟩ := hrows hl' i q e
      refine ⟨h1, fun f c ef => ?_⟩
      obtain ⟨v, e1, e2⟩ := h2 f c ef
      refine ⟨v, ?_, e2.mono hm⟩
      rw [(hat.ours ho).2, Nat.zero_add, cell_of_row _ _ _ _ _ _ hnew]
      exact e1
    · obtain ⟨q, eq, hq⟩ := r.blk b' L' h'
      refine ⟨q, by rw [List.getElem?_set_ne (fun x => e x.symm)]; exact eq, hq.carry hm (by rw [hsize]; exact Nat.le_refl _) fun hlq => hother _ ?_⟩
      intro eg
      cases ho' : L'.own with
      | true => exact e (r.inj b' b L' L q k h' hb ho' ho eq hk hlq hl eg)
      | false =>
        have h1 := hq.foreign ho' hlq
        have h2 := (hat.ours ho).1
        omega
  · intro b1 L1 q1 h1 ho1 e1 hl1 hz
    by_cases eb : b = b1
    · subst eb
      exact r.zown b L1 k h1 ho1 hk hl hz
    · rw [List.getElem?_set_ne eb] at e1
      exact r.zown b1 L1 q1 h1 ho1 e1 hl1 hz
  · intro b1 b2 L1 L2 q1 q2 h1 h2 ho1 ho2 e1 e2 hl1 hl2 hgg
    have back : ∀ (b' : Nat) (q' : Blk), (H.set b k')[b']? = some q' → q'.live = true → ∃ q : Blk, H[b']? = some q ∧ q.live = true := fun b' q' e hl' => by
      by_cases eb : b = b'
      · subst eb; exact ⟨k, hk, hl⟩
      · rw [List.getElem?_set_ne eb] at e; exact ⟨q', e, hl'⟩
    obtain ⟨p1, f1, g1⟩ := back b1 q1 e1 hl1
    obtain ⟨p2, f2, g2⟩ := back b2 q2 e2 hl2
    exact r.inj b1 b2 L1 L2 p1 p2 h1 h2 ho1 ho2 f1 f2 g1 g2 hgg
  · intro g hg' hn
    refine hother g fun e => hn ?_
    subst e
    exact ⟨b, L, k, hb, ho, rfl, hk, hl⟩

/-- A row that was given up is taken over by a new block. -/
theorem St.adopt {B H m w} (r : Rel B m H w) {b : Nat} {L : Loc} {k0 k : Blk} (hb : m b = some L) (hk0 : H[b]? = some k0) (hdead : k0.live = false) (ho : L.own = true) (hko : k.own = true) (hksz : k.sz = L.sz)
    {cur : Array Value} {t : TypeId} (hg : w.heap[L.g]? = some (.cells cur t (0, 0))) (hrows : RowsIn m (cellsIn w) L.sz k.rows cur)
    (hfree : ∀ b' L' k', m b' = some L' → L'.own = true → H[b']? = some k' → k'.live = true → L'.g ≠ L.g) (hnz : ¬ m.z L.g) :
    Rel B (addLoc m H.length ⟨L.g, 0, L.sz, true⟩) (H ++ [k]) w ∧ (∀ b L', m b = some L' → addLoc m H.length ⟨L.g, 0, L.sz, true⟩ b = some L') := by
  have hmn : m H.length = none := by
    cases h : m H.length with
    | none => rfl
    | some L => exact absurd (r.lt h) (Nat.lt_irrefl _)
  have hext : ∀ b L', m b = some L' → addLoc m H.length ⟨L.g, 0, L.sz, true⟩ b = some L' := fun b L' h => by
    rw [addLoc_ne (by intro e; subst e; rw [hmn] at h; cases h)]; exact h
  have hm : MLe m (cellsIn w) (addLoc m H.length ⟨L.g, 0, L.sz, true⟩) (cellsIn w) := ⟨hext, fun _ _ _ _ => rfl, fun _ h => h, fun _ _ _ => rfl⟩
  obtain ⟨_, _, hat⟩ := r.blk b L hb
  refine ⟨⟨r.base, ?_, r.zlt, ?_, ?_⟩, hext⟩
  · intro b' L' h
    by_cases e : b' = H.length
    · subst e
      rw [addLoc_same] at h
      injection h with h
      subst h
      refine ⟨k, by simp, ⟨hksz, hko, fun _ => hat.lt (.inl ho), fun _ => ⟨(hat.ours ho).1, rfl⟩, (fun h => by cases h), fun _ i q e => ?_, fun _ _ => ⟨cur, t, hg⟩⟩⟩
      obtain ⟨h1, h2⟩ := hrows i q e
      refine ⟨h1, fun f c ef => ?_⟩
      obtain ⟨v, e1, e2⟩ := h2 f c ef
      refine ⟨v, ?_, e2.mono hm⟩
      simp only [Nat.zero_add]
      rw [cell_of_row _ _ _ _ _ _ hg]
      exact e1
    · rw [addLoc_ne e] at h
      obtain ⟨q, eq, hq⟩ := r.blk b' L' h
      exact ⟨q, by rw [List.getElem?_append_left (r.lt h)]; exact eq, hq.carry hm (Nat.le_refl _) fun _ => rfl⟩
  · intro b1 L1 q h ho1 e hl hz
    by_cases eb : b1 = H.length
    · subst eb
      rw [addLoc_same] at h
      injection h with h
      subst h
      exact hnz hz
    · rw [addLoc_ne eb] at h
      rw [List.getElem?_append_left (r.lt h)] at e
      exact r.zown b1 L1 q h ho1 e hl hz
  · intro b1 b2 L1 L2 q q' h h' ho1 ho2 e e' hl hl' hgg
    by_cases eb : b1 = H.length
    · by_cases eb' : b2 = H.length
      · omega
      · exfalso
        subst eb
        rw [addLoc_same] at h
        rw [addLoc_ne eb'] at h'
        injection h with h
        subst h
        rw [List.getElem?_append_left (r.lt h')] at e'
        exact hfree b2 L2 q' h' ho2 e' hl' hgg.symm
    · by_cases eb' : b2 = H.length
      · exfalso
        subst eb'
        rw [addLoc_same] at h'
        rw [addLoc_ne eb] at h
        injection h' with h'
        subst h'
        rw [List.getElem?_append_left (r.lt h)] at e
        exact hfree b1 L1 q h ho1 e hl hgg
      · rw [addLoc_ne eb] at h
        rw [addLoc_ne eb'] at h'
        rw [List.getElem?_append_left (r.lt h)] at e
        rw [List.getElem?_append_left (r.lt h')] at e'
        exact r.inj b1 b2 L1 L2 q q' h h' ho1 ho2 e e' hl hl' hgg

/-- A block is given up; its row stays as it is. -/
theorem St.drop {B H m w} (r : Rel B m H w) {b : Nat} {k : Blk} (hk : H[b]? = some k) : St B H m w (H.set b { k with live := false }) m w := by
  refine ⟨fun _ _ h => h, (fun _ _ h h' => by rw [h] at h'; cases h'), ⟨r.base, ?_, r.zlt, ?_, ?_⟩, fun _ _ _ => rfl, (fun _ _ h h' => by rw [h] at h'; cases h'), Nat.le_refl _, fun _ _ => rfl, rfl, rfl, rfl, HLe.set hk rfl rfl (fun h => by cases h), fun _ h => h, fun _ h => .inl h, Nat.le_refl _⟩
  · intro b' L' h'
    obtain ⟨q, eq, hq⟩ := r.blk b' L' h'
    by_cases e : b = b'
    · subst e
      rw [hk] at eq; injection eq with eq; subst eq
      exact ⟨{ k with live := false }, by simp [r.lt h'], ⟨hq.sz, hq.own, (fun h => hq.lt (h.elim .inl (fun h => by cases h))), hq.ours, (fun _ h => by cases h), (fun h => by cases h), (fun _ h => by cases h)⟩⟩
    · exact ⟨q, by rw [List.getElem?_set_ne e]; exact eq, hq⟩
  · intro b1 L1 q h ho1 e hl hz
    by_cases eb : b = b1
    · subst eb
      have hlt : b < H.length := (List.getElem?_eq_some_iff.1 hk).1
      simp [hlt] at e
      subst e
      cases hl
    · rw [List.getElem?_set_ne eb] at e
      exact r.zown b1 L1 q h ho1 e hl hz
  · intro b1 b2 L1 L2 q1 q2 h1 h2 ho1 ho2 e1 e2 hl1 hl2 hgg
    have back : ∀ (b' : Nat) (q' : Blk), (H.set b { k with live := false })[b']? = some q' → q'.live = true → H[b']? = some q' := fun b' q' e hl' => by
      by_cases eb : b = b'
      · subst eb
        have hlt : b < H.length := (List.getElem?_eq_some_iff.1 hk).1
        simp [hlt] at e
        subst e
        cases hl'
      · rw [List.getElem?_set_ne eb] at e; exact e
    exact r.inj b1 b2 L1 L2 q1 q2 h1 h2 ho1 ho2 (back _ _ e1 hl1) (back _ _ e2 hl2) hl1 hl2 hgg

theorem St.ofBelow {B : Nat} {m : LMap} {H : Heap} {w w' : World} (r : Rel B m H w) (h : RowKit.Below w.heap.size w w') (hd : w.drawn ≤ w'.drawn) {z : Nat → Prop} (hz : ∀ g, m.z g → z g) (hz2 : ∀ g, z g → m.z g ∨ (w.heap.size ≤ g ∧ g < w'.heap.size)) : St B H m w H ⟨m.f, z⟩ w' := by
  have hs : w.heap.size ≤ w'.heap.size := h.size
  have hg : ∀ g, g < w.heap.size → w'.heap[g]? = w.heap[g]? := fun g hg => h.block g hg
  have hm : MLe m (cellsIn w) ⟨m.f, z⟩ (cellsIn w') := ⟨fun _ _ h => h, fun b L h o => by obtain ⟨_, _, hk⟩ := r.blk b L h; exact cellsIn_same (hg _ (hk.lt (.inl o))), hz, fun g o h => World.cell?_of_block (hg g (r.zlt g h))⟩
  refine ⟨fun _ _ h => h, (fun _ _ h k => by rw [show m _ = _ from k] at h; cases h), ⟨Nat.le_trans r.base hs, fun b L hb => ?_, fun g h => ?_, fun b L k hb ho e hl h => ?_, r.inj⟩, fun g h1 _ => hg g h1, (fun _ _ h k => by rw [show m _ = _ from k] at h; cases h), hs, fun g h1 => cellsIn_same (hg g h1), h.os, h.tape, h.output, HLe.refl _, hz, fun g h => (hz2 g h).elim .inl fun h => .inr (.inl h.1), hd⟩
  · obtain ⟨k, e, hk⟩ := r.blk b L hb
    exact ⟨k, e, hk.carry hm hs fun hl => hg _ (hk.lt (.inr hl))⟩
  · rcases hz2 g h with h | h
    · exact Nat.lt_of_lt_of_le (r.zlt g h) hs
    · exact h.2
  · rcases hz2 _ h with h | h
    · exact r.zown b L k hb ho e hl h
    · obtain ⟨q, _, hq⟩ := r.blk b L hb
      have := hq.lt (.inl ho)
      omega

end Go.Proofs.Ytfbkolkkpkonfaa.Eng
