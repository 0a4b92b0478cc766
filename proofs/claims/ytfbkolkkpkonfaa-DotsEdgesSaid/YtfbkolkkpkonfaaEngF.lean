/- The engine, part F: blocks that nobody writes any more. No statement of the seat is proved here. -/
import Derived.Test.YtfbkolkkpkonfaaEng10
namespace Go.Proofs.Ytfbkolkkpkonfaa.Eng
open Go
set_option linter.unusedVariables false
set_option linter.unusedSimpArgs false

variable {P : Program} {B : Nat} {m : LMap} {H : Heap} {w : World}

/-! ### Closed cells hang on what nobody writes, and on nothing else -/
theorem closedCs_get : ∀ {cs : List Cell}, closedCs cs = true → ∀ {i : Nat} {c : Cell}, cs[i]? = some c → closedC c = true
  | [], _, i, c, h => by simp at h
  | x :: r, hp, i, c, h => by
    simp only [closedCs, Bool.and_eq_true] at hp
    cases i with
    | zero => simp at h; subst h; exact hp.1
    | succ i => exact closedCs_get hp.2 (by simpa using h)
theorem closedR_get : ∀ {cs : List (List Cell)}, closedR cs = true → ∀ {i : Nat} {c : List Cell}, cs[i]? = some c → closedCs c = true
  | [], _, i, c, h => by simp at h
  | x :: r, hp, i, c, h => by
    simp only [closedR, Bool.and_eq_true] at hp
    cases i with
    | zero => simp at h; subst h; exact hp.1
    | succ i => exact closedR_get hp.2 (by simpa using h)
theorem closedAs_get : ∀ {cs : List AVal}, closedAs cs = true → ∀ {i : Nat} {c : AVal}, cs[i]? = some c → closedA c = true
  | [], _, i, c, h => by simp at h
  | x :: r, hp, i, c, h => by
    simp only [closedAs, Bool.and_eq_true] at hp
    cases i with
    | zero => simp at h; subst h; exact hp.1
    | succ i => exact closedAs_get hp.2 (by simpa using h)

theorem VR.closed {m m' : LMap} {σ : Mem} (hz : ∀ g, m.z g → m'.z g) {c : Cell} {v : Value} (h : VR m σ c v) : closedC c = true → VR m' σ c v := by
  induction h with
  | int => intro _; exact .int _ _
  | bool => intro _; exact .bool _
  | str => intro _; exact .str _
  | nilI => intro _; exact .nilI
  | nilF => intro _; exact .nilF
  | nilS => intro _; exact .nilS
  | nilP => intro _; exact .nilP
  | ptr => intro hp; simp [closedC] at hp
  | slc => intro hp; simp [closedC] at hp
  | fn hl _ ih =>
    intro hp
    simp only [closedC] at hp
    exact .fn hl fun i c v hc hv => ih i c v hc hv (closedCs_get hp hc)
  | ifaceC _ ih =>
    intro hp
    simp only [closedC, closedCs, Bool.and_true] at hp
    exact .ifaceC (ih hp)
  | ifaceA hl _ ih =>
    intro hp
    simp only [closedC] at hp
    exact .ifaceA hl fun i c v hc hv => ih i c v hc hv (closedCs_get hp hc)
  | zerN => intro _; exact .zerN
  | zerS => intro _; exact .zerS
  | emp h => intro _; exact .emp h
  | lstN => intro _; exact .lstN
  | lst h1 h2 h3 h4 h5 _ ih =>
    intro hp
    simp only [closedC] at hp
    exact .lst h1 h2 (fun hr => ⟨(h3 hr).1, hz _ (h3 hr).2⟩) h4 h5 fun i r f x e1 e2 => ih i r f x e1 e2 (closedCs_get (closedR_get hp e1) e2)
  | fp h1 h2 _ ih =>
    intro hp
    simp only [closedC] at hp
    exact .fp (hz _ h1) h2 fun j x e => ih j x e (closedCs_get hp e)

theorem all2_closed {m m' : LMap} {σ : Mem} (hz : ∀ g, m.z g → m'.z g) : ∀ {cs : List Cell} {vs : List Value}, All2 (VR m σ) cs vs → closedCs cs = true → All2 (VR m' σ) cs vs
  | [], _, h, _ => by cases h; exact .nil
  | c :: cs, _, h, hp => by
    simp only [closedCs, Bool.and_eq_true] at hp
    cases h with
    | cons a b => exact .cons (a.closed hz hp.1) (all2_closed hz b hp.2)

theorem VRA.closed {m m' : LMap} {σ : Mem} (hz : ∀ g, m.z g → m'.z g) {x : AVal} {v : Value} (h : VRA m σ x v) : closedA x = true → VRA m' σ x v := by
  induction h with
  | c h => intro hp; exact .c (h.closed hz (by simpa [closedA] using hp))
  | agg h => intro hp; exact .agg (all2_closed hz h (by simpa [closedA] using hp))
  | tup hl _ ih =>
    intro hp
    simp only [closedA] at hp
    exact .tup hl fun i c v hc hv => ih i c v hc hv (closedAs_get hp hc)

theorem all2_closedA {m m' : LMap} {σ : Mem} (hz : ∀ g, m.z g → m'.z g) : ∀ {cs : List AVal} {vs : List Value}, All2 (VRA m σ) cs vs → closedAs cs = true → All2 (VRA m' σ) cs vs
  | [], _, h, _ => by cases h; exact .nil
  | c :: cs, _, h, hp => by
    simp only [closedAs, Bool.and_eq_true] at hp
    cases h with
    | cons a b => exact .cons (a.closed hz hp.1) (all2_closedA hz b hp.2)

/-! ### A block is frozen -/
def LMap.froze (m : LMap) (g : Nat) : LMap := ⟨m.f, fun x => m.z x ∨ x = g⟩
theorem LMap.le_froze (m : LMap) (g : Nat) : m.Le (m.froze g) := ⟨fun _ _ h => h, fun _ h => .inl h⟩

/-- The rows of a block, as a slice that nobody writes. -/
theorem BlkAt.lst {L : Loc} {k : Blk} (h : BlkAt B m w L k) (hl : k.live = true) {m' : LMap} (hm : m.Le m') (hz : m'.z L.g) {s n c : Nat} {A : Addr} (hs : s + n ≤ k.rows.length) (hc : n ≤ c) (hc2 : c ≤ maxLen) (ha : c ≠ 0 → A = ⟨L.g, L.o + s * L.sz, none⟩) :
    VR m' (cellsIn w) (.lst L.sz ((k.rows.drop s).take n)) (.slice (some A) n c) := by
  have hget : ∀ (i : Nat) r, ((k.rows.drop s).take n)[i]? = some r → k.rows[s + i]? = some r := fun i r e => by
    rw [List.getElem?_take] at e
    split at e
    · rw [List.getElem?_drop] at e; exact e
    · cases e
  refine VR.lst' (g := L.g) (o := L.o + s * L.sz) (vs := fun i f => (w.cell? ⟨L.g, L.o + s * L.sz + i * L.sz + f, none⟩).getD undef) (by simp; omega) hc hc2 (fun hr => ⟨ha ?_, hz⟩) (fun i r e => (h.rows hl _ r (hget i r e)).1) (fun i r f x e1 e2 => ?_) (fun i r f x e1 e2 => ?_)
  · intro h0; apply hr; simp; omega
  · obtain ⟨v, k1, _⟩ := (h.rows hl _ r (hget i r e1)).2 f x e2
    rw [Nat.add_mul, ← Nat.add_assoc] at k1
    rw [cellsIn_cell]
    simp [k1]
  · obtain ⟨v, k1, k2⟩ := (h.rows hl _ r (hget i r e1)).2 f x e2
    rw [Nat.add_mul, ← Nat.add_assoc] at k1
    simp only [k1, Option.getD_some]
    exact k2.mono (hm.mle _)

theorem BlkAt.fp {L : Loc} {k : Blk} (h : BlkAt B m w L k) (hl : k.live = true) {m' : LMap} (hm : m.Le m') (hz : m'.z L.g) {i f : Nat} {r : List Cell} (hr : k.rows[i]? = some r) :
    VR m' (cellsIn w) (.fp r f) (.pointer (some ⟨L.g, L.o + i * L.sz + f, none⟩)) := by
  refine VR.fp (g := L.g) (o := L.o + i * L.sz) (vs := fun j => (w.cell? ⟨L.g, L.o + i * L.sz + j, none⟩).getD undef) hz (fun j x e => ?_) (fun j x e => ?_)
  · obtain ⟨v, k1, _⟩ := (h.rows hl _ r hr).2 j x e
    rw [cellsIn_cell]
    simp [k1]
  · obtain ⟨v, k1, k2⟩ := (h.rows hl _ r hr).2 j x e
    simp only [k1, Option.getD_some]
    exact k2.mono (hm.mle _)

theorem frzs_get {b : Nat} {k : Blk} : ∀ {cs : List Cell} {i : Nat} {c : Cell}, (frzs b k cs)[i]? = some c → ∃ d, cs[i]? = some d ∧ c = d.frz b k
  | [], i, c, h => by simp [frzs] at h
  | x :: r, i, c, h => by
    cases i with
    | zero => simp [frzs] at h; exact ⟨x, rfl, h.symm⟩
    | succ i => simp [frzs] at h; simpa using frzs_get h
theorem frzs_length {b : Nat} {k : Blk} : ∀ {cs : List Cell}, (frzs b k cs).length = cs.length
  | [] => rfl
  | x :: r => by simp [frzs, frzs_length]
theorem frzAs_get {b : Nat} {k : Blk} : ∀ {cs : List AVal} {i : Nat} {c : AVal}, (frzAs b k cs)[i]? = some c → ∃ d, cs[i]? = some d ∧ c = d.frz b k
  | [], i, c, h => by simp [frzAs] at h
  | x :: r, i, c, h => by
    cases i with
    | zero => simp [frzAs] at h; exact ⟨x, rfl, h.symm⟩
    | succ i => simp [frzAs] at h; simpa using frzAs_get h
theorem frzAs_length {b : Nat} {k : Blk} : ∀ {cs : List AVal}, (frzAs b k cs).length = cs.length
  | [] => rfl
  | x :: r => by simp [frzAs, frzAs_length]

theorem VR.frz (r : Rel B m H w) {b : Nat} {L : Loc} {k : Blk} (hb : m b = some L) (hk : H[b]? = some k) (hl : k.live = true) {c : Cell} {v : Value} (h : VR m (cellsIn w) c v) : VR (m.froze L.g) (cellsIn w) (c.frz b k) v := by
  have hm := m.le_froze L.g
  obtain ⟨k', hk', hat⟩ := r.blk b L hb
  rw [hk] at hk'; injection hk' with hk'; subst hk'
  have hz : (m.froze L.g).z L.g := .inr rfl
  generalize hσ : cellsIn w = σ at h
  induction h with
  | int => exact .int _ _
  | bool => exact .bool _
  | str => exact .str _
  | nilI => exact .nilI
  | nilF => exact .nilF
  | nilS => exact .nilS
  | nilP => exact .nilP
  | @ptr b' i f L' e =>
    simp only [Cell.frz]
    have e0 : (m.froze L.g) b' = some L' := e
    split
    · rename_i hbb
      subst hbb
      have hL : L = L' := by have := hb.symm.trans e; injection this
      subst hL
      split
      · rename_i row hr
        rw [← hσ]
        exact hat.fp hl hm hz hr
      · exact .ptr e0
    · exact .ptr e0
  | @slc b' s n sz z A c h1 h2 h3 h4 =>
    simp only [Cell.frz]
    obtain ⟨L', e, ez, h5⟩ := h4
    split
    · rename_i hbb
      obtain ⟨hbb, hs⟩ := hbb
      subst hbb
      have hL : L = L' := by have := hb.symm.trans e; injection this
      subst hL
      subst ez
      rw [← hσ]
      split
      · rename_i hzz
        have hc := h2 hzz
        subst hc
        have hn : n = 0 := by omega
        subst hn
        exact .zerS
      · exact hat.lst hl hm hz hs h1 h3 (fun hc => (h5 hc).1)
    · exact .slc h1 h2 h3 ⟨L', e, ez, h5⟩
  | @fn f cs vs hlen _ ih =>
    simp only [Cell.frz]
    refine .fn (by rw [frzs_length]; exact hlen) fun i c v hc hv => ?_
    obtain ⟨d, hd, rfl⟩ := frzs_get hc
    exact ih i d v hd hv
  | ifaceC _ ih =>
    simp only [Cell.frz, frzs]
    exact .ifaceC ih
  | @ifaceA t cs vs hlen _ ih =>
    simp only [Cell.frz]
    refine .ifaceA (by rw [frzs_length]; exact hlen) fun i c v hc hv => ?_
    obtain ⟨d, hd, rfl⟩ := frzs_get hc
    exact ih i d v hd hv
  | zerN => exact .zerN
  | zerS => exact .zerS
  | emp h => exact .emp h
  | lstN => exact .lstN
  | lst h1 h2 h3 h4 h5 h6 _ => exact (VR.lst h1 h2 h3 h4 h5 h6).mono (hm.mle _)
  | fp h1 h2 h3 _ => exact (VR.fp h1 h2 h3).mono (hm.mle _)

theorem all2_frz (r : Rel B m H w) {b : Nat} {L : Loc} {k : Blk} (hb : m b = some L) (hk : H[b]? = some k) (hl : k.live = true) : ∀ {cs : List Cell} {vs : List Value}, All2 (VR m (cellsIn w)) cs vs → All2 (VR (m.froze L.g) (cellsIn w)) (frzs b k cs) vs
  | [], _, h => by cases h; exact .nil
  | c :: cs, _, h => by
    cases h with
    | cons x y => exact .cons (x.frz r hb hk hl) (all2_frz r hb hk hl y)

theorem VRA.frz (r : Rel B m H w) {b : Nat} {L : Loc} {k : Blk} (hb : m b = some L) (hk : H[b]? = some k) (hl : k.live = true) {c : AVal} {v : Value} (h : VRA m (cellsIn w) c v) : VRA (m.froze L.g) (cellsIn w) (c.frz b k) v := by
  generalize hσ : cellsIn w = σ at h
  induction h with
  | c h => subst hσ; exact .c (h.frz r hb hk hl)
  | agg h => subst hσ; exact .agg (all2_frz r hb hk hl h)
  | @tup xs vs hlen _ ih =>
    refine .tup (by rw [frzAs_length]; exact hlen) fun i c v hc hv => ?_
    obtain ⟨d, hd, rfl⟩ := frzAs_get hc
    exact ih i d v hd hv

/-- A block that lies nowhere: its values are frozen by nothing. -/
theorem VR.frz0 {σ : Mem} {b : Nat} {k : Blk} (hb : m b = none) {c : Cell} {v : Value} (h : VR m σ c v) : VR m σ (c.frz b k) v := by
  induction h with
  | int => exact .int _ _
  | bool => exact .bool _
  | str => exact .str _
  | nilI => exact .nilI
  | nilF => exact .nilF
  | nilS => exact .nilS
  | nilP => exact .nilP
  | @ptr b' i f L' e =>
    simp only [Cell.frz]
    rw [if_neg (by intro h; subst h; rw [hb] at e; cases e)]
    exact .ptr e
  | @slc b' s n sz z A c h1 h2 h3 h4 =>
    simp only [Cell.frz]
    obtain ⟨L', e, ez, h5⟩ := h4
    rw [if_neg (by rintro ⟨h, _⟩; subst h; rw [hb] at e; cases e)]
    exact .slc h1 h2 h3 ⟨L', e, ez, h5⟩
  | @fn f cs vs hlen _ ih =>
    simp only [Cell.frz]
    refine .fn (by rw [frzs_length]; exact hlen) fun i c v hc hv => ?_
    obtain ⟨d, hd, rfl⟩ := frzs_get hc
    exact ih i d v hd hv
  | ifaceC _ ih =>
    simp only [Cell.frz, frzs]
    exact .ifaceC ih
  | @ifaceA t cs vs hlen _ ih =>
    simp only [Cell.frz]
    refine .ifaceA (by rw [frzs_length]; exact hlen) fun i c v hc hv => ?_
    obtain ⟨d, hd, rfl⟩ := frzs_get hc
    exact ih i d v hd hv
  | zerN => exact .zerN
  | zerS => exact .zerS
  | emp h => exact .emp h
  | lstN => exact .lstN
  | lst h1 h2 h3 h4 h5 h6 _ => exact .lst h1 h2 h3 h4 h5 h6
  | fp h1 h2 h3 _ => exact .fp h1 h2 h3
theorem VRA.frz0 {σ : Mem} {b : Nat} {k : Blk} (hb : m b = none) {c : AVal} {v : Value} (h : VRA m σ c v) : VRA m σ (c.frz b k) v := by
  induction h with
  | c h => exact .c (h.frz0 hb)
  | agg h =>
    refine .agg ?_
    generalize hvs : Array.toList _ = l at h
    clear hvs
    induction h with
    | nil => exact .nil
    | cons x _ ih => exact .cons (x.frz0 hb) ih
  | @tup xs vs hlen _ ih =>
    refine .tup (by rw [frzAs_length]; exact hlen) fun i c v hc hv => ?_
    obtain ⟨d, hd, rfl⟩ := frzAs_get hc
    exact ih i d v hd hv

/-- A block is frozen: it is given up, its memory stays as it is from now on. -/
theorem St.freeze (r : Rel B m H w) {b : Nat} {L : Loc} {k : Blk} (hb : m b = some L) (hk : H[b]? = some k) (ho : k.own = true) (hl : k.live = true) : St B H m w (H.set b { k with live := false }) (m.froze L.g) w := by
  obtain ⟨k', hk', hat⟩ := r.blk b L hb
  rw [hk] at hk'; injection hk' with hk'; subst hk'
  have hoL : L.own = true := by rw [← hat.own]; exact ho
  have s := St.drop r hk
  have hm := m.le_froze L.g
  refine ⟨fun _ _ h => h, (fun _ _ h h' => by rw [show m _ = _ from h'] at h; cases h), ⟨r.base, fun b' L' h => ?_, fun g h => ?_, fun b' L' q h ho' e hl' hz => ?_, s.rel.inj⟩, s.frame, (fun _ _ h h' => by rw [show m _ = _ from h'] at h; cases h), s.size, s.szs, s.os, s.tape, s.output, s.hle, fun _ h => .inl h, fun g h => ?_, s.drawn⟩
  · obtain ⟨q, eq, hq⟩ := s.rel.blk b' L' h
    exact ⟨q, eq, hq.carry (hm.mle _) (Nat.le_refl _) fun _ => rfl⟩
  · rcases h with h | rfl
    · exact r.zlt g h
    · exact hat.lt (.inl hoL)
  · rcases hz with hz | hz
    · exact s.rel.zown b' L' q h ho' e hl' hz
    · by_cases hbb : b = b'
      · subst hbb
        have hlt : b < H.length := (List.getElem?_eq_some_iff.1 hk).1
        simp [hlt] at e
        subst e
        cases hl'
      · rw [List.getElem?_set_ne hbb] at e
        exact hbb (r.inj b b' L L' k q hb h hoL ho' hk e hl hl' hz.symm)
  · rcases h with h | rfl
    · exact .inl h
    · exact .inr (.inr ⟨b, L, k, hb, hoL, rfl, hk, hl⟩)

theorem St.freeze0 (r : Rel B m H w) {b : Nat} {k : Blk} (hk : H[b]? = some k) : St B H m w (H.set b { k with live := false }) m w := St.drop r hk

/-! ### A block that an operation has just made, and that nobody writes -/
/-- The map without a block. -/
def LMap.without (m : LMap) (n : Nat) : LMap := ⟨fun x => if x = n then none else m x, m.z⟩

theorem St.shed {n : Nat} {k : Blk} {m' : LMap} {w' : World} (r : Rel B m H w) (hn : n = H.length) (s : St B H m w (H ++ [k]) m' w') : St B H m w H (m'.without n) w' := by
  subst hn
  have hmem : ∀ b L, (m'.without H.length) b = some L → m' b = some L ∧ b ≠ H.length := fun b L h => by
    simp only [LMap.without] at h
    split at h
    · cases h
    · rename_i hne; exact ⟨h, hne⟩
  have hlt : ∀ b L, (m'.without H.length) b = some L → b < H.length := fun b L h => by
    obtain ⟨h1, h2⟩ := hmem b L h
    have := s.rel.lt h1
    simp at this; omega
  have hget : ∀ b, b < H.length → (H ++ [k])[b]? = H[b]? := fun b h => List.getElem?_append_left h
  refine ⟨fun b L h => ?_, fun b L h h' => s.dom b L h (hmem b L h').1, ⟨s.rel.base, fun b L h => ?_, s.rel.zlt, fun b L q h ho e hl => ?_, fun b b' L L' q q' h h' ho ho' e e' hl hl' hg => ?_⟩, s.frame, fun b L h h' => s.fresh b L h (hmem b L h').1, s.size, s.szs, s.os, s.tape, s.output,
    HLe.refl _, s.zext, s.zfresh, s.drawn⟩
  · have := r.lt h
    simp only [LMap.without]
    rw [if_neg (by omega)]
    exact s.ext b L h
  · obtain ⟨q, eq, hq⟩ := s.rel.blk b L (hmem b L h).1
    rw [hget b (hlt b L h)] at eq
    refine ⟨q, eq, hq.sz, hq.own, hq.lt, hq.ours, hq.foreign, fun hl i row e => ?_, hq.row⟩
    -- the rows of what was there name nothing new
    obtain ⟨h1, h2⟩ := hq.rows hl i row e
    refine ⟨h1, fun f c ec => ?_⟩
    obtain ⟨v, e1, e2⟩ := h2 f c ec
    refine ⟨v, e1, ?_⟩
    cases hm : m b with
    | none => exact absurd (s.dom b L hm (hmem b L h).1) (by have := hlt b L h; omega)
    | some L0 =>
      have hL : L0 = L := by
        have := (s.ext b L0 hm).symm.trans (hmem b L h).1
        injection this
      subst hL
      obtain ⟨q0, eq0, hq0⟩ := r.blk b L0 hm
      rw [eq] at eq0; injection eq0 with eq0; subst eq0
      obtain ⟨_, h2'⟩ := hq0.rows hl i row e
      obtain ⟨v0, _, e20⟩ := h2' f c ec
      -- the cell names blocks of the old map alone
      have key : ∀ {c : Cell} {v v0 : Value} {σ σ0 : Mem}, VR m' σ c v → VR m σ0 c v0 → VR (m'.without H.length) σ c v := by
        intro c v v0 σ σ0 hv
        revert v0
        have old : ∀ b L, m b = some L → (m'.without H.length) b = m' b := fun b L h => by
          have := r.lt h
          simp only [LMap.without]
          rw [if_neg (by omega)]
        induction hv with
        | int => intro _ _; exact .int _ _
        | bool => intro _ _; exact .bool _
        | str => intro _ _; exact .str _
        | nilI => intro _ _; exact .nilI
        | nilF => intro _ _; exact .nilF
        | nilS => intro _ _; exact .nilS
        | nilP => intro _ _; exact .nilP
        | ptr e => intro _ h'; cases h' with | ptr e' => exact .ptr (by rw [old _ _ e']; exact e)
        | slc h1 h2 h3 h4 =>
          intro _ h'
          cases h' with
          | slc _ _ _ h4' =>
            obtain ⟨L, e, h5⟩ := h4
            obtain ⟨L', e', _⟩ := h4'
            exact .slc h1 h2 h3 ⟨L, by rw [old _ _ e']; exact e, h5⟩
        | fn hl _ ih =>
          intro _ h'
          cases h' with
          | @fn _ _ vs' hl' hk' =>
            refine .fn hl fun i c v hc hv => ?_
            have hi : i < _ := (List.getElem?_eq_some_iff.1 hc).1
            obtain ⟨v', hv'⟩ : ∃ v', vs'[i]? = some v' := ⟨vs'[i]'(by omega), by simp [show i < vs'.size by omega]⟩
            exact ih i c v hc hv (hk' i c v' hc hv')
        | ifaceC _ ih =>
          intro _ h'
          cases h' with
          | ifaceC h' => exact .ifaceC (ih h')
        | ifaceA hl _ ih =>
          intro _ h'
          cases h' with
          | @ifaceA _ _ vs' hl' hk' =>
            refine .ifaceA hl fun i c v hc hv => ?_
            have hi : i < _ := (List.getElem?_eq_some_iff.1 hc).1
            obtain ⟨v', hv'⟩ : ∃ v', vs'[i]? = some v' := ⟨vs'[i]'(by omega), by simp [show i < vs'.size by omega]⟩
            exact ih i c v hc hv (hk' i c v' hc hv')
        | zerN => intro _ _; exact .zerN
        | zerS => intro _ _; exact .zerS
        | emp h => intro _ _; exact .emp h
        | lstN => intro _ _; exact .lstN
        | lst h1 h2 h3 h4 h5 _ ih =>
          intro _ h'
          refine .lst h1 h2 h3 h4 h5 fun i r f x e1 e2 => ?_
          cases h' with
          | lstN => simp at e1
          | lst _ _ _ _ _ k6 => exact ih i r f x e1 e2 (k6 i r f x e1 e2)
        | fp h1 h2 _ ih =>
          intro _ h'
          cases h' with
          | fp _ _ k3 => exact .fp h1 h2 fun j x e => ih j x e (k3 j x e)
      exact key e2 e20
  · rw [← hget b (hlt b L h)] at e
    exact s.rel.zown b L q (hmem b L h).1 ho e hl
  · rw [← hget b (hlt b L h)] at e
    rw [← hget b' (hlt b' L' h')] at e'
    exact s.rel.inj b b' L L' q q' (hmem b L h).1 (hmem b' L' h').1 ho ho' e e' hl hl' hg

theorem weak_sound {σ : Mem} {c c' : Cell} {v : Value} (h : weakC c = some c') (hv : VR m σ c v) : VR m σ c' v := by
  cases hv <;> simp only [weakC] at h <;> try (cases h; done)
  case zerN => injection h with h; subst h; exact .lstN
  case zerS => injection h with h; subst h; exact VR.lst' (A := _) (g := 0) (o := 0) (vs := fun _ _ => undef) rfl (Nat.le_refl _) (Nat.zero_le _) (fun h => absurd rfl h) (fun i r e => by simp at e) (fun i r f x e => by simp at e) (fun i r f x e => by simp at e)
  case emp hc => injection h with h; subst h; exact VR.lst' (A := _) (g := 0) (o := 0) (vs := fun _ _ => undef) rfl (Nat.zero_le _) hc (fun h => absurd rfl h) (fun i r e => by simp at e) (fun i r f x e => by simp at e) (fun i r f x e => by simp at e)
  case slc b s n sz z A c h1 h2 h3 h4 =>
    cases n with
    | succ n => simp at h
    | zero =>
      simp at h; subst h
      exact VR.lst' (A := _) (g := 0) (o := 0) (vs := fun _ _ => undef) rfl h1 h3 (fun h => absurd rfl h) (fun i r e => by simp at e) (fun i r f x e => by simp at e) (fun i r f x e => by simp at e)

/-- What an operation made is frozen at once. -/
theorem frzE_sound (r : Rel B m H w) {E : List Blk} {v v' : AVal} {m1 : LMap} {w1 : World} {u : Value} (s : St B H m w (H ++ E) m1 w1) (hv : VRA m1 (cellsIn w1) v u) (h : frzE H.length E v = some v') :
    ∃ m2, St B H m w H m2 w1 ∧ VRA m2 (cellsIn w1) v' u := by
  unfold frzE at h
  split at h
  · rw [List.append_nil] at s
    split at h <;> try (cases h; done)
    rename_i c
    cases hc : weakC c with
    | none => rw [hc] at h; cases h
    | some c' =>
      rw [hc] at h
      simp at h
      subst h
      cases hv with
      | c hv => exact ⟨m1, s, .c (weak_sound hc hv)⟩
  · rename_i k
    split at h <;> try (cases h; done)
    rename_i hk
    have hlast : (H ++ [k])[H.length]? = some k := by simp
    simp only [Bool.and_eq_true] at hk
    injection h with h
    subst h
    cases hm : m1 H.length with
    | none => exact ⟨_, s.shed r rfl, (hv.frz0 hm).closed (m := m1) (m' := m1.without H.length) (fun _ h => h) hk.2⟩
    | some L =>
      have sf := St.freeze s.rel hm hlast hk.1.1 hk.1.2
      have hset : (H ++ [k]).set H.length { k with live := false } = H ++ [{ k with live := false }] := by simp
      rw [hset] at sf
      exact ⟨_, (s.trans r sf).shed r rfl, (hv.frz s.rel hm hlast hk.1.2).closed (m := m1.froze L.g) (m' := (m1.froze L.g).without H.length) (fun _ h => h) hk.2⟩
  · cases h

end Go.Proofs.Ytfbkolkkpkonfaa.Eng
