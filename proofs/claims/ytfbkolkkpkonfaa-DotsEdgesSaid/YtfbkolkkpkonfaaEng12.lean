/- The engine, part 12: what is needed where operations go in any order: a heap seen from an earlier place. No statement of the seat is proved here. -/
import Derived.Test.YtfbkolkkpkonfaaEng11
namespace Go.Proofs.Ytfbkolkkpkonfaa.Eng
open Go
set_option linter.unusedVariables false
set_option linter.unusedSimpArgs false

variable {P : Program} {B : Nat} {m : LMap} {H : Heap} {w : World}

theorem prefix_get {H H' : Heap} (h : H <+: H') {b : Nat} (hb : b < H.length) : H'[b]? = H[b]? := by
  obtain ⟨E, rfl⟩ := h
  exact List.getElem?_append_left hb

/-- Blocks that nobody speaks of change nothing. -/
theorem Rel.more (r : Rel B m H w) {H' : Heap} (h : H <+: H') : Rel B m H' w := by
  refine ⟨r.base, fun b L hb => ?_, r.zlt, fun b L k hb ho e => ?_, fun b b' L L' k k' hb hb' ho ho' e e' => ?_⟩
  · obtain ⟨k, e, hk⟩ := r.blk b L hb
    exact ⟨k, by rw [prefix_get h (r.lt hb)]; exact e, hk⟩
  · rw [prefix_get h (r.lt hb)] at e
    exact r.zown b L k hb ho e
  · rw [prefix_get h (r.lt hb)] at e
    rw [prefix_get h (r.lt hb')] at e'
    exact r.inj b b' L L' k k' hb hb' ho ho' e e'

theorem St.more {H' H'' : Heap} {m' w'} (s : St B H m w H' m' w') (h : H' <+: H'') : St B H m w H'' m' w' :=
  ⟨s.ext, s.dom, s.rel.more h, s.frame, s.fresh, s.size, s.szs, s.os, s.tape, s.output, s.hle.trans (HLe.of_prefix h), s.zext, s.zfresh, s.drawn⟩

/-- The blocks that another map knows too. -/
def LMap.cut (m mi : LMap) : LMap := ⟨fun b => if (mi b).isSome then m b else none, m.z⟩

theorem LMap.cut_some {m mi : LMap} {b : Nat} {L : Loc} : m.cut mi b = some L ↔ (m b = some L ∧ ∃ L', mi b = some L') := by
  unfold LMap.cut
  cases h : mi b <;> simp [h]

theorem VR.inter {mi : LMap} {σ σi : Mem} {c : Cell} {v : Value} (h : VR m σ c v) : ∀ {v' : Value}, VR mi σi c v' → VR (m.cut mi) σ c v := by
  induction h with
  | int => intro _ _; exact .int _ _
  | bool => intro _ _; exact .bool _
  | str => intro _ _; exact .str _
  | nilI => intro _ _; exact .nilI
  | nilF => intro _ _; exact .nilF
  | nilS => intro _ _; exact .nilS
  | nilP => intro _ _; exact .nilP
  | ptr e =>
    intro _ h'
    cases h' with
    | ptr e' => exact .ptr (LMap.cut_some.2 ⟨e, _, e'⟩)
  | slc h1 h2 h3 h4 =>
    intro _ h'
    cases h' with
    | slc _ _ _ h4' =>
      obtain ⟨L, e, h5⟩ := h4
      obtain ⟨L', e', _⟩ := h4'
      exact .slc h1 h2 h3 ⟨L, LMap.cut_some.2 ⟨e, _, e'⟩, h5⟩
  | fn hl _ ih =>
    intro _ h'
    cases h' with
    | @fn _ _ vs' hl' hk' =>
      refine .fn hl fun i c v hc hv => ?_
      have hi : i < _ := (List.getElem?_eq_some_iff.1 hc).1
      obtain ⟨v', hv'⟩ : ∃ v', vs'[i]? = some v' := ⟨vs'[i]'(by omega), by simp [show i < vs'.size by omega]⟩
      exact ih i c v hc hv (hk' i c v' hc hv')
  | ifaceC _ ih =>
    intro _ h'
    cases h' with
    | ifaceC h' => exact .ifaceC (ih h')
  | ifaceA hl _ ih =>
    intro _ h'
    cases h' with
    | @ifaceA _ _ vs' hl' hk' =>
      refine .ifaceA hl fun i c v hc hv => ?_
      have hi : i < _ := (List.getElem?_eq_some_iff.1 hc).1
      obtain ⟨v', hv'⟩ : ∃ v', vs'[i]? = some v' := ⟨vs'[i]'(by omega), by simp [show i < vs'.size by omega]⟩
      exact ih i c v hc hv (hk' i c v' hc hv')
  | zerN => intro _ _; exact .zerN
  | zerS => intro _ _; exact .zerS
  | emp h => intro _ _; exact .emp h
  | lstN => intro _ _; exact .lstN
  | lst h1 h2 h3 h4 h5 _ ih =>
    intro _ h'
    refine .lst h1 h2 h3 h4 h5 fun i r f x e1 e2 => ?_
    cases h' with
    | lstN => simp at e1
    | lst _ _ _ _ _ k6 => exact ih i r f x e1 e2 (k6 i r f x e1 e2)
  | fp h1 h2 _ ih =>
    intro _ h'
    cases h' with
    | fp _ _ k3 => exact .fp h1 h2 fun j x e => ih j x e (k3 j x e)

theorem all2_inter {mi : LMap} {σ σi : Mem} : ∀ {cs : List Cell} {vs vs' : List Value}, All2 (VR m σ) cs vs → All2 (VR mi σi) cs vs' → All2 (VR (m.cut mi) σ) cs vs
  | [], _, _, h, _ => by cases h; exact .nil
  | c :: cs, _, _, h, h' => by
    cases h with
    | cons a b => cases h' with
      | cons a' b' => exact .cons (a.inter a') (all2_inter b b')

theorem VRA.inter {mi : LMap} {σ σi : Mem} {x : AVal} {v : Value} (h : VRA m σ x v) : ∀ {v' : Value}, VRA mi σi x v' → VRA (m.cut mi) σ x v := by
  induction h with
  | c h =>
    intro _ h'
    cases h' with
    | c h' => exact .c (h.inter h')
  | agg h =>
    intro _ h'
    cases h' with
    | agg h' => exact .agg (all2_inter h h')
  | tup hl _ ih =>
    intro _ h'
    cases h' with
    | @tup _ vs' hl' hk' =>
      refine .tup hl fun i c v hc hv => ?_
      have hi : i < _ := (List.getElem?_eq_some_iff.1 hc).1
      obtain ⟨v', hv'⟩ : ∃ v', vs'[i]? = some v' := ⟨vs'[i]'(by omega), by simp [show i < vs'.size by omega]⟩
      exact ih i c v hc hv (hk' i c v' hc hv')

theorem VR.up {m' : LMap} {σ : Mem} {c : Cell} {v : Value} (h : VR m σ c v) (hm : m.Le m') : VR m' σ c v := h.mono (hm.mle σ)
theorem VRA.up {m' : LMap} {σ : Mem} {c : AVal} {v : Value} (h : VRA m σ c v) (hm : m.Le m') : VRA m' σ c v := h.mono (hm.mle σ)

theorem BlkAt.up {m' : LMap} {L : Loc} {k : Blk} (h : BlkAt B m w L k) (hm : m.Le m') : BlkAt B m' w L k :=
  h.carry (hm.mle _) (Nat.le_refl _) fun _ => rfl

/-- An earlier heap, as far as it was known there. -/
theorem Rel.cut {Hi : Heap} {mi : LMap} {wi : World} (r : Rel B m H w) (ri : Rel B mi Hi wi) (h : Hi <+: H) : Rel B (m.cut mi) Hi w := by
  refine ⟨r.base, fun b L hb => ?_, r.zlt, fun b L k hb ho e => ?_, fun b b' L L' k k' hb hb' ho ho' e e' => ?_⟩
  rotate_left
  · obtain ⟨hb, L', hb'⟩ := LMap.cut_some.1 hb
    exact r.zown b L k hb ho (by rw [prefix_get h (ri.lt hb')]; exact e)
  rotate_left
  · obtain ⟨hb, L', hb'⟩ := LMap.cut_some.1 hb
    obtain ⟨k, e, hk⟩ := r.blk b L hb
    rw [prefix_get h (ri.lt hb')] at e
    obtain ⟨k', e', hk'⟩ := ri.blk b L' hb'
    rw [e] at e'; injection e' with e'; subst e'
    refine ⟨k, e, ⟨hk.sz, hk.own, hk.lt, hk.ours, hk.foreign, fun hl i q eq => ?_, hk.row⟩⟩
    obtain ⟨h1, h2⟩ := hk.rows hl i q eq
    obtain ⟨_, h2'⟩ := hk'.rows hl i q eq
    refine ⟨h1, fun f c ef => ?_⟩
    obtain ⟨v, e1, e2⟩ := h2 f c ef
    obtain ⟨v', e1', e2'⟩ := h2' f c ef
    exact ⟨v, e1, e2.inter e2'⟩
  · obtain ⟨hb, _, hc⟩ := LMap.cut_some.1 hb
    obtain ⟨hb', _, hc'⟩ := LMap.cut_some.1 hb'
    exact r.inj b b' L L' k k' hb hb' ho ho' (by rw [prefix_get h (ri.lt hc)]; exact e) (by rw [prefix_get h (ri.lt hc')]; exact e')

def LMap.join (m m' : LMap) : LMap := ⟨fun b => match m b with | some L => some L | none => m' b, fun g => m.z g ∨ m'.z g⟩
theorem LMap.join_left {m m' : LMap} {b : Nat} {L : Loc} (h : m b = some L) : m.join m' b = some L := by simp [LMap.join, h]
theorem LMap.join_none {m m' : LMap} {b : Nat} (h : m b = none) : m.join m' b = m' b := by simp [LMap.join, h]

/-- What was done as seen from an earlier heap 'Hi' holds as seen from the later 'Hq'. -/
theorem St.merge {H0 Hi Hi1 Hq : Heap} {m0 mi m m' : LMap} {w0 w w' : World} (r0 : Rel B m0 H0 w0) (s : St B H0 m0 w0 Hq m w) (hle : H0.length ≤ Hi.length) (hcut : ∀ b L, mi b = some L → m b = some L) (hcz : ∀ g, m.z g → mi.z g) (hzc : ∀ g, mi.z g → m.z g)
    (ri : Rel B mi Hi w) (t : St B Hi mi w Hi1 m' w') (h01 : Hi <+: Hi1) (h1q : Hi1 <+: Hq) (hdis : ∀ b L, m b = some L → Hi.length ≤ b → b < Hi1.length → False) :
    St B H0 m0 w0 Hq (m.join m') w' ∧ m'.Le (m.join m') ∧ MLe m (cellsIn w) (m.join m') (cellsIn w') := by
  have hiq : Hi <+: Hq := h01.trans h1q
  have hnew : ∀ b L, mi b = none → m' b = some L → m b = none := fun b L h h' => by
    cases hm : m b with
    | none => rfl
    | some L' => exact (hdis b L' hm (t.dom b L h h') (t.rel.lt h')).elim
  have hup : ∀ b L, m' b = some L → m.join m' b = some L := fun b L h => by
    cases hi : mi b with
    | some L' =>
      have := t.ext b L' hi
      rw [h] at this; injection this with this; subst this
      exact LMap.join_left (hcut b L hi)
    | none => rw [LMap.join_none (hnew b L hi h)]; exact h
  have hext : ∀ b L, m b = some L → m.join m' b = some L := fun b L h => LMap.join_left h
  have himg : ∀ g, ownImg mi Hi g → ownImg m Hq g := by
    rintro g ⟨b, L, k, e, ho, hg, ek, hl⟩
    exact ⟨b, L, k, hcut b L e, ho, hg, by rw [prefix_get hiq (ri.lt e)]; exact ek, hl⟩
  have hmle : MLe m (cellsIn w) (m.join m') (cellsIn w') := ⟨hext, fun b L h o => by obtain ⟨_, _, hk⟩ := s.rel.blk b L h; exact t.szs _ (hk.lt (.inl o)), fun g h => .inl h, fun g o h => (t.mle ri).cell g o (hcz g h)⟩
  have hupL : m'.Le (m.join m') := ⟨hup, fun g h => .inr h⟩
  have hfar : ∀ b L k, m b = some L → mi b = none → Hq[b]? = some k → k.live = true → BlkAt B m w L k → ¬ ownImg mi Hi L.g := by
    rintro b L k hb hn ek hl hk ⟨b', L', k', e, ho, hg, ek', hl'⟩
    have e2 : Hq[b']? = some k' := by rw [prefix_get hiq (ri.lt e)]; exact ek'
    obtain ⟨k2, e2', hk2⟩ := s.rel.blk b' L' (hcut b' L' e)
    cases hoL : L.own with
    | true =>
      have := s.rel.inj b b' L L' k k' hb (hcut _ _ e) hoL ho ek e2 hl hl' hg.symm
      subst this
      rw [hn] at e; cases e
    | false =>
      have h1 := hk.foreign hoL hl
      have h2 := (hk2.ours ho).1
      omega
  refine ⟨⟨fun b L h => hext b L (s.ext b L h), fun b L h h' => ?_, ⟨Nat.le_trans s.rel.base t.size, fun b L h => ?_, fun g h => h.elim (fun h => Nat.lt_of_lt_of_le (s.rel.zlt g h) t.size) (t.rel.zlt g), ?_, ?_⟩, fun g hg hn => ?_, fun b L h h' => ?_, Nat.le_trans s.size t.size, fun g hg => (t.szs g (Nat.lt_of_lt_of_le hg s.size)).trans (s.szs g hg), t.os.trans s.os, t.tape.trans s.tape, t.output.trans s.output, s.hle, fun g h => .inl (s.zext g h), fun g h => ?_, Nat.le_trans s.drawn t.drawn⟩, hupL, hmle⟩
  · cases hm : m b with
    | some L' => exact s.dom b L' h hm
    | none =>
      rw [LMap.join_none hm] at h'
      cases hi : mi b with
      | some L' => rw [hcut b L' hi] at hm; cases hm
      | none => exact Nat.le_trans hle (t.dom b L hi h')
  · cases hm : m b with
    | some L' =>
      rw [LMap.join_left hm] at h; injection h with h; subst h
      obtain ⟨k, ek, hk⟩ := s.rel.blk b L' hm
      refine ⟨k, ek, ?_⟩
      cases hi : mi b with
      | some L2 =>
        have := hcut b L2 hi
        rw [hm] at this; injection this with this; subst this
        obtain ⟨k', ek', hk'⟩ := t.rel.blk b L' (t.ext b L' hi)
        have : Hq[b]? = some k' := by rw [prefix_get h1q (t.rel.lt (t.ext b L' hi))]; exact ek'
        rw [ek] at this; injection this with this; subst this
        exact hk'.up hupL
      | none => exact hk.carry hmle t.size fun hl => t.frame _ (hk.lt (.inr hl)) (hfar b L' k hm hi ek hl hk)
    | none =>
      rw [LMap.join_none hm] at h
      obtain ⟨k', ek', hk'⟩ := t.rel.blk b L h
      exact ⟨k', by rw [prefix_get h1q (t.rel.lt h)]; exact ek', hk'.up hupL⟩
  · intro b L k h ho e hl hz
    cases hm : m b with
    | some L1 =>
      rw [LMap.join_left hm] at h; injection h with h; subst h
      obtain ⟨k2, ek2, hk⟩ := s.rel.blk b L1 hm
      rw [e] at ek2; injection ek2 with ek2; subst ek2
      rcases hz with hz | hz
      · exact s.rel.zown b L1 k hm ho e hl hz
      · rcases t.zfresh _ hz with h1 | h1 | h1
        · exact s.rel.zown b L1 k hm ho e hl (hzc _ h1)
        · have := hk.lt (.inl ho); omega
        · cases hi : mi b with
          | none => exact hfar b L1 k hm hi e hl hk h1
          | some L2 =>
            have hx := hcut b L2 hi
            rw [hm] at hx; injection hx with hx; subst hx
            have hb1 := t.ext b L1 hi
            rw [prefix_get h1q (t.rel.lt hb1)] at e
            exact t.rel.zown b L1 k hb1 ho e hl hz
    | none =>
      rw [LMap.join_none hm] at h
      rw [prefix_get h1q (t.rel.lt h)] at e
      have hi : mi b = none := by
        cases hx : mi b with
        | none => rfl
        | some L2 => rw [hcut _ _ hx] at hm; cases hm
      have hnz : ¬ m'.z L.g := t.rel.zown b L k h ho e hl
      rcases hz with hz | hz
      · exact hnz (t.zext _ (hcz _ hz))
      · exact hnz hz
  · -- a block of the old map that the earlier heap did not know, and a new one
    have key : ∀ b b' L L' k, m b = some L → mi b = none → m b' = none → m' b' = some L' → L.own = true → L'.own = true → Hq[b]? = some k → k.live = true → L.g = L'.g → False := by
      intro b b' L L' k hb hi hb' h' ho ho' ek hl hg
      obtain ⟨k2, ek2, hk⟩ := s.rel.blk b L hb
      rw [ek] at ek2; injection ek2 with ek2; subst ek2
      have hi' : mi b' = none := by
        cases hx : mi b' with
        | none => rfl
        | some L2 => rw [hcut _ _ hx] at hb'; cases hb'
      rcases t.fresh b' L' hi' h' with h1 | h1
      · have := hk.lt (.inl ho); omega
      · rw [← hg] at h1; exact hfar b L k hb hi ek hl hk h1
    intro b b' L L' k k' h h' ho ho' e e' hl hl' hg
    cases hm : m b with
    | some L1 =>
      rw [LMap.join_left hm] at h; injection h with h; subst h
      cases hm' : m b' with
      | some L2 =>
        rw [LMap.join_left hm'] at h'; injection h' with h'; subst h'
        exact s.rel.inj b b' L1 L2 k k' hm hm' ho ho' e e' hl hl' hg
      | none =>
        rw [LMap.join_none hm'] at h'
        cases hi : mi b with
        | none => exact (key b b' L1 L' k hm hi hm' h' ho ho' e hl hg).elim
        | some L2 =>
          have hx := hcut b L2 hi
          rw [hm] at hx; injection hx with hx; subst hx
          have hb1 := t.ext b L1 hi
          rw [prefix_get h1q (t.rel.lt hb1)] at e
          rw [prefix_get h1q (t.rel.lt h')] at e'
          exact t.rel.inj b b' L1 L' k k' hb1 h' ho ho' e e' hl hl' hg
    | none =>
      rw [LMap.join_none hm] at h
      cases hm' : m b' with
      | some L2 =>
        rw [LMap.join_left hm'] at h'; injection h' with h'; subst h'
        cases hi : mi b' with
        | none => exact (key b' b L2 L k' hm' hi hm h ho' ho e' hl' hg.symm).elim
        | some L3 =>
          have hx := hcut b' L3 hi
          rw [hm'] at hx; injection hx with hx; subst hx
          have hb1 := t.ext b' L2 hi
          rw [prefix_get h1q (t.rel.lt h)] at e
          rw [prefix_get h1q (t.rel.lt hb1)] at e'
          exact t.rel.inj b b' L L2 k k' h hb1 ho ho' e e' hl hl' hg
      | none =>
        rw [LMap.join_none hm'] at h'
        rw [prefix_get h1q (t.rel.lt h)] at e
        rw [prefix_get h1q (t.rel.lt h')] at e'
        exact t.rel.inj b b' L L' k k' h h' ho ho' e e' hl hl' hg
  · rw [t.frame g (Nat.lt_of_lt_of_le hg s.size) (fun hi => hn (s.img r0 hg (himg g hi)))]
    exact s.frame g hg hn
  · cases hm : m b with
    | some L' =>
      rw [LMap.join_left hm] at h'; injection h' with h'; subst h'
      exact s.fresh b L' h hm
    | none =>
      rw [LMap.join_none hm] at h'
      have hi : mi b = none := by
        cases hx : mi b with
        | none => rfl
        | some L2 => rw [hcut _ _ hx] at hm; cases hm
      rcases t.fresh b L hi h' with h1 | h1
      · exact .inl (Nat.le_trans s.size h1)
      · by_cases hg : L.g < w0.heap.size
        · exact .inr (s.img r0 hg (himg _ h1))
        · exact .inl (by omega)
  · rcases h with h | h
    · exact s.zfresh g h
    · rcases t.zfresh g h with h1 | h1 | h1
      · exact s.zfresh g (hzc g h1)
      · exact .inr (.inl (Nat.le_trans s.size h1))
      · by_cases hg : g < w0.heap.size
        · exact .inr (.inr (s.img r0 hg (himg _ h1)))
        · exact .inr (.inl (by omega))

/-! ### What an operation's class says -/
theorem ev_quiet {o : AOp} {e : Env} {H H' : Heap} {v : AVal} (hc : o.cls = .quiet) (h : ev o e H = some (v, H')) : H' = H ∧ ∀ H2, ev o e H2 = some (v, H2) := by
  cases o <;> try (exfalso; revert hc; simp [AOp.cls]; done)
  case max xs =>
    cases xs with
    | nil => simp [ev] at h
    | cons x xs =>
      simp only [ev] at h ⊢
      split at h <;> try (cases h; done)
      split at h <;> try (cases h; done)
      injection h with h; injection h with h1 h2; subst h1; subst h2; exact ⟨rfl, fun _ => rfl⟩
  case min xs =>
    cases xs with
    | nil => simp [ev] at h
    | cons x xs =>
      simp only [ev] at h ⊢
      split at h <;> try (cases h; done)
      split at h <;> try (cases h; done)
      injection h with h; injection h with h1 h2; subst h1; subst h2; exact ⟨rfl, fun _ => rfl⟩
  all_goals
    simp only [ev] at h ⊢
    repeat' (split at h)
    all_goals first
      | contradiction
      | (cases h; done)
      | (injection h with h; injection h with h1 h2; subst h1; subst h2; refine ⟨rfl, fun H2 => ?_⟩; simp_all)

theorem evApp_zero {H H' : Heap} {sz bytes : Nat} {x y : Cell} {v : AVal} (hx : x = .nilS ∨ (∃ s, x = .zer s) ∨ ∃ b s n sz', x = .slc b s n sz' true) (h : evApp H sz bytes x y = some (v, H')) : H <+: H' := by
  unfold evApp at h
  rcases hx with rfl | ⟨s, rfl⟩ | ⟨b, s, n, sz', rfl⟩
  all_goals
    simp only [if_true] at h
    repeat' (split at h)
    all_goals first
      | (cases h; done)
      | (injection h with h; injection h with h1 h2; subst h2; first | exact List.prefix_refl _ | exact List.prefix_append _ _)

theorem ev_reads {o : AOp} {e : Env} {H H' : Heap} {v : AVal} (hc : o.cls = .reads) (h : ev o e H = some (v, H')) : H <+: H' := by
  cases o <;> try (exfalso; revert hc; simp [AOp.cls]; done)
  case appZ sz bytes x y =>
    simp only [ev] at h
    split at h <;> try (cases h; done)
    · exact evApp_zero (.inl rfl) h
    · exact evApp_zero (.inr (.inl ⟨_, rfl⟩)) h
    · exact evApp_zero (.inr (.inr ⟨_, _, _, _, rfl⟩)) h
  all_goals
    simp only [ev] at h
    repeat' (split at h)
    all_goals first
      | (cases h; done)
      | (injection h with h; injection h with h1 h2; subst h2; first | exact List.prefix_refl _ | exact List.prefix_append _ _)

theorem evF_some {o : AOp} {e : Env} {H : Heap} {v : AVal} (h : evF o e H = some v) : ∃ v0 E, ev o e H = some (v0, H ++ E) ∧ frzE H.length E v0 = some v := by
  have key : ∀ {o : AOp}, o.cls = .reads → mkF H (ev o e H) = some v → ∃ v0 E, ev o e H = some (v0, H ++ E) ∧ frzE H.length E v0 = some v := by
    intro o hc h
    unfold mkF at h
    split at h <;> try (cases h; done)
    rename_i v0 H1 hev
    obtain ⟨E, rfl⟩ := ev_reads hc hev
    rw [List.drop_left] at h
    exact ⟨v0, E, hev, h⟩
  unfold evF at h
  split at h
  · exact key rfl h
  · exact key rfl h
  · exact key rfl h
  · exact key rfl h
  · exact key rfl h
  · rename_i n b x y
    obtain ⟨v0, E, h1, h2⟩ := key rfl h
    refine ⟨v0, E, ?_, h2⟩
    simp only [ev] at h1 ⊢
    split at h1 <;> first
      | (cases h1; done)
      | (rename_i k1 k2; simp only [k1, k2]; exact h1)
  · cases h

end Go.Proofs.Ytfbkolkkpkonfaa.Eng
