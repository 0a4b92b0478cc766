/- The engine, part 14: a region that draws its order, the end. No statement of the seat is proved here. -/
import Derived.Test.YtfbkolkkpkonfaaEng13
namespace Go.Proofs.Ytfbkolkkpkonfaa.Eng
open Go
set_option linter.unusedVariables false
set_option linter.unusedSimpArgs false

variable {P : Program}

/-- What is given, all through a region that draws its order. -/
structure Given (P : Program) (B N : Nat) (ops : Array Oper) (l : List AInstr) (es : Nat → Env) (Hs : Nat → Heap) (vs : Nat → AVal) (m0 : LMap) (w0 : World) : Prop where
  hl : l = ops.toList.map (cmpInstr P N ops)
  ord : Ordered ops l
  seqs : Seqs P l es Hs vs
  seen : Seen B N (es 0) (Hs 0)
  rel : Rel B m0 (Hs 0) w0

section
variable {B : Nat} {N : Nat} {ops : Array Oper} {l : List AInstr} {es : Nat → Env} {Hs : Nat → Heap} {vs : Nat → AVal} {m0 : LMap} {w0 : World}

theorem Given.len (g : Given P B N ops l es Hs vs m0 w0) : l.length = ops.size := by rw [g.hl]; simp
theorem Given.at (g : Given P B N ops l es Hs vs m0 w0) {i : Nat} {o : Oper} (h : ops[i]? = some o) : l[i]? = some (cmpInstr P N ops o) := by
  rw [g.hl]; simp [h]

/-- Frames, where some are listed. -/
structure EnvL (l : List AInstr) (es : Nat → Env) (L : Array Bool) (m : LMap) (σ : Mem) (a : Act) : Prop where
  on : ∀ k x t, l[k]? = some x → x.dst = some t → L.getD k false = true → VRA m σ (es l.length t) (a.tmps.getD t undef)
  off : ∀ t, (∀ k x, l[k]? = some x → x.dst = some t → L.getD k false = false) → VRA m σ (es 0 t) (a.tmps.getD t undef)

theorem EnvL.mono {L : Array Bool} {m m' : LMap} {σ σ' : Mem} {a : Act} (h : EnvL l es L m σ a) (hm : MLe m σ m' σ') : EnvL l es L m' σ' a :=
  ⟨fun k x t h1 h2 h3 => (h.on k x t h1 h2 h3).mono hm, fun t ht => (h.off t ht).mono hm⟩

/-- Where listed operations have brought memory: 'q' is the first that is not listed and turns the heap. -/
structure Mid (B : Nat) (l : List AInstr) (es : Nat → Env) (Hs : Nat → Heap) (m0 : LMap) (w0 : World) (L : Array Bool) (a : Act) (w : World) (q : Nat) (m : LMap) : Prop where
  le : q ≤ l.length
  low : ∀ k x, k < q → l[k]? = some x → x.op.cls = .turns → L.getD k false = true
  first : q < l.length → L.getD q false = false ∧ ∃ x, l[q]? = some x ∧ x.op.cls = .turns
  st : St B (Hs 0) m0 w0 (Hs q) m w
  there : ∀ b L', m b = some L' → (Hs 0).length ≤ b → ∃ j, j < l.length ∧ L.getD j false = true ∧ (Hs j).length ≤ b ∧ b < (Hs (j + 1)).length
  env : EnvL l es L m (cellsIn w) a

structure Inv (B N : Nat) (ops : Array Oper) (l : List AInstr) (es : Nat → Env) (Hs : Nat → Heap) (m0 : LMap) (w0 : World) (a0 : Act) (L : Array Bool) (a : Act) (w : World) : Prop where
  size : L.size = ops.size
  closed : ∀ j, L.getD j false = true → Fit ops L j
  mid : ∃ q m, Mid B l es Hs m0 w0 L a w q m
  defers : a.defers = a0.defers
  tsize : a.tmps.size = a0.tmps.size

theorem getD_set {L : Array Bool} {i j : Nat} (h : (L.setIfInBounds i true).getD j false = true) : L.getD j false = true ∨ j = i := by
  by_cases hij : i = j
  · exact .inr hij.symm
  · rw [getD_set_ne false hij] at h; exact .inl h

theorem getD_set_false {L : Array Bool} {i j : Nat} (h : (L.setIfInBounds i true).getD j false = false) : L.getD j false = false := by
  cases hL : L.getD j false with
  | false => rfl
  | true => rw [getD_set_true hL] at h; exact h

/-- What a ready operation reads is as in the text's order. -/
theorem env_reads (g : Given P B N ops l es Hs vs m0 w0) {L : Array Bool} (hc : ∀ j, L.getD j false = true → Fit ops L j) {m : LMap} {σ : Mem} {a : Act} (he : EnvL l es L m σ a)
    {i : Nat} {x : AInstr} (hx : l[i]? = some x) (hf : Fit ops L i) (hi : L.getD i false = false) : EnvOn m σ x.reads (es i) a := by
  intro t ht
  have hil : i < l.length := (List.getElem?_eq_some_iff.1 hx).1
  by_cases hw : ∃ (k : Nat) (y : AInstr), l[k]? = some y ∧ y.dst = some t
  · obtain ⟨k, y, hk, hd⟩ := hw
    have hkl : k < l.length := (List.getElem?_eq_some_iff.1 hk).1
    rcases Nat.lt_or_ge k i with hki | hki
    · -- written ahead
      have hLk : L.getD k false = true := by
        cases hLk : L.getD k false with
        | true => rfl
        | false => exact absurd ht ((pairOk_reads (g.ord.apart hc hki hk hx hf hLk)).1 t hd)
      have : es i t = es l.length t := by
        rw [g.seqs.last g.ord hk hd, g.seqs.keep (i := k + 1) i (by omega) (by omega) fun k' y' h1 _ hy' => g.ord.uniq (by omega) hk hy' hd, g.seqs.env k y hk, hd]
        simp [updO, upd]
      rw [this]
      exact he.on k y t hk hd hLk
    · have h0 : es i t = es 0 t := g.seqs.keep i (Nat.zero_le _) (by omega) fun k' y' _ h2 hy' => g.ord.uniq (by omega) hk hy' hd
      rw [h0]
      refine he.off t fun k' y' hk' hd' => ?_
      have hkk : k' = k := by
        by_cases hkk : k' = k
        · exact hkk
        · exact absurd hd' (g.ord.uniq (fun h => hkk h.symm) hk hk' hd)
      subst hkk
      by_cases hki' : k' = i
      · rw [hki']; exact hi
      · cases hLk : L.getD k' false with
        | false => rfl
        | true => exact absurd ht ((pairOk_reads (g.ord.apart hc (by omega) hx hk (hc _ hLk) hi)).2 t hd)
  · have h0 : es i t = es 0 t := g.seqs.keep i (Nat.zero_le _) (by omega) fun k' y' _ _ hy' hd' => hw ⟨k', y', hy', hd'⟩
    rw [h0]
    exact he.off t fun k' y' hk' hd' => absurd ⟨k', y', hk', hd'⟩ hw

theorem env_put (g : Given P B N ops l es Hs vs m0 w0) {L : Array Bool} {m : LMap} {σ : Mem} {a : Act} (hN : N ≤ a.tmps.size) (hLs : L.size = ops.size) (he : EnvL l es L m σ a)
    {i : Nat} {x : AInstr} (hx : l[i]? = some x) (hd : dstOk N x.dst = true) {u : Value} (hv : VRA m σ (vs i) u) : EnvL l es (L.setIfInBounds i true) m σ (a.put x.dst u) := by
  have hil : i < l.length := (List.getElem?_eq_some_iff.1 hx).1
  refine ⟨fun k y t hk hkd hL => ?_, fun t ht => ?_⟩
  · rw [put_getD hN hd]
    by_cases hki : k = i
    · subst hki
      rw [hx] at hk; injection hk with hk; subst hk
      rw [if_pos hkd, g.seqs.last g.ord hx hkd]
      exact hv
    · rw [if_neg (g.ord.uniq hki hk hx hkd)]
      rcases getD_set hL with h | h
      · exact he.on k y t hk hkd h
      · exact absurd h hki
  · rw [put_getD hN hd, if_neg ?_]
    · exact he.off t fun k y hk hkd => getD_set_false (ht k y hk hkd)
    · intro hxd
      have h1 := ht i x hx hxd
      have hi : i < L.size := by rw [hLs, ← g.len]; exact hil
      simp [hi] at h1

/-- A listed operation that turns the heap lies below. -/
theorem turns_below (g : Given P B N ops l es Hs vs m0 w0) {L : Array Bool} (hc : ∀ j, L.getD j false = true → Fit ops L j) {a : Act} {w : World} {q : Nat} {m : LMap} (M : Mid B l es Hs m0 w0 L a w q m)
    {k : Nat} {x : AInstr} (hk : l[k]? = some x) (hx : x.op.cls = .turns) (hf : Fit ops L k) (hqk : q < k) : False := by
  have hkl : k < l.length := (List.getElem?_eq_some_iff.1 hk).1
  obtain ⟨h1, y, hy, hyc⟩ := M.first (by omega)
  exact (pairOk_cls (g.ord.apart hc hqk hy hk hf h1)).2.1 ⟨hyc, hx⟩

theorem there_mono {L : Array Bool} {m : LMap} {i : Nat} (h : ∀ b L', m b = some L' → (Hs 0).length ≤ b → ∃ j, j < l.length ∧ L.getD j false = true ∧ (Hs j).length ≤ b ∧ b < (Hs (j + 1)).length) :
    ∀ b L', m b = some L' → (Hs 0).length ≤ b → ∃ j, j < l.length ∧ (L.setIfInBounds i true).getD j false = true ∧ (Hs j).length ≤ b ∧ b < (Hs (j + 1)).length := fun b L' h1 h2 => by
  obtain ⟨j, h3, h4, h5⟩ := h b L' h1 h2
  exact ⟨j, h3, getD_set_true h4, h5⟩

/-- A ready operation that does not turn the heap: the place stays. -/
theorem Mid.stay {L : Array Bool} {a a' : Act} {w w' : World} {q : Nat} {m m' : LMap} (M : Mid B l es Hs m0 w0 L a w q m) {i : Nat} {x : AInstr} (hx : l[i]? = some x) (hxc : x.op.cls ≠ .turns)
    (hst : St B (Hs 0) m0 w0 (Hs q) m' w') (hth : ∀ b L', m' b = some L' → (Hs 0).length ≤ b → ∃ j, j < l.length ∧ (L.setIfInBounds i true).getD j false = true ∧ (Hs j).length ≤ b ∧ b < (Hs (j + 1)).length)
    (he : EnvL l es (L.setIfInBounds i true) m' (cellsIn w') a') : Mid B l es Hs m0 w0 (L.setIfInBounds i true) a' w' q m' where
  le := M.le
  low := fun k y h1 h2 h3 => getD_set_true (M.low k y h1 h2 h3)
  first := fun hq => by
    obtain ⟨h1, y, h2, h3⟩ := M.first hq
    have hiq : i ≠ q := fun h => by subst h; rw [hx] at h2; injection h2 with h2; subst h2; exact hxc h3
    exact ⟨by rw [getD_set_ne false hiq]; exact h1, y, h2, h3⟩
  st := hst
  there := hth
  env := he

/-- The operation that turns the heap: on to the next. -/
theorem Mid.turn (g : Given P B N ops l es Hs vs m0 w0) {L : Array Bool} (hc : ∀ j, L.getD j false = true → Fit ops L j) {a a' : Act} {w w' : World} {q : Nat} {m m' : LMap} (M : Mid B l es Hs m0 w0 L a w q m) {x : AInstr} (hx : l[q]? = some x) (hxc : x.op.cls = .turns)
    (hst : St B (Hs 0) m0 w0 (Hs (q + 1)) m' w') (hth : ∀ b L', m' b = some L' → (Hs 0).length ≤ b → ∃ j, j < l.length ∧ (L.setIfInBounds q true).getD j false = true ∧ (Hs j).length ≤ b ∧ b < (Hs (j + 1)).length)
    (he : EnvL l es (L.setIfInBounds q true) m' (cellsIn w') a') (hLs : L.size = ops.size) : ∃ q', Mid B l es Hs m0 w0 (L.setIfInBounds q true) a' w' q' m' := by
  have hql : q < l.length := (List.getElem?_eq_some_iff.1 hx).1
  obtain ⟨q', h1, h2, h3, h4⟩ := next_turn l _ (q + 1) rfl (by omega)
  refine ⟨q', h2, fun k y k1 k2 k3 => ?_, fun hq' => ?_, hst.more (g.seqs.prefixes q' h1 h2 h3), hth, he⟩
  · rcases Nat.lt_trichotomy k q with hk | hk | hk
    · exact getD_set_true (M.low k y hk k2 k3)
    · subst hk
      have : k < L.size := by rw [hLs, ← g.len]; exact hql
      simp [this]
    · exact absurd k3 (h3 k y (by omega) k1 k2)
  · obtain ⟨y, hy, hyc⟩ := h4 hq'
    refine ⟨?_, y, hy, hyc⟩
    rw [getD_set_ne false (by omega)]
    cases hL : L.getD q' false with
    | false => rfl
    | true => exact (turns_below g hc M hy hyc (hc _ hL) (by omega)).elim

theorem Inv.step (g : Given P B N ops l es Hs vs m0 w0) {a0 : Act} (hN : N ≤ a0.tmps.size) {L : Array Bool} {a : Act} {w : World} (I : Inv B N ops l es Hs m0 w0 a0 L a w) {i : Nat} (hi : i ∈ Region.ready .any ops L)
    {K : Act → World → Prop} {Q : Exit → Act → World → Prop} (hK : ∀ a' w', Inv B N ops l es Hs m0 w0 a0 (L.setIfInBounds i true) a' w' → K a' w') : wpOp P ops Q i K a w := by
  obtain ⟨hLi, o, ho, hfit⟩ := mem_ready.1 hi
  have hx := g.at ho
  have hios : i < ops.size := (Array.getElem?_eq_some_iff.1 ho).1
  have hil : i < l.length := by rw [g.len]; exact hios
  have hLi : L.getD i false = false := by
    have : i < L.size := by rw [I.size]; exact hios
    simpa [this] using hLi
  have hf : Fit ops L i := fun o' ho' => by rw [ho] at ho'; injection ho' with ho'; subst ho'; exact hfit
  have hc' : ∀ j, (L.setIfInBounds i true).getD j false = true → Fit ops (L.setIfInBounds i true) j := fun j hj o' ho' e he hb => by
    rcases getD_set hj with h | h
    · exact getD_set_true (I.closed j h o' ho' e he hb)
    · subst h; exact getD_set_true (hf o' ho' e he hb)
  have hNa : N ≤ a.tmps.size := by rw [I.tsize]; exact hN
  have hLi' : (L.setIfInBounds i true).getD i false = true := by
    have : i < L.size := by rw [I.size]; exact hios
    simp [this]
  obtain ⟨q, m, M⟩ := I.mid
  have hreads := env_reads g I.closed M.env hx hf hLi
  -- how to end
  have fin : ∀ (u : Value) (w' : World), dstOk N o.dst = true → (∃ q' m', Mid B l es Hs m0 w0 (L.setIfInBounds i true) (a.put o.dst u) w' q' m') → K (a.put o.dst u) w' := fun u w' hd hm =>
    hK _ _ ⟨by rw [Array.size_setIfInBounds]; exact I.size, hc', hm, by rw [(put_tmps a o.dst u).1]; exact I.defers, by rw [(put_tmps a o.dst u).2]; exact I.tsize⟩
  have hdd : (cmpInstr P N ops o).dst = o.dst := cmpInstr_dst
  -- which of the operations that turn the heap it is
  have hiq : (cmpInstr P N ops o).op.cls = .turns → i = q := fun hcl => by
    rcases Nat.lt_trichotomy i q with h | h | h
    · rw [M.low i _ h hx hcl] at hLi; cases hLi
    · exact h
    · exact (turns_below g I.closed M hx hcl hf h).elim
  unfold wpOp
  rw [ho]
  simp only []
  cases hstep : g.seqs.step i _ hx with
  | off hb hg hv hH =>
    obtain ⟨hd, _, _, hgd⟩ := cmpInstr_ok (P := P) (N := N) (ops := ops) (o := o) rfl hb
    have hguard := guard_sound (m := m) (σ := cellsIn w) hgd (e := es i) (a := a) (fun t b ht => hreads t (by simp [AInstr.reads, ht]))
    rw [hguard, hg]
    simp only [Bool.false_eq_true, if_false]
    have hv' : VRA m (cellsIn w) (vs i) undef := by rw [hv]; exact VRA.undef
    have henv := env_put g hNa I.size M.env hx (by rw [hdd]; exact hd) hv'
    rw [hdd] at henv
    refine fin _ _ hd ?_
    by_cases hcl : (cmpInstr P N ops o).op.cls = .turns
    · have := hiq hcl; subst this
      obtain ⟨q', hq'⟩ := Mid.turn g I.closed M hx hcl (by rw [hH]; exact M.st) (there_mono M.there) henv I.size
      exact ⟨q', m, hq'⟩
    · exact ⟨q, m, M.stay hx hcl M.st (there_mono M.there) henv⟩
  | go hg hs =>
    have hd : dstOk N o.dst = true := (cmpInstr_ok rfl hs.notBad).1
    have main : Region.wanted o (yielded ops a.tmps) = true ∧ o.wp P a w K Q := by
      cases hcl : (cmpInstr P N ops o).op.cls with
      | turns =>
        have := hiq hcl; subst this
        refine step_go M.st.rel hs hreads hg fun m' w' u hst hv => fin u w' hd ?_
        have hm := hst.mle M.st.rel
        have henv := env_put g hNa I.size (M.env.mono hm) hx (by rw [hdd]; exact hd) hv
        rw [hdd] at henv
        obtain ⟨q', hq'⟩ := Mid.turn g I.closed M hx hcl (M.st.trans g.rel hst) (fun b L' hb h0 => by
          cases hmb : m b with
          | some L2 => exact there_mono M.there b L2 hmb h0
          | none => exact ⟨i, hil, hLi', hst.dom b L' hmb hb, hst.rel.lt hb⟩) henv I.size
        exact ⟨q', m', hq'⟩
      | quiet =>
        have hs' : SOp P true (cmpInstr P N ops o) (es i) (Hs q) (vs i) (Hs q) := by
          cases hs with
          | ev h => exact .ev ((ev_quiet hcl h).2 _)
          | @evF v0 E h hf hH =>
            obtain ⟨h1, h2⟩ := ev_quiet hcl h
            have hE : E = [] := by
              have := congrArg List.length h1
              simp at this
              exact this
            subst hE
            exact .evF (E := []) (by rw [List.append_nil]; exact h2 _) hf rfl
          | call h => rw [h] at hcl; cases hcl
        refine step_go M.st.rel hs' hreads hg fun m' w' u hst hv => fin u w' hd ?_
        have hm := hst.mle M.st.rel
        have henv := env_put g hNa I.size (M.env.mono hm) hx (by rw [hdd]; exact hd) hv
        rw [hdd] at henv
        refine ⟨q, m', M.stay hx (by rw [hcl]; intro h; cases h) (M.st.trans g.rel hst) (fun b L' hb h0 => ?_) henv⟩
        cases hmb : m b with
        | some L2 => exact there_mono M.there b L2 hmb h0
        | none =>
          have h1 := hst.dom b L' hmb hb
          have h2 := hst.rel.lt hb
          omega
      | reads =>
        have hiq' : i < q := by
          rcases Nat.lt_trichotomy i q with h | h | h
          · exact h
          · subst h
            obtain ⟨_, y, hy, hyc⟩ := M.first hil
            rw [hx] at hy; injection hy with hy; subst hy
            rw [hcl] at hyc; cases hyc
          · obtain ⟨h1, y, hy, hyc⟩ := M.first (by omega)
            exact ((pairOk_cls (g.ord.apart I.closed h hy hx hf h1)).1 ⟨hyc, hcl⟩).elim
        have hno : ∀ k y, i ≤ k → k < q → l[k]? = some y → y.op.cls ≠ .turns := fun k y h1 h2 hy hyc => by
          by_cases hik : k = i
          · subst hik; rw [hx] at hy; injection hy with hy; subst hy; rw [hcl] at hyc; cases hyc
          · exact (pairOk_cls (g.ord.apart I.closed (by omega) hx hy (I.closed _ (M.low k y h2 hy hyc)) hLi)).2.2 ⟨hcl, hyc⟩
        have hp1 : Hs i <+: Hs (i + 1) := g.seqs.prefix1 hx (by rw [hcl]; intro h; cases h)
        have hp2 : Hs (i + 1) <+: Hs q := g.seqs.prefixes q (by omega) M.le fun k y h1 h2 => hno k y (by omega) h2
        obtain ⟨mi, wi, ai, ri, hei, _⟩ := (g.seqs.seen g.hl g.seen i (by omega)).1
        have rc := M.st.rel.cut ri (hp1.trans hp2)
        have hreads' : EnvOn (m.cut mi) (cellsIn w) (cmpInstr P N ops o).reads (es i) a := fun t ht => (hreads t ht).inter (hei t)
        refine step_go rc hs hreads' hg fun m' w' u hst hv => fin u w' hd ?_
        have hlen : ∀ j k, j ≤ k → k ≤ l.length → (Hs j).length ≤ (Hs k).length := fun j k h1 h2 => (g.seqs.hle g.hl g.seen k h1 h2).len
        obtain ⟨hst', hup, hm⟩ := St.merge g.rel M.st (hlen 0 i (Nat.zero_le _) (by omega)) (fun b L' h => (LMap.cut_some.1 h).1) (fun _ h => h) (fun _ h => h) rc hst hp1 hp2 (fun b L' hb h1 h2 => by
          obtain ⟨j, j1, j2, j3, j4⟩ := M.there b L' hb (Nat.le_trans (hlen 0 i (Nat.zero_le _) (by omega)) h1)
          rcases Nat.lt_trichotomy j i with h | h | h
          · have := hlen (j + 1) i (by omega) (by omega); omega
          · subst h; rw [hLi] at j2; cases j2
          · have := hlen (i + 1) j (by omega) (by omega); omega)
        have henv := env_put g hNa I.size (M.env.mono hm) hx (by rw [hdd]; exact hd) (hv.up hup)
        rw [hdd] at henv
        refine ⟨q, _, M.stay hx (by rw [hcl]; intro h; cases h) hst' (fun b L' hb h0 => ?_) henv⟩
        cases hmb : m b with
        | some L2 => exact there_mono M.there b L2 hmb h0
        | none =>
          rw [LMap.join_none hmb] at hb
          refine ⟨i, hil, hLi', hst.dom b L' ?_ hb, hst.rel.lt hb⟩
          cases hcb : m.cut mi b with
          | none => rfl
          | some L3 => rw [(LMap.cut_some.1 hcb).1] at hmb; cases hmb
    rw [if_pos main.1]
    exact .inl main.2

/-- How many are not listed. -/
def unl (L : Array Bool) : Nat → Nat
  | 0 => 0
  | n + 1 => unl L n + if L.getD n false then 0 else 1

theorem unl_zero {L : Array Bool} : ∀ {n : Nat}, unl L n = 0 → ∀ i, i < n → L.getD i false = true
  | n + 1, h, i, hi => by
    simp only [unl] at h
    by_cases hn : i = n
    · subst hn
      cases hL : L.getD i false with
      | true => rfl
      | false => rw [hL] at h; simp at h
    · exact unl_zero (n := n) (by omega) i (by omega)

theorem unl_set {L : Array Bool} {i : Nat} (hL : L.getD i false = false) (hi : i < L.size) : ∀ {n : Nat}, (n ≤ i → unl (L.setIfInBounds i true) n = unl L n) ∧ (i < n → unl (L.setIfInBounds i true) n + 1 = unl L n)
  | 0 => ⟨fun _ => rfl, fun h => by omega⟩
  | n + 1 => by
    have ih := unl_set hL hi (n := n)
    refine ⟨fun h => ?_, fun h => ?_⟩
    · simp only [unl]
      rw [ih.1 (by omega), getD_set_ne false (by omega)]
    · simp only [unl]
      by_cases hn : n = i
      · subst hn
        rw [ih.1 (Nat.le_refl _), hL]
        simp [hi]
      · have := ih.2 (by omega)
        rw [getD_set_ne false (by omega)]
        omega

theorem unl_all (n k : Nat) (h : k ≤ n) : unl (Array.replicate n false) k = k := by
  induction k with
  | zero => rfl
  | succ k ih => simp only [unl]; rw [ih (by omega)]; simp [show k < n by omega]

theorem ready_unl {L : Array Bool} (hs : L.size = ops.size) {i : Nat} (hi : i ∈ Region.ready .any ops L) : unl (L.setIfInBounds i true) ops.size + 1 = unl L ops.size := by
  obtain ⟨h1, o, ho, _⟩ := mem_ready.1 hi
  have hios : i < ops.size := (Array.getElem?_eq_some_iff.1 ho).1
  have : L.getD i false = false := by
    have : i < L.size := by rw [hs]; exact hios
    simpa [this] using h1
  exact (unl_set this (by rw [hs]; exact hios)).2 hios

theorem ready_nil (ho : Ordered ops l) {L : Array Bool} (hs : L.size = ops.size) (h : Region.ready .any ops L = []) : ∀ i, i < ops.size → L.getD i false = true := by
  intro i
  induction i using Nat.strongRecOn with
  | _ i ih =>
    intro hi
    cases hL : L.getD i false with
    | true => rfl
    | false =>
      exfalso
      have : i ∈ Region.ready .any ops L := by
        refine mem_ready.2 ⟨?_, ops[i], by simp [hi], fun e he hb => ?_⟩
        · have : i < L.size := by rw [hs]; exact hi
          simpa [this] using hL
        · have hlt := ho.back i ops[i] (by simp [hi]) e he hb
          exact ih e.on hlt (by omega)
      rw [h] at this
      cases this

theorem Inv.all (g : Given P B N ops l es Hs vs m0 w0) {a0 : Act} (hN : N ≤ a0.tmps.size) {Q : Exit → Act → World → Prop}
    (hQ : ∀ m' w' a', St B (Hs 0) m0 w0 (Hs l.length) m' w' → EnvAll m' (cellsIn w') (es l.length) a' → a'.defers = a0.defers → a'.tmps.size = a0.tmps.size → Q .normal a' w') :
    ∀ (fuel : Nat) (L : Array Bool) (a : Act) (w : World), unl L ops.size ≤ fuel → Inv B N ops l es Hs m0 w0 a0 L a w → wpAny P .any ops Q fuel L a w := by
  have done : ∀ (L : Array Bool) (a : Act) (w : World), (∀ i, i < ops.size → L.getD i false = true) → Inv B N ops l es Hs m0 w0 a0 L a w → Q .normal a w := by
    intro L a w hall I
    obtain ⟨q, m, M⟩ := I.mid
    have hq : q = l.length := by
      by_cases h : q < l.length
      · have := (M.first h).1
        rw [hall q (by rw [← g.len]; exact h)] at this
        cases this
      · have := M.le; omega
    subst hq
    refine hQ m w a M.st (fun t => ?_) I.defers I.tsize
    by_cases hw : ∃ (k : Nat) (y : AInstr), l[k]? = some y ∧ y.dst = some t
    · obtain ⟨k, y, hk, hd⟩ := hw
      exact M.env.on k y t hk hd (hall k (by rw [← g.len]; exact (List.getElem?_eq_some_iff.1 hk).1))
    · rw [g.seqs.keep (i := 0) l.length (Nat.zero_le _) (Nat.le_refl _) fun k' y' _ _ hy' hd' => hw ⟨k', y', hy', hd'⟩]
      exact M.env.off t fun k' y' hk' hd' => absurd ⟨k', y', hk', hd'⟩ hw
  intro fuel
  induction fuel with
  | zero =>
    intro L a w hu I
    have hall := unl_zero (Nat.le_zero.1 hu)
    refine ⟨?_, done L a w hall I⟩
    cases hr : Region.ready .any ops L with
    | nil => rfl
    | cons i r =>
      have := ready_unl I.size (i := i) (by rw [hr]; simp)
      omega
  | succ fuel ih =>
    intro L a w hu I
    refine ⟨fun hr => done L a w (ready_nil g.ord I.size hr) I, fun i hi => ?_⟩
    refine I.step g hN hi fun a' w' I' => ih _ a' w' ?_ I'
    have := ready_unl I.size hi
    omega
end

/-- A region that draws its order does what its text's order does. -/
theorem draw_sound {N : Nat} {ops : Array Oper} {l : List AInstr} {e e' : Env} {H H' : Heap} (ht : Trace P true l e H e' H') (hl : l = ops.toList.map (cmpInstr P N ops)) (hd : drawOk ops l = true)
    {B : Nat} {m0 : LMap} {w0 : World} {a0 : Act} {Q : Exit → Act → World → Prop} (r : Rel B m0 H w0) (he : EnvAll m0 (cellsIn w0) e a0) (hN : N ≤ a0.tmps.size)
    (hQ : ∀ m' w' a', St B H m0 w0 H' m' w' → EnvAll m' (cellsIn w') e' a' → a'.defers = a0.defers → a'.tmps.size = a0.tmps.size → Q .normal a' w') :
    wpAny P .any ops Q ops.size (Array.replicate ops.size false) a0 w0 := by
  obtain ⟨es, Hs, vs, h1, h2, h3, h4, hs⟩ := trace_seqs ht
  subst h1; subst h2; subst h3; subst h4
  have ho : Ordered ops l := Ordered.of (by rw [hl]; simp) hd
  have g : Given P B N ops l es Hs vs m0 w0 := ⟨hl, ho, hs, ⟨m0, w0, a0, r, he, hN⟩, r⟩
  have hnone : ∀ k, (Array.replicate ops.size false).getD k false = false := fun k => by
    by_cases hk : k < ops.size <;> simp [hk]
  refine Inv.all g hN hQ _ _ _ _ (Nat.le_of_eq (unl_all _ _ (Nat.le_refl _))) ⟨by simp, fun j hj => (by rw [hnone] at hj; cases hj), ?_, rfl, rfl⟩
  obtain ⟨q, q1, q2, q3, q4⟩ := next_turn l _ 0 rfl (Nat.zero_le _)
  exact ⟨q, m0, q2, fun k x k1 k2 k3 => absurd k3 (q3 k x (Nat.zero_le _) k1 k2), fun h => ⟨hnone _, q4 h⟩, (St.refl r).more (hs.prefixes q q1 q2 q3), fun b L hb h0 => absurd (r.lt hb) (by omega),
    ⟨fun k x t _ _ hL => (by rw [hnone] at hL; cases hL), fun t _ => he t⟩⟩

end Go.Proofs.Ytfbkolkkpkonfaa.Eng
