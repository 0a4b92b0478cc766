/- The engine, part 15: code and calls: the whole of it. No statement of the seat is proved here. -/
import Derived.Test.YtfbkolkkpkonfaaEng14
namespace Go.Proofs.Ytfbkolkkpkonfaa.Eng
open Go
set_option linter.unusedVariables false
set_option linter.unusedSimpArgs false

variable {P : Program}

def AExit.go : AExit → Exit
  | .normal => .normal
  | .exit id => .exit id
  | .ret => .ret

/-- A loop that stands in its body. -/
def InLoop (P : Program) (c : Code) (Q : Exit → Act → World → Prop) (a : Act) (w : World) : Prop :=
  ∀ (b : Frame) (k : List Item) (cs : List Frame), ∃ e a' w', Q e a' w' ∧ Arrives P (lone (b.at a (.code c :: .inLoop c :: k)) cs w) b k cs e a' w'

theorem InLoop.loop {c : Code} {Q : Exit → Act → World → Prop} {a : Act} {w : World} (h : InLoop P c Q a w) : (Code.loop c).wp P Q a w := fun b k cs => by
  obtain ⟨e, a', w', hq, harr⟩ := h b k cs
  exact ⟨e, a', w', hq, .of_steps (.one step_loop) harr⟩

theorem InLoop.step {c : Code} {Q : Exit → Act → World → Prop} {a : Act} {w : World} (h : c.wp P (Exit.then (InLoop P c Q) Q) a w) : InLoop P c Q a w := fun b k cs => by
  obtain ⟨e, a₁, w₁, hq, harr⟩ := h b (.inLoop c :: k) cs
  cases e with
  | normal =>
    obtain ⟨e₂, a₂, w₂, hq₂, harr₂⟩ := hq b k cs
    exact ⟨e₂, a₂, w₂, hq₂, .of_steps (Steps.trans harr (.one step_inLoop)) harr₂⟩
  | exit id => exact ⟨_, a₁, w₁, hq, .pass (x := .inLoop c) rfl (fun _ _ => .inl (by simp)) harr⟩
  | goto l => exact ⟨_, a₁, w₁, hq, .pass (x := .inLoop c) rfl (fun _ _ => .inl (by simp)) harr⟩
  | ret => exact ⟨_, a₁, w₁, hq, .pass (x := .inLoop c) rfl (fun _ _ => .inl (by simp)) harr⟩
  | panic ch => exact ⟨_, a₁, w₁, hq, .pass (x := .inLoop c) rfl (fun _ _ => .inl (by simp)) harr⟩
  | outgrown => exact ⟨_, a₁, w₁, hq, .pass (x := .inLoop c) rfl (fun _ _ => .inl (by simp)) harr⟩

def CodeSound (P : Program) (c : ACode) (e : Env) (H : Heap) (x : AExit) (e' : Env) (H' : Heap) : Prop :=
  ∀ (N : Nat) (code : Code), cmpCode P N code = c.erase → ∀ (B : Nat) (m : LMap) (w : World) (a : Act) (Q : Exit → Act → World → Prop), Rel B m H w → EnvAll m (cellsIn w) e a → N ≤ a.tmps.size →
    (∀ m' w' a', St B H m w H' m' w' → EnvAll m' (cellsIn w') e' a' → a'.defers = a.defers → a'.tmps.size = a.tmps.size → Q x.go a' w') →
    code.wp P Q a w ∧ (∀ body, code = .loop body → InLoop P body Q a w)

def JSound (P : Program) : J → Prop
  | .ops d l e H e' H' => Trace P d (l.map AInstr.erase) e H e' H'
  | .code c e H x e' H' => CodeSound P c e H x e' H'
  | .call f args H v H' => CallSound P f args H v H'

/-- What is known of the slim functions. -/
structure GOk (P : Program) (G : Prog) : Prop where
  fn : ∀ f a, G.fn f = some a → cmpFun P f = some a.erase
  prim : ∀ f args H v H', G.prim f args H v H' → CallSound P f args H v H'
  mixed : P.follows .mixedOrders = true

theorem cmp_region {N : Nat} {code : Code} {l : List AInstr} {d : Bool} (h : cmpCode P N code = .region l d) : ∃ id ops, code = .region id ops d ∧ l = ops.toList.map (cmpInstr P N ops) ∧ (d = true → drawOk ops l = true) := by
  cases code <;> simp only [cmpCode] at h <;> try (cases h; done)
  case region id ops draw =>
    unfold cmpRegion at h
    simp only at h
    split at h
    · rename_i hd
      split at h
      · rename_i hk
        injection h with h1 h2
        subst h1; subst h2
        exact ⟨id, ops, by rw [hd], rfl, fun _ => hk⟩
      · cases h
    · rename_i hd
      injection h with h1 h2
      subst h1; subst h2
      exact ⟨id, ops, by simp at hd; rw [hd], rfl, fun h => by cases h⟩
  case cond c x y =>
    split at h <;> cases h

theorem cmp_seq {N : Nat} {code : Code} {x y : ACode} (h : cmpCode P N code = .seq x y) : ∃ a b, code = .seq a b ∧ cmpCode P N a = x ∧ cmpCode P N b = y := by
  cases code <;> simp only [cmpCode] at h <;> try (cases h; done)
  case seq a b => injection h with h1 h2; exact ⟨a, b, rfl, h1, h2⟩
  case region id ops draw => unfold cmpRegion at h; simp only at h; split at h <;> (try split at h) <;> cases h
  case cond c x y => split at h <;> cases h

theorem cmp_cond {N : Nat} {code : Code} {c : Opd} {x y : ACode} (h : cmpCode P N code = .cond c x y) : ∃ o a b, code = .cond o a b ∧ cmpOpd o = some c ∧ cmpCode P N a = x ∧ cmpCode P N b = y := by
  cases code <;> simp only [cmpCode] at h <;> try (cases h; done)
  case region id ops draw => unfold cmpRegion at h; simp only at h; split at h <;> (try split at h) <;> cases h
  case cond o a b =>
    split at h
    · rename_i ho
      injection h with h0 h1 h2
      subst h0
      exact ⟨o, a, b, rfl, ho, h1, h2⟩
    · cases h

theorem cmp_block {N : Nat} {code : Code} {id : Nat} {x : ACode} (h : cmpCode P N code = .block id x) : ∃ a, code = .block id a ∧ cmpCode P N a = x := by
  cases code <;> simp only [cmpCode] at h <;> try (cases h; done)
  case region id ops draw => unfold cmpRegion at h; simp only at h; split at h <;> (try split at h) <;> cases h
  case cond o a b => split at h <;> cases h
  case block id a => injection h with h1 h2; subst h1; exact ⟨a, rfl, h2⟩

theorem cmp_loop {N : Nat} {code : Code} {x : ACode} (h : cmpCode P N code = .loop x) : ∃ a, code = .loop a ∧ cmpCode P N a = x := by
  cases code <;> simp only [cmpCode] at h <;> try (cases h; done)
  case region id ops draw => unfold cmpRegion at h; simp only at h; split at h <;> (try split at h) <;> cases h
  case cond o a b => split at h <;> cases h
  case loop a => injection h with h; exact ⟨a, rfl, h⟩

theorem cmp_skip {N : Nat} {code : Code} (h : cmpCode P N code = .skip) : code = .skip := by
  cases code <;> simp only [cmpCode] at h <;> try (cases h; done)
  case skip => rfl
  case region id ops draw => unfold cmpRegion at h; simp only at h; split at h <;> (try split at h) <;> cases h
  case cond o a b => split at h <;> cases h

theorem cmp_exit {N : Nat} {code : Code} {id : Nat} (h : cmpCode P N code = .exit id) : code = .exit id := by
  cases code <;> simp only [cmpCode] at h <;> try (cases h; done)
  case region id ops draw => unfold cmpRegion at h; simp only at h; split at h <;> (try split at h) <;> cases h
  case cond o a b => split at h <;> cases h
  case exit id => injection h with h; subst h; rfl

theorem cmp_ret {N : Nat} {code : Code} (h : cmpCode P N code = .ret) : code = .ret := by
  cases code <;> simp only [cmpCode] at h <;> try (cases h; done)
  case region id ops draw => unfold cmpRegion at h; simp only at h; split at h <;> (try split at h) <;> cases h
  case cond o a b => split at h <;> cases h
  case ret => rfl

/-! ### Results -/
def resOf (tmps : Array Value) : ResultVar → Sem Value
  | .tmp t => pure (tmps.getD t undef)
  | .cell a t => do loadVar t (← asAddr (tmps.getD a undef))

theorem results_eq (fn : Func) (tmps : Array Value) : results fn tmps = (do let vs ← fn.results.mapM (resOf tmps); pure (if h : vs.size = 1 then vs[0] else .tuple vs)) := by
  have : (fun | .tmp t => pure (tmps.getD t undef) | .cell a t => do loadVar t (← asAddr (tmps.getD a undef)) : ResultVar → Sem Value) = resOf tmps := by
    funext x; cases x <;> rfl
  rw [← this]; rfl

theorem res1_sound {B : Nat} {m : LMap} {H : Heap} {w : World} (r : Rel B m H w) {e : Env} {a : Act} (he : EnvAll m (cellsIn w) e a) {x : ResultVar} {rs : List ARes} {l : List ResultVar} (hx : cmpRes P (x :: l) = some rs) :
    ∃ y rest, rs = y :: rest ∧ cmpRes P l = some rest ∧ ∀ v, evRes1 e H y = some v → ∃ u, (resOf a.tmps x).run P w = .ok u w ∧ VRA m (cellsIn w) v u := by
  cases x with
  | tmp t =>
    simp only [cmpRes] at hx
    split at hx
    · rename_i rest' hr
      injection hx with hx
      refine ⟨_, _, hx.symm, hr, fun v hv => ?_⟩
      simp only [evRes1, Option.some.injEq] at hv
      subst hv
      exact ⟨_, rfl, he t⟩
    · cases hx
  | cell c t =>
    simp only [cmpRes] at hx
    split at hx
    · rename_i g n rest' hg hn hr
      split at hx
      · injection hx with hx
        refine ⟨_, _, hx.symm, hr, fun v hv => ?_⟩
        simp only [evRes1, ev, Opd.ev] at hv
        generalize hec : e c = ec at hv
        have hc := he c
        rw [hec] at hc
        split at hv <;> try (cases hv; done)
        rename_i v0 H0 hv0
        injection hv with hv; subst hv
        have got : ∃ u, (Instr.loadAt t (a.tmps.getD c undef)).run P w = .ok u w ∧ VRA m (cellsIn w) v0 u := by
          split at hv0 <;> try (cases hv0; done)
          · rename_i b i f
            split at hv0 <;> try (cases hv0; done)
            rename_i q hq
            split at hv0 <;> try (cases hv0; done)
            rename_i hf
            split at hv0 <;> try (cases hv0; done)
            rename_i v1 hv1
            injection hv0 with hv0
            injection hv0 with h1 h2
            subst h1
            exact load_sound r hg hn hc hq hf hv1
          · rename_i q f
            split at hv0 <;> try (cases hv0; done)
            rename_i hf
            split at hv0 <;> try (cases hv0; done)
            rename_i v1 hv1
            injection hv0 with hv0
            injection hv0 with h1 h2
            subst h1
            exact loadF_sound hg hn hc.inv_c hf hv1
        have isPtr : ∃ A, a.tmps.getD c undef = .pointer (some A) := by
          have hva : ∃ va, va = a.tmps.getD c undef := ⟨_, rfl⟩
          obtain ⟨va, hva⟩ := hva
          rw [← hva] at hc ⊢
          clear hva
          split at hv0 <;> try (cases hv0; done)
          · cases hc with
            | c hc => cases hc; exact ⟨_, rfl⟩
          · cases hc with
            | c hc => cases hc; exact ⟨_, rfl⟩
        obtain ⟨u, k1, k2⟩ := got
        refine ⟨u, ?_, k2⟩
        obtain ⟨A, hA⟩ := isPtr
        show (do loadVar t (← asAddr (a.tmps.getD c undef)) : Sem Value).run P w = _
        rw [hA] at k1 ⊢
        simp only [Instr.loadAt, Instr.sureAddr, asAddr] at k1 ⊢
        exact k1
      · cases hx
    · cases hx


theorem resL_sound {B : Nat} {m : LMap} {H : Heap} {w : World} (r : Rel B m H w) {e : Env} {a : Act} (he : EnvAll m (cellsIn w) e a) : ∀ {l : List ResultVar} {rs : List ARes}, cmpRes P l = some rs → ∀ {vs : List AVal}, rs.mapM (evRes1 e H) = some vs →
    ∃ us, (l.mapM (resOf a.tmps)).run P w = .ok us w ∧ All2 (VRA m (cellsIn w)) vs us
  | [], rs, h, vs, hv => by
    simp only [cmpRes, Option.some.injEq] at h
    subst h
    simp at hv
    subst hv
    exact ⟨[], by simp, .nil⟩
  | x :: l, rs, h, vs, hv => by
    obtain ⟨y, rest, rfl, hr, h1⟩ := res1_sound r he h
    simp only [List.mapM_cons, Option.bind_eq_bind, Option.pure_def] at hv
    cases hy : evRes1 e H y with
    | none => simp [hy] at hv
    | some v =>
      cases hm : rest.mapM (evRes1 e H) with
      | none => simp [hy, hm] at hv
      | some vs' =>
        simp [hy, hm] at hv
        subst hv
        obtain ⟨u, k1, k2⟩ := h1 v hy
        obtain ⟨us, k3, k4⟩ := resL_sound r he hr hm
        refine ⟨u :: us, ?_, .cons k2 k4⟩
        simp [List.mapM_cons, k1, k3]

theorem results_sound {B : Nat} {m : LMap} {H : Heap} {w : World} (r : Rel B m H w) {e : Env} {a : Act} (he : EnvAll m (cellsIn w) e a) {fn : Func} {rs : List ARes} (h : cmpRes P fn.results.toList = some rs) {v : AVal} (hv : evRes e H rs = some v) :
    ∃ u, (results fn a.tmps).run P w = .ok u w ∧ VRA m (cellsIn w) v u := by
  have hall : ∃ vs, rs.mapM (evRes1 e H) = some vs ∧ (v = .tup vs ∧ vs.length ≠ 1 ∨ vs = [v]) := by
    unfold evRes at hv
    split at hv
    · rename_i x
      exact ⟨[v], by simp [hv], .inr rfl⟩
    · rename_i hne
      split at hv
      · rename_i vs hvs
        injection hv with hv
        subst hv
        refine ⟨vs, hvs, .inl ⟨rfl, fun hl => ?_⟩⟩
        have hlen : rs.length = vs.length := by
          clear h he hne hl
          induction rs generalizing vs with
          | nil => simp at hvs; subst hvs; rfl
          | cons y rest ih =>
            simp only [List.mapM_cons, Option.bind_eq_bind, Option.pure_def] at hvs
            cases hy : evRes1 e H y with
            | none => simp [hy] at hvs
            | some v =>
              cases hm : rest.mapM (evRes1 e H) with
              | none => simp [hy, hm] at hvs
              | some vs' =>
                simp [hy, hm] at hvs
                subst hvs
                simp [ih vs' hm]
        rw [hl] at hlen
        cases rs with
        | nil => simp at hlen
        | cons x t => cases t with
          | nil => exact hne x rfl
          | cons _ _ => simp at hlen
      · cases hv
  obtain ⟨vs, hvs, hv2⟩ := hall
  obtain ⟨us, k1, k2⟩ := resL_sound r he h hvs
  have hrun : (results fn a.tmps).run P w = .ok (if h : us.toArray.size = 1 then us.toArray[0] else .tuple us.toArray) w := by
    rw [results_eq]
    simp [Array.mapM_eq_mapM_toList, k1]
  refine ⟨_, hrun, ?_⟩
  have hl := k2.length
  rcases hv2 with ⟨rfl, hne⟩ | rfl
  · rw [dif_neg (by simpa [← hl] using hne)]
    refine .tup (by simpa using hl) fun i x u hx hu => ?_
    obtain ⟨u', hu', hr⟩ := k2.get hx
    simp at hu
    rw [hu] at hu'
    injection hu' with hu'
    subst hu'
    exact hr
  · obtain ⟨u, rfl, hu⟩ := k2.inv_single
    simpa using hu

/-! ### The whole -/
theorem exitThen {x : AExit} (hx : x ≠ .normal) {K : Act → World → Prop} {Q : Exit → Act → World → Prop} {a : Act} {w : World} (h : Q x.go a w) : Exit.then K Q x.go a w := by
  cases x with
  | normal => exact absurd rfl hx
  | exit => exact h
  | ret => exact h

theorem VRA.empty0 {m : LMap} {σ : Mem} {y : Cell} {v : Value} {sz : Nat} (h : VRA m σ (.c y) v) (h1 : y = .nilS ∨ y = .zer sz) : VRA m σ (.c (.lst sz [])) v := by
  rcases h1 with rfl | rfl
  · cases h with | c h => cases h; exact .c .lstN
  · cases h with | c h => exact .c (weak_sound rfl h)

theorem sound {G : Prog} (hG : GOk P G) {j : J} (h : Ev G j) : JSound P j := by
  induction h with
  | nil => exact .nil
  | op hg _ hev _ ih => exact .go hg (.ev hev) ih
  | opF hg _ hev _ ih =>
    obtain ⟨v0, E, h1, h2⟩ := evF_some hev
    exact .go hg (.evF h1 h2 rfl) ih
  | @fz t c e H x e' H' b k _ hk ho hl _ ih =>
    intro N code hc B m w a Q r he hN hQ
    have hkill : H.kill b = H.set b { k with live := false } := by simp [Heap.kill, hk]
    rw [hkill] at ih
    cases hm : m b with
    | some L =>
      have s := St.freeze r hm hk ho hl
      exact ih N code hc B _ w a Q s.rel (fun t => (he t).frz r hm hk hl) hN fun m' w' a' s' e2 d2 z2 => hQ m' w' a' (s.trans r s') e2 d2 z2
    | none =>
      have s := St.freeze0 r hk
      exact ih N code hc B _ w a Q s.rel (fun t => (he t).frz0 hm) hN fun m' w' a' s' e2 d2 z2 => hQ m' w' a' (s.trans r s') e2 d2 z2
  | @fz0 t c e H x e' H' y z hy hz _ ih =>
    intro N code hc B m w a Q r he hN hQ
    refine ih N code hc B m w a Q r (fun s => ?_) hN hQ
    unfold upd
    split
    · rename_i hs
      subst hs
      have h2 := he s
      rw [hy] at h2
      rcases hz with rfl | ⟨sz, rfl, h1⟩
      · exact h2
      · exact h2.empty0 h1
    · exact he s
  | off hb hg _ ih => exact .off (by intro h; simp only [AInstr.erase] at h; rw [h] at hb; cases hb) hg ih
  | opCall hg hop hfo _ hpre _ ihc ih => exact .go hg (.call hop hfo ihc hpre) ih
  | skip =>
    intro N code hc B m w a Q r he hN hQ
    have := cmp_skip hc; subst this
    exact ⟨wp_skip (hQ m w a (St.refl r) he rfl rfl), fun _ h => by cases h⟩
  | @region l d e H e' H' _ ih =>
    intro N code hc B m w a Q r he hN hQ
    obtain ⟨id, ops, rfl, hl, hd⟩ := cmp_region hc
    refine ⟨?_, fun _ h => by cases h⟩
    cases d with
    | false =>
      refine wp_region ?_
      have := trace_text ih 0 (by simpa using hl) B m w a Q r he hN hQ
      rw [Nat.sub_zero] at this
      rw [List.range_eq_range']
      exact this
    | true =>
      refine wp_region_any hG.mixed ?_
      have s0 : St B H m w H m w.drew := St.drew r
      refine draw_sound (m0 := m) (w0 := w.drew) ih hl (hd rfl) s0.rel he hN fun m' w' a' hst => hQ m' w' a' (s0.trans r hst)
  | @seq x y e H e1 H1 ex e' H' _ _ ih1 ih2 =>
    intro N code hc B m w a Q r he hN hQ
    obtain ⟨c1, c2, rfl, h1, h2⟩ := cmp_seq hc
    refine ⟨wp_seq (ih1 N c1 h1 B m w a _ r he hN fun m1 w1 a1 s1 e1 d1 z1 => ?_).1, fun _ h => by cases h⟩
    exact (ih2 N c2 h2 B m1 w1 a1 Q s1.rel e1 (by rw [z1]; exact hN) fun m2 w2 a2 s2 e2 d2 z2 => hQ m2 w2 a2 (s1.trans r s2) e2 (d2.trans d1) (z2.trans z1)).1
  | @seqOut x y e H ex e' H' hx _ ih =>
    intro N code hc B m w a Q r he hN hQ
    obtain ⟨c1, c2, rfl, h1, h2⟩ := cmp_seq hc
    exact ⟨wp_seq (ih N c1 h1 B m w a _ r he hN fun m1 w1 a1 s1 e1 d1 z1 => exitThen hx (hQ m1 w1 a1 s1 e1 d1 z1)).1, fun _ h => by cases h⟩
  | @cond c x y t e H ex e' H' hcv _ ih =>
    intro N code hc B m w a Q r he hN hQ
    obtain ⟨o, c1, c2, rfl, ho, h1, h2⟩ := cmp_cond hc
    have hv := opd_c (m := m) (σ := cellsIn w) ho (he.on _) hcv
    refine ⟨wp_cond hv.inv_bool ?_, fun _ h => by cases h⟩
    cases t with
    | true => exact (ih N c1 (by simpa using h1) B m w a Q r he hN hQ).1
    | false => exact (ih N c2 (by simpa using h2) B m w a Q r he hN hQ).1
  | @block id x e H ex e' H' _ hne ih =>
    intro N code hc B m w a Q r he hN hQ
    obtain ⟨c1, rfl, h1⟩ := cmp_block hc
    refine ⟨wp_block (ih N c1 h1 B m w a _ r he hN fun m1 w1 a1 s1 e1 d1 z1 => ?_).1, fun _ h => by cases h⟩
    have := hQ m1 w1 a1 s1 e1 d1 z1
    cases ex with
    | normal => exact this
    | ret => exact this
    | exit id' =>
      simp only [AExit.go, Exit.inBlock]
      rw [if_neg (by intro h; subst h; exact hne rfl)]
      exact this
  | @blockExit id x e H e' H' _ ih =>
    intro N code hc B m w a Q r he hN hQ
    obtain ⟨c1, rfl, h1⟩ := cmp_block hc
    refine ⟨wp_block (ih N c1 h1 B m w a _ r he hN fun m1 w1 a1 s1 e1 d1 z1 => ?_).1, fun _ h => by cases h⟩
    simp only [AExit.go, Exit.inBlock, if_true]
    exact hQ m1 w1 a1 s1 e1 d1 z1
  | @loop x e H e1 H1 ex e' H' _ _ ih1 ih2 =>
    intro N code hc B m w a Q r he hN hQ
    obtain ⟨c1, rfl, h1⟩ := cmp_loop hc
    have hin : InLoop P c1 Q a w := by
      refine InLoop.step (ih1 N c1 h1 B m w a _ r he hN fun m1 w1 a1 s1 e1 d1 z1 => ?_).1
      exact (ih2 N (.loop c1) hc B m1 w1 a1 Q s1.rel e1 (by rw [z1]; exact hN) fun m2 w2 a2 s2 e2 d2 z2 => hQ m2 w2 a2 (s1.trans r s2) e2 (d2.trans d1) (z2.trans z1)).2 c1 rfl
    exact ⟨hin.loop, fun body hb => by injection hb with hb; subst hb; exact hin⟩
  | @loopOut x e H ex e' H' hx _ ih =>
    intro N code hc B m w a Q r he hN hQ
    obtain ⟨c1, rfl, h1⟩ := cmp_loop hc
    have hin : InLoop P c1 Q a w := by
      refine InLoop.step (ih N c1 h1 B m w a _ r he hN fun m1 w1 a1 s1 e1 d1 z1 => exitThen hx (hQ m1 w1 a1 s1 e1 d1 z1)).1
    exact ⟨hin.loop, fun body hb => by injection hb with hb; subst hb; exact hin⟩
  | @exit id e H =>
    intro N code hc B m w a Q r he hN hQ
    have := cmp_exit hc; subst this
    exact ⟨wp_exit (hQ m w a (St.refl r) he rfl rfl), fun _ h => by cases h⟩
  | ret =>
    intro N code hc B m w a Q r he hN hQ
    have := cmp_ret hc; subst this
    exact ⟨wp_ret (hQ m w a (St.refl r) he rfl rfl), fun _ h => by cases h⟩
  | @call f fn args H x e' H' v hf _ hx hv ih =>
    have hc := hG.fn f fn hf
    unfold cmpFun at hc
    split at hc <;> try (cases hc; done)
    rename_i gf hgf
    split at hc <;> try (cases hc; done)
    rename_i c rs hbody hrs
    split at hc <;> try (cases hc; done)
    rename_i hname
    injection hc with hc
    obtain ⟨fres, fbody⟩ := fn
    simp only [AFun.erase, AFun.mk.injEq] at hc
    obtain ⟨hres, hcode⟩ := hc
    subst hres
    refine ⟨⟨gf, hgf, by rw [hbody]; rfl, by simpa using hname⟩, fun B m w vs r hargs => ?_⟩
    refine calls_of_wp hgf hbody ?_
    have he : EnvAll m (cellsIn w) (initEnv args) { tmps := vs ++ Array.replicate (gf.ntmps - vs.size) undef, defers := [] } := fun t => by
      have hl := hargs.length
      simp only [initEnv, List.getD_eq_getElem?_getD, Array.getD_eq_getD_getElem?]
      cases hx : args[t]? with
      | some x =>
        obtain ⟨u, hu, hr⟩ := hargs.get hx
        have ht : t < vs.size := by
          have := (List.getElem?_eq_some_iff.1 hu).1
          simpa using this
        rw [Array.getElem?_append_left ht]
        simp only [Array.getElem?_toList] at hu
        rw [hu]
        exact hr
      | none =>
        have ht : vs.size ≤ t := by
          have := List.getElem?_eq_none_iff.1 hx
          have : args.length = vs.size := by simpa using hl
          omega
        rw [Array.getElem?_append_right ht]
        have : ((Array.replicate (gf.ntmps - vs.size) undef)[t - vs.size]?).getD undef = undef := by
          by_cases h : t - vs.size < gf.ntmps - vs.size <;> simp [h]
        rw [this]
        exact VRA.undef
    refine (ih gf.ntmps c hcode B m w _ _ r he (by simp; omega) fun m' w' a' hst he' hd' _ => ?_).1
    obtain ⟨u, k1, k2⟩ := results_sound hst.rel he' hrs hv
    have : a'.defers = [] ∧ ∃ v', (results gf a'.tmps).run P w' = .ok v' w' ∧ (∃ u m'', Ending.returned v' = .returned u ∧ St B H m w H' m'' w' ∧ VRA m'' (cellsIn w') v u) :=
      ⟨hd', u, k1, u, m', rfl, hst, k2⟩
    rcases hx with rfl | rfl
    · exact this
    · exact this
  | prim h => exact hG.prim _ _ _ _ _ h

end Go.Proofs.Ytfbkolkkpkonfaa.Eng
