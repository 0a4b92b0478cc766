/- The engine, part 11: one operation in its frame; a list of operations in the text's order. No statement of the seat is proved here. -/
import Derived.Test.YtfbkolkkpkonfaaEngF
namespace Go.Proofs.Ytfbkolkkpkonfaa.Eng
open Go
set_option linter.unusedVariables false
set_option linter.unusedSimpArgs false

variable {P : Program} {B : Nat} {m : LMap} {H : Heap} {w : World}

def EnvAll (m : LMap) (σ : Mem) (e : Env) (a : Act) : Prop := ∀ t, VRA m σ (e t) (a.tmps.getD t undef)
theorem EnvAll.on {σ : Mem} {e : Env} {a : Act} (h : EnvAll m σ e a) (ts : List Nat) : EnvOn m σ ts e a := fun t _ => h t
theorem EnvAll.mono {σ m' σ'} {e : Env} {a : Act} (h : EnvAll m σ e a) (hm : MLe m σ m' σ') : EnvAll m' σ' e a := fun t => (h t).mono hm

theorem put_tmps (a : Act) (d : Option Nat) (u : Value) : (a.put d u).defers = a.defers ∧ (a.put d u).tmps.size = a.tmps.size := by
  cases d <;> simp [Act.put]

theorem put_getD {a : Act} {N : Nat} (hN : N ≤ a.tmps.size) {d : Option Nat} (hd : dstOk N d = true) (u : Value) (t : Nat) : (a.put d u).tmps.getD t undef = if d = some t then u else a.tmps.getD t undef := by
  cases d with
  | none => simp [Act.put]
  | some d =>
    have hd' : d < a.tmps.size := by simp [dstOk] at hd; omega
    simp only [Act.put, Array.getD_eq_getD_getElem?, Array.getElem?_setIfInBounds, Option.some.injEq]
    by_cases h : d = t
    · subst h; simp [hd']
    · simp [h]

theorem EnvAll.put {σ : Mem} {e : Env} {a : Act} {N : Nat} (h : EnvAll m σ e a) (hN : N ≤ a.tmps.size) {d : Option Nat} (hd : dstOk N d = true) {v : AVal} {u : Value} (hv : VRA m σ v u) : EnvAll m σ (updO e d v) (a.put d u) := by
  intro t
  rw [put_getD hN hd]
  cases d with
  | none => simpa [updO] using h t
  | some d =>
    simp only [updO, upd, Option.some.injEq]
    by_cases hdt : d = t
    · subst hdt; simpa using hv
    · rw [if_neg hdt, if_neg (fun h => hdt h.symm)]; exact h t

/-- What a call of a function comes to, whatever memory the abstract heap stands for. -/
structure CallSound (P : Program) (f : Nat) (args : List AVal) (H : Heap) (v : AVal) (H' : Heap) : Prop where
  there : ∃ fn, P.funcs[f]? = some fn ∧ fn.body.isSome = true ∧ (fn.name == "runtime.NumGoroutine") = false
  calls : ∀ (B : Nat) (m : LMap) (w : World) (vs : Array Value), Rel B m H w → All2 (VRA m (cellsIn w)) args vs.toList →
    Calls P f vs w fun e w' => ∃ u m', e = .returned u ∧ St B H m w H' m' w' ∧ VRA m' (cellsIn w') v u

/-- What one operation does: by itself, or by a call. -/
inductive SOp (P : Program) (d : Bool) (x : AInstr) (e : Env) (H : Heap) (v : AVal) (H1 : Heap) : Prop where
  | ev : ev x.op e H = some (v, H1) → SOp P d x e H v H1
  | evF {v0 E} : ev x.op e H = some (v0, H ++ E) → frzE H.length E v0 = some v → H1 = H → SOp P d x e H v H1
  | call {fo args f caps} : x.op = .call fo args → Opd.ev e fo = .c (.fn f caps) → CallSound P f (args.map (Opd.ev e) ++ caps.map .c) H v H1 → (d = true → H <+: H1) → SOp P d x e H v H1

theorem all2_map {R : AVal → Value → Prop} {e : Env} : ∀ {ys : List Opd} {vs : List Value}, All2 (fun y v => R (y.ev e) v) ys vs → All2 R (ys.map (Opd.ev e)) vs
  | [], _, h => by cases h; exact .nil
  | y :: ys, _, h => by cases h with | cons a b => exact .cons a (all2_map b)

theorem all2_c {σ : Mem} : ∀ {cs : List Cell} {vs : List Value}, All2 (VR m σ) cs vs → All2 (VRA m σ) (cs.map .c) vs
  | [], _, h => by cases h; exact .nil
  | c :: cs, _, h => by cases h with | cons a b => exact .cons (.c a) (all2_c b)

theorem cmpInstr_ok {N : Nat} {ops : Array Oper} {o : Oper} {x : AInstr} (hx : cmpInstr P N ops o = x) (hb : x.op ≠ .bad) : dstOk N o.dst = true ∧ x.dst = o.dst ∧ x.op = upOp ops (cmpOp P o) ∧ cmpGuard ops o.guard = some x.guard := by
  subst hx
  cases hg : cmpGuard ops o.guard with
  | none => exact absurd (by simp [cmpInstr, hg]) hb
  | some g =>
    by_cases hd : dstOk N o.dst = true
    · have : cmpInstr P N ops o = { dst := o.dst, op := upOp ops (cmpOp P o), guard := g } := by simp [cmpInstr, hg, hd]
      rw [this]
      exact ⟨hd, rfl, rfl, rfl⟩
    · exact absurd (by simp [cmpInstr, hg, hd]) hb

theorem cmpInstr_dst {N : Nat} {ops : Array Oper} {o : Oper} : (cmpInstr P N ops o).dst = o.dst := by
  unfold cmpInstr
  split
  · split <;> rfl
  · rfl

theorem SOp.notBad {d : Bool} {x : AInstr} {e : Env} {H1 : Heap} {v : AVal} (h : SOp P d x e H v H1) : x.op ≠ .bad := by
  cases h with
  | ev h => intro hb; rw [hb] at h; simp [Eng.ev] at h
  | evF h => intro hb; rw [hb] at h; simp [Eng.ev] at h
  | call h => intro hb; rw [hb] at h; cases h

/-- A guard is met in the machine just if it is met here. -/
theorem guard_sound {σ : Mem} {ops : Array Oper} {o : Oper} {g : Option (Nat × Bool)} (hg : cmpGuard ops o.guard = some g) {e : Env} {a : Act} (he : ∀ t b, g = some (t, b) → VRA m σ (e t) (a.tmps.getD t undef)) :
    Region.wanted o (yielded ops a.tmps) = goes g e := by
  unfold cmpGuard at hg
  split at hg
  · rename_i hn
    injection hg with hg; subst hg
    simp [Region.wanted, hn, goes]
  · rename_i j b hj
    split at hg
    · rename_i t ht
      injection hg with hg; subst hg
      have hv := he t b rfl
      simp only [Region.wanted, hj, goes]
      have hy : yielded ops a.tmps j = match a.tmps.getD t undef with | .bool b => some b | _ => none := by
        simp only [yielded, ht, Option.bind_some, Array.getD_eq_getD_getElem?]
        cases a.tmps[t]? with
        | none => rfl
        | some q => cases q <;> rfl
      rw [hy]
      generalize a.tmps.getD t undef = q at hv
      generalize e t = et at hv
      cases hv with
      | c hv => cases hv <;> simp
      | agg => simp
      | tup => simp
    · cases hg

/-- One operation that goes. -/
theorem step_go (r : Rel B m H w) {N : Nat} {ops : Array Oper} {o : Oper} {d : Bool} {e : Env} {v : AVal} {H1 : Heap} {a : Act} (hs : SOp P d (cmpInstr P N ops o) e H v H1) (he : EnvOn m (cellsIn w) (cmpInstr P N ops o).reads e a)
    (hg : goes (cmpInstr P N ops o).guard e = true) {K : Act → World → Prop} {Q : Exit → Act → World → Prop} (hK : ∀ m' w' u, St B H m w H1 m' w' → VRA m' (cellsIn w') v u → K (a.put o.dst u) w') :
    Region.wanted o (yielded ops a.tmps) = true ∧ o.wp P a w K Q := by
  obtain ⟨hd, h1, h2, h3⟩ := cmpInstr_ok rfl hs.notBad
  have hguard := guard_sound (m := m) (σ := cellsIn w) h3 (e := e) (a := a) (fun t b ht => he t (by simp [AInstr.reads, ht]))
  refine ⟨by rw [hguard]; exact hg, ?_⟩
  have he' : EnvOn m (cellsIn w) (cmpOp P o).reads e a := by
    rw [← upOp_reads ops, ← h2]
    intro t ht
    exact he t (by simp [AInstr.reads, ht])
  unfold Oper.wp
  cases hs with
  | ev hev =>
    rw [h2] at hev
    replace hev := ev_up hev
    obtain ⟨n, u, w', m', k1, k2, k3, k4⟩ := ev_sound (P := P) r hev he'
    rw [k1]
    rcases k2 with rfl | ⟨rfl, rfl⟩
    · exact hK m' w' u k3 k4
    · exact hK m' w' undef k3 k4
  | evF hev hf hH =>
    subst hH
    rw [h2] at hev
    replace hev := ev_up hev
    obtain ⟨n, u, w', m', k1, k2, k3, k4⟩ := ev_sound (P := P) r hev he'
    obtain ⟨m2, k5, k6⟩ := frzE_sound r k3 k4 hf
    rw [k1]
    rcases k2 with rfl | ⟨rfl, rfl⟩
    · exact hK m2 w' u k5 k6
    · exact hK m2 w' undef k5 k6
  | call hop hfo hcs hpre =>
    rename_i fo args f caps
    rw [h2] at hop
    replace hop := upOp_call hop
    -- the machine's own call
    obtain ⟨s, hs', hcs'⟩ : ∃ s, cmpOp' P o = some s ∧ cmpOp P o = s := by
      cases hq : cmpOp' P o with
      | none => simp [cmpOp, hq] at hop
      | some s => exact ⟨s, rfl, by simp [cmpOp, hq]⟩
    rw [hcs'] at hop
    subst hop
    have hcall : ∃ c g, o.op = .call c ∧ c.callee = .value g ∧ cmpOpd g = some fo ∧ cmpOpds c.args.toList = some args := by
      cases ho : o.op <;> simp only [cmpOp', ho] at hs' <;> try (cases hs'; done)
      case call c =>
        refine ⟨c, ?_⟩
        unfold cmpCall at hs'
        cases hcal : c.callee with
        | value g =>
          simp only [hcal] at hs'
          split at hs' <;> try (cases hs'; done)
          rename_i f' xs hf' hxs
          injection hs' with hs'
          injection hs' with e1 e2
          subst e1; subst e2
          exact ⟨g, rfl, rfl, hf', hxs⟩
        | invoke _ _ => simp only [hcal] at hs'; cases hs'
        | builtin b =>
          simp only [hcal] at hs'
          cases b <;> simp only [] at hs' <;> try (cases hs'; done)
          all_goals
            exfalso
            repeat' (first
              | contradiction
              | (cases hs'; done)
              | (injection hs' with hs'; cases hs'; done)
              | split at hs')
      case binOp op t x y yt =>
        exfalso
        unfold cmpBin at hs'
        repeat' (first
              | contradiction
              | (cases hs'; done)
              | (injection hs' with hs'; cases hs'; done)
              | split at hs')
      all_goals
        exfalso
        repeat' (first
              | contradiction
              | (cases hs'; done)
              | (injection hs' with hs'; cases hs'; done)
              | split at hs')
    obtain ⟨c, g, ho, hcal, hg', hargs⟩ := hcall
    rw [hcs'] at he'
    simp only [AOp.reads] at he'
    have vf := opd_c hg' he'.left hfo
    have hall := opds_sound hargs he'.right
    generalize hgf : a.eval g = gv at vf
    cases vf with
    | fn hl hk =>
      rename_i vs
      have hcaps : All2 (VR m (cellsIn w)) caps vs.toList := All2.of_get (by simpa using hl) (fun i x y hx hy => hk i x y hx (by simpa using hy))
      obtain ⟨fn, hfn, hbody, hname⟩ := hcs.there
      have hbody' : fn.body.isNone = false := by cases h : fn.body <;> simp_all
      have hrun : (execOp a.eval o).run P w = .ok (.enter f (c.args.map a.eval ++ vs)) w := by
        obtain ⟨callee, cargs, argTypes⟩ := c
        simp only at hcal
        subst hcal
        have hname' : ¬ fn.name = "runtime.NumGoroutine" := by simpa using hname
        have hbody2 : ¬ fn.body = none := by intro h; rw [h] at hbody'; simp at hbody'
        unfold execOp
        simp only [ho]
        simp [resolve, Deferred.ofValue, hgf, invoke, callFunc, hfn, hname', hbody2]
      rw [hrun]
      simp only [Oper.upon]
      have hvs : All2 (VRA m (cellsIn w)) (args.map (Opd.ev e) ++ caps.map .c) (c.args.map a.eval ++ vs).toList := by
        simp only [Array.toList_append, Array.toList_map]
        exact (all2_map hall).append (all2_c hcaps)
      refine (hcs.calls B m w _ r hvs).mono ?_
      rintro e' w' ⟨u, m', rfl, k1, k2⟩
      exact hK m' w' u k1 k2

theorem wpOps_at {ops : Array Oper} {Q : Exit → Act → World → Prop} {i : Nat} {rest : List Nat} {a : Act} {w : World} {o : Oper} (ho : ops[i]? = some o) (h : (Region.wanted o (yielded ops a.tmps) = true ∧ o.wp P a w (wpOps P ops Q rest) Q) ∨ (Region.wanted o (yielded ops a.tmps) = false ∧ wpOps P ops Q rest (a.put o.dst undef) w)) :
    wpOps P ops Q (i :: rest) a w := by
  simp only [wpOps, ho]
  rcases h with ⟨h1, h2⟩ | ⟨h1, h2⟩
  · rw [if_pos h1]; exact .inl h2
  · rw [h1]; simpa using h2

/-- A list of operations that is gone through. -/
inductive Trace (P : Program) (d : Bool) : List AInstr → Env → Heap → Env → Heap → Prop where
  | nil {e H} : Trace P d [] e H e H
  | go {x l e H v H1 e' H'} : goes x.guard e = true → SOp P d x e H v H1 → Trace P d l (updO e x.dst v) H1 e' H' → Trace P d (x :: l) e H e' H'
  | off {x l e H e' H'} : x.op ≠ .bad → goes x.guard e = false → Trace P d l (updO e x.dst undefA) H e' H' → Trace P d (x :: l) e H e' H'

theorem range_cons {i n : Nat} (h : i < n) : List.range' i (n - i) = i :: List.range' (i + 1) (n - (i + 1)) := by
  rw [show n - i = (n - (i + 1)) + 1 by omega]
  rfl

/-- In the text's order. -/
theorem trace_text {N : Nat} {ops : Array Oper} {d : Bool} {l : List AInstr} {e e' : Env} {H H' : Heap} (ht : Trace P d l e H e' H') :
    ∀ (i : Nat), l = (ops.toList.drop i).map (cmpInstr P N ops) → ∀ (B : Nat) (m : LMap) (w : World) (a : Act) (Q : Exit → Act → World → Prop), Rel B m H w → EnvAll m (cellsIn w) e a → N ≤ a.tmps.size →
      (∀ m' w' a', St B H m w H' m' w' → EnvAll m' (cellsIn w') e' a' → a'.defers = a.defers → a'.tmps.size = a.tmps.size → Q .normal a' w') → wpOps P ops Q (List.range' i (ops.size - i)) a w := by
  induction ht with
  | nil =>
    intro i hl B m w a Q r he hN hQ
    have hi : ops.size ≤ i := by
      cases hd : ops.toList.drop i with
      | nil => simpa using hd
      | cons x xs => rw [hd] at hl; simp at hl
    rw [show ops.size - i = 0 by omega]
    exact hQ m w a (St.refl r) he rfl rfl
  | @go x l e H v H1 e' H' hg hs _ ih =>
    intro i hl B m w a Q r he hN hQ
    cases hd : ops.toList.drop i with
    | nil => rw [hd] at hl; simp at hl
    | cons o os =>
      have hi : i < ops.size := by
        have : (ops.toList.drop i).length ≠ 0 := by rw [hd]; simp
        simp at this; omega
      rw [hd] at hl
      simp only [List.map_cons, List.cons.injEq] at hl
      obtain ⟨hx, hl⟩ := hl
      have ho : ops[i]? = some o := by
        have : ops.toList[i]? = some o := by rw [List.getElem?_eq_getElem (by simpa using hi)]; rw [List.drop_eq_getElem_cons (by simpa using hi)] at hd; injection hd with hd1 hd2; rw [hd1]
        simpa using this
      have hos : os = ops.toList.drop (i + 1) := by
        rw [List.drop_eq_getElem_cons (by simpa using hi)] at hd; injection hd with hd1 hd2; exact hd2.symm
      subst hx
      have hdst := (cmpInstr_ok rfl hs.notBad).1
      rw [range_cons hi]
      refine wpOps_at ho (.inl (step_go r hs (he.on _) hg fun m' w' u hst hv => ?_))
      have he2 : EnvAll m' (cellsIn w') (updO e (cmpInstr P N ops o).dst v) (a.put o.dst u) := by
        rw [cmpInstr_dst]
        exact (he.mono (hst.mle r)).put hN hdst hv
      have hp := put_tmps a o.dst u
      exact ih (i + 1) (by rw [hl, hos]) B m' w' _ Q hst.rel he2 (by rw [hp.2]; exact hN) fun m2 w2 a2 s2 e2 d2 z2 => hQ m2 w2 a2 (hst.trans r s2) e2 (by rw [d2, hp.1]) (by rw [z2, hp.2])
  | @off x l e H e' H' hnb hg _ ih =>
    intro i hl B m w a Q r he hN hQ
    cases hd : ops.toList.drop i with
    | nil => rw [hd] at hl; simp at hl
    | cons o os =>
      have hi : i < ops.size := by
        have : (ops.toList.drop i).length ≠ 0 := by rw [hd]; simp
        simp at this; omega
      rw [hd] at hl
      simp only [List.map_cons, List.cons.injEq] at hl
      obtain ⟨hx, hl⟩ := hl
      have ho : ops[i]? = some o := by
        have : ops.toList[i]? = some o := by rw [List.getElem?_eq_getElem (by simpa using hi)]; rw [List.drop_eq_getElem_cons (by simpa using hi)] at hd; injection hd with hd1 hd2; rw [hd1]
        simpa using this
      have hos : os = ops.toList.drop (i + 1) := by
        rw [List.drop_eq_getElem_cons (by simpa using hi)] at hd; injection hd with hd1 hd2; exact hd2.symm
      subst hx
      obtain ⟨hdst, _, _, hgd⟩ := cmpInstr_ok (P := P) (N := N) (ops := ops) (o := o) rfl hnb
      have hguard := guard_sound (m := m) (σ := cellsIn w) hgd (e := e) (a := a) (fun t b ht => he t)
      rw [range_cons hi]
      refine wpOps_at ho (.inr ⟨by rw [hguard]; exact hg, ?_⟩)
      have he2 : EnvAll m (cellsIn w) (updO e (cmpInstr P N ops o).dst undefA) (a.put o.dst undef) := by
        rw [cmpInstr_dst]
        exact he.put hN hdst VRA.undef
      have hp := put_tmps a o.dst undef
      exact ih (i + 1) (by rw [hl, hos]) B m w _ Q r he2 (by rw [hp.2]; exact hN) fun m2 w2 a2 s2 e2 d2 z2 => hQ m2 w2 a2 s2 e2 (by rw [d2, hp.1]) (by rw [z2, hp.2])

end Go.Proofs.Ytfbkolkkpkonfaa.Eng
