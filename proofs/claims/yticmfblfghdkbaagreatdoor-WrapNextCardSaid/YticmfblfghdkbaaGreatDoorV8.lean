/- Parts of this claim's proof, joined. No statement of the seat is proved here. -/
import Derived.Test.YticmfblfghdkbaaGreatDoorV7
set_option linter.unusedVariables false
set_option linter.unusedSimpArgs false
namespace Go.Proofs.YticmfblfghdkbaaGreatDoor.Eng
open Go
variable {P : Program}
def AExit.go : AExit → Exit
 | .normal => .normal
 | .exit id => .exit id
 | .ret => .ret
def InLoop (P : Program) (c : Code) (Q : Exit → Act → World → Prop) (a : Act) (w : World) : Prop :=
 ∀ (b : Frame) (k : List Item) (cs : List Frame),∃ e a' w',Q e a' w' ∧ Arrives P (lone (b.at a (.code c :: .inLoop c :: k)) cs w) b k cs e a' w'
theorem InLoop.loop {c : Code} {Q : Exit → Act → World → Prop} {a : Act} {w : World} (h : InLoop P c Q a w) : (Code.loop c).wp P Q a w := fun b k cs => by
 obtain ⟨e,a',w',hq,harr⟩ := h b k cs
 exact ⟨e,a',w',hq,.of_steps (.one step_loop) harr⟩
theorem InLoop.step {c : Code} {Q : Exit → Act → World → Prop} {a : Act} {w : World} (h : c.wp P (Exit.then (InLoop P c Q) Q) a w) : InLoop P c Q a w := fun b k cs => by
 obtain ⟨e,a₁,w₁,hq,harr⟩ := h b (.inLoop c :: k) cs
 cases e with
 | normal =>
  obtain ⟨e₂,a₂,w₂,hq₂,harr₂⟩ := hq b k cs
  exact ⟨e₂,a₂,w₂,hq₂,.of_steps (Steps.trans harr (.one step_inLoop)) harr₂⟩
 | exit id => exact ⟨_,a₁,w₁,hq,.pass (x := .inLoop c) rfl (fun _ _ => .inl (by simp)) harr⟩
 | goto l => exact ⟨_,a₁,w₁,hq,.pass (x := .inLoop c) rfl (fun _ _ => .inl (by simp)) harr⟩
 | ret => exact ⟨_,a₁,w₁,hq,.pass (x := .inLoop c) rfl (fun _ _ => .inl (by simp)) harr⟩
 | panic ch => exact ⟨_,a₁,w₁,hq,.pass (x := .inLoop c) rfl (fun _ _ => .inl (by simp)) harr⟩
 | outgrown => exact ⟨_,a₁,w₁,hq,.pass (x := .inLoop c) rfl (fun _ _ => .inl (by simp)) harr⟩
def Zbbq (P : Program) (c : ACode) (e : Env) (H : Heap) (x : AExit) (e' : Env) (H' : Heap) : Prop :=
 ∀ (N : Nat) (code : Code),Zbz P N code = c.erase → ∀ (B : Nat) (m : LMap) (w : World) (a : Act) (Q : Exit → Act → World → Prop),Rel B m H w → EnvAll m (Zj w) e a → N ≤ a.tmps.size →
  (∀ m' w' a',St B H m w H' m' w' → EnvAll m' (Zj w') e' a' → a'.defers = a.defers → a'.tmps.size = a.tmps.size → Q x.go a' w') →
  code.wp P Q a w ∧ (∀ body,code = .loop body → InLoop P body Q a w)
def Zbi7 (P : Program) : J → Prop
 | .ops d l e H e' H' => Zmq P d (l.map AInstr.erase) e H e' H'
 | .code c e H x e' H' => Zbbq P c e H x e' H'
 | .call f args H v H' => CallSound P f args H v H'
structure GOk (P : Program) (G : Prog) : Prop where
 fn : ∀ f a,G.fn f = some a → Zm P f = some a.erase
 prim : ∀ f args H v H',G.prim f args H v H' → CallSound P f args H v H'
 mixed : P.follows .mixedOrders = true
theorem Z8y {N : Nat} {code : Code} {l : List AInstr} {d : Bool} (h : Zbz P N code = .region l d) : ∃ id ops,code = .region id ops d ∧ l = ops.toList.map (Z6 P N ops) ∧ (d = true → Ztd ops l = true) := by
 cases code <;> simp only [Zbz] at h <;> try (cases h; done)
 case region id ops draw =>
  unfold Zfm at h
  simp only at h
  split at h
  ·rename_i hd
   split at h
   ·rename_i hk
    injection h with h1 h2
    subst h1; subst h2
    exact ⟨id,ops,by rw [hd],rfl,fun _ => hk⟩
   ·cases h
  ·rename_i hd
   injection h with h1 h2
   subst h1; subst h2
   exact ⟨id,ops,by simp at hd; rw [hd],rfl,fun h => by cases h⟩
 case cond c x y =>
  split at h <;> cases h
theorem Z7q {N : Nat} {code : Code} {x y : ACode} (h : Zbz P N code = .seq x y) : ∃ a b,code = .seq a b ∧ Zbz P N a = x ∧ Zbz P N b = y := by
 cases code <;> simp only [Zbz] at h <;> try (cases h; done)
 case seq a b => injection h with h1 h2; exact ⟨a,b,rfl,h1,h2⟩
 case region id ops draw => unfold Zfm at h; simp only at h; split at h <;> (try split at h) <;> cases h
 case cond c x y => split at h <;> cases h
theorem Zbet {N : Nat} {code : Code} {c : Opd} {x y : ACode} (h : Zbz P N code = .cond c x y) : ∃ o a b,code = .cond o a b ∧ Zx o = some c ∧ Zbz P N a = x ∧ Zbz P N b = y := by
 cases code <;> simp only [Zbz] at h <;> try (cases h; done)
 case region id ops draw => unfold Zfm at h; simp only at h; split at h <;> (try split at h) <;> cases h
 case cond o a b =>
  split at h
  ·rename_i ho
   injection h with h0 h1 h2
   subst h0
   exact ⟨o,a,b,rfl,ho,h1,h2⟩
  ·cases h
theorem Z0r {N : Nat} {code : Code} {id : Nat} {x : ACode} (h : Zbz P N code = .block id x) : ∃ a,code = .block id a ∧ Zbz P N a = x := by
 cases code <;> simp only [Zbz] at h <;> try (cases h; done)
 case region id ops draw => unfold Zfm at h; simp only at h; split at h <;> (try split at h) <;> cases h
 case cond o a b => split at h <;> cases h
 case block id a => injection h with h1 h2; subst h1; exact ⟨a,rfl,h2⟩
theorem Z32 {N : Nat} {code : Code} {x : ACode} (h : Zbz P N code = .loop x) : ∃ a,code = .loop a ∧ Zbz P N a = x := by
 cases code <;> simp only [Zbz] at h <;> try (cases h; done)
 case region id ops draw => unfold Zfm at h; simp only at h; split at h <;> (try split at h) <;> cases h
 case cond o a b => split at h <;> cases h
 case loop a => injection h with h; exact ⟨a,rfl,h⟩
theorem Zbfu {N : Nat} {code : Code} (h : Zbz P N code = .skip) : code = .skip := by
 cases code <;> simp only [Zbz] at h <;> try (cases h; done)
 case skip => rfl
 case region id ops draw => unfold Zfm at h; simp only at h; split at h <;> (try split at h) <;> cases h
 case cond o a b => split at h <;> cases h
theorem Zbdx {N : Nat} {code : Code} {id : Nat} (h : Zbz P N code = .exit id) : code = .exit id := by
 cases code <;> simp only [Zbz] at h <;> try (cases h; done)
 case region id ops draw => unfold Zfm at h; simp only at h; split at h <;> (try split at h) <;> cases h
 case cond o a b => split at h <;> cases h
 case exit id => injection h with h; subst h; rfl
theorem Zbhk {N : Nat} {code : Code} (h : Zbz P N code = .ret) : code = .ret := by
 cases code <;> simp only [Zbz] at h <;> try (cases h; done)
 case region id ops draw => unfold Zfm at h; simp only at h; split at h <;> (try split at h) <;> cases h
 case cond o a b => split at h <;> cases h
 case ret => rfl
def Z2v (tmps : Array Value) : ResultVar → Sem Value
 | .tmp t => pure (tmps.getD t undef)
 | .cell a t => do loadVar t (← asAddr (tmps.getD a undef))
theorem Z8a (fn : Func) (tmps : Array Value) : results fn tmps = (do let vs ← fn.results.mapM (Z2v tmps); pure (if h : vs.size = 1 then vs[0] else .tuple vs)) := by
 have : (fun | .tmp t => pure (tmps.getD t undef) | .cell a t => do loadVar t (← asAddr (tmps.getD a undef)) : ResultVar → Sem Value) = Z2v tmps := by
  funext x; cases x <;> rfl
 rw [← this]; rfl
theorem Z94 {B : Nat} {m : LMap} {H : Heap} {w : World} (r : Rel B m H w) {e : Env} {a : Act} (he : EnvAll m (Zj w) e a) {x : ResultVar} {rs : List ARes} {l : List ResultVar} (hx : Zip P (x :: l) = some rs) :
  ∃ y rest,rs = y :: rest ∧ Zip P l = some rest ∧ ∀ v,Zeo e H y = some v → ∃ u,(Z2v a.tmps x).run P w = .ok u w ∧ VRA m (Zj w) v u := by
 cases x with
 | tmp t =>
  simp only [Zip] at hx
  split at hx
  ·rename_i rest' hr
   injection hx with hx
   refine ⟨_,_,hx.symm,hr,fun v hv => ?_⟩
   simp only [Zeo,Option.some.injEq] at hv
   subst hv
   exact ⟨_,rfl,he t⟩
  ·cases hx
 | cell c t =>
  simp only [Zip] at hx
  split at hx
  ·rename_i g n rest' hg hn hr
   split at hx
   ·injection hx with hx
    refine ⟨_,_,hx.symm,hr,fun v hv => ?_⟩
    simp only [Zeo,ev,Opd.ev] at hv
    generalize hec : e c = ec at hv
    have hc := he c
    rw [hec] at hc
    split at hv <;> try (cases hv; done)
    rename_i v0 H0 hv0
    injection hv with hv; subst hv
    have got : ∃ u,(Instr.loadAt t (a.tmps.getD c undef)).run P w = .ok u w ∧ VRA m (Zj w) v0 u := by
     split at hv0 <;> try (cases hv0; done)
     ·rename_i b i f
      split at hv0 <;> try (cases hv0; done)
      rename_i q hq
      split at hv0 <;> try (cases hv0; done)
      rename_i hf
      split at hv0 <;> try (cases hv0; done)
      rename_i v1 hv1
      injection hv0 with hv0
      injection hv0 with h1 h2
      subst h1
      exact Zzf r hg hn hc hq hf hv1
     ·rename_i q f
      split at hv0 <;> try (cases hv0; done)
      rename_i hf
      split at hv0 <;> try (cases hv0; done)
      rename_i v1 hv1
      injection hv0 with hv0
      injection hv0 with h1 h2
      subst h1
      exact Zwo hg hn hc.inv_c hf hv1
    have isPtr : ∃ A,a.tmps.getD c undef = .pointer (some A) := by
     have hva : ∃ va,va = a.tmps.getD c undef := ⟨_,rfl⟩
     obtain ⟨va,hva⟩ := hva
     rw [← hva] at hc ⊢
     clear hva
     split at hv0 <;> try (cases hv0; done)
     ·cases hc with
      | c hc => cases hc; exact ⟨_,rfl⟩
     ·cases hc with
      | c hc => cases hc; exact ⟨_,rfl⟩
    obtain ⟨u,k1,k2⟩ := got
    refine ⟨u,?_,k2⟩
    obtain ⟨A,hA⟩ := isPtr
    show (do loadVar t (← asAddr (a.tmps.getD c undef)) : Sem Value).run P w = _
    rw [hA] at k1 ⊢
    simp only [Instr.loadAt,Instr.sureAddr,asAddr] at k1 ⊢
    exact k1
   ·cases hx
  ·cases hx
theorem Zxk {B : Nat} {m : LMap} {H : Heap} {w : World} (r : Rel B m H w) {e : Env} {a : Act} (he : EnvAll m (Zj w) e a) : ∀ {l : List ResultVar} {rs : List ARes},Zip P l = some rs → ∀ {vs : List AVal},rs.mapM (Zeo e H) = some vs →
  ∃ us,(l.mapM (Z2v a.tmps)).run P w = .ok us w ∧ All2 (VRA m (Zj w)) vs us
 | [],rs,h,vs,hv => by
  simp only [Zip,Option.some.injEq] at h
  subst h
  simp at hv
  subst hv
  exact ⟨[],by simp,.nil⟩
 | x :: l,rs,h,vs,hv => by
  obtain ⟨y,rest,rfl,hr,h1⟩ := Z94 r he h
  simp only [List.mapM_cons,Option.bind_eq_bind,Option.pure_def] at hv
  cases hy : Zeo e H y with
  | none => simp [hy] at hv
  | some v =>
   cases hm : rest.mapM (Zeo e H) with
   | none => simp [hy,hm] at hv
   | some vs' =>
    simp [hy,hm] at hv
    subst hv
    obtain ⟨u,k1,k2⟩ := h1 v hy
    obtain ⟨us,k3,k4⟩ := Zxk r he hr hm
    refine ⟨u :: us,?_,.cons k2 k4⟩
    simp [List.mapM_cons,k1,k3]
theorem Z2n {B : Nat} {m : LMap} {H : Heap} {w : World} (r : Rel B m H w) {e : Env} {a : Act} (he : EnvAll m (Zj w) e a) {fn : Func} {rs : List ARes} (h : Zip P fn.results.toList = some rs) {v : AVal} (hv : Zg4 e H rs = some v) :
  ∃ u,(results fn a.tmps).run P w = .ok u w ∧ VRA m (Zj w) v u := by
 have hall : ∃ vs,rs.mapM (Zeo e H) = some vs ∧ (v = .tup vs ∧ vs.length ≠ 1 ∨ vs = [v]) := by
  unfold Zg4 at hv
  split at hv
  ·rename_i x
   exact ⟨[v],by simp [hv],.inr rfl⟩
  ·rename_i hne
   split at hv
   ·rename_i vs hvs
    injection hv with hv
    subst hv
    refine ⟨vs,hvs,.inl ⟨rfl,fun hl => ?_⟩⟩
    have hlen : rs.length = vs.length := by
     clear h he hne hl
     induction rs generalizing vs with
     | nil => simp at hvs; subst hvs; rfl
     | cons y rest ih =>
      simp only [List.mapM_cons,Option.bind_eq_bind,Option.pure_def] at hvs
      cases hy : Zeo e H y with
      | none => simp [hy] at hvs
      | some v =>
       cases hm : rest.mapM (Zeo e H) with
       | none => simp [hy,hm] at hvs
       | some vs' =>
        simp [hy,hm] at hvs
        subst hvs
        simp [ih vs' hm]
    rw [hl] at hlen
    cases rs with
    | nil => simp at hlen
    | cons x t => cases t with
     | nil => exact hne x rfl
     | cons _ _ => simp at hlen
   ·cases hv
 obtain ⟨vs,hvs,hv2⟩ := hall
 obtain ⟨us,k1,k2⟩ := Zxk r he h hvs
 have hrun : (results fn a.tmps).run P w = .ok (if h : us.toArray.size = 1 then us.toArray[0] else .tuple us.toArray) w := by
  rw [Z8a]
  simp [Array.mapM_eq_mapM_toList,k1]
 refine ⟨_,hrun,?_⟩
 have hl := k2.length
 rcases hv2 with ⟨rfl,hne⟩ | rfl
 ·rw [dif_neg (by simpa [← hl] using hne)]
  refine .tup (by simpa using hl) fun i x u hx hu => ?_
  obtain ⟨u',hu',hr⟩ := k2.get hx
  simp at hu
  rw [hu] at hu'
  injection hu' with hu'
  subst hu'
  exact hr
 ·obtain ⟨u,rfl,hu⟩ := k2.inv_single
  simpa using hu
theorem Z25 {x : AExit} (hx : x ≠ .normal) {K : Act → World → Prop} {Q : Exit → Act → World → Prop} {a : Act} {w : World} (h : Q x.go a w) : Exit.then K Q x.go a w := by
 cases x with
 | normal => exact absurd rfl hx
 | exit => exact h
 | ret => exact h
theorem VRA.empty0 {m : LMap} {σ : Mem} {y : Cell} {v : Value} {sz : Nat} (h : VRA m σ (.c y) v) (h1 : y = .nilS ∨ y = .zer sz) : VRA m σ (.c (.lst sz [])) v := by
 rcases h1 with rfl | rfl
 ·cases h with | c h => cases h; exact .c .lstN
 ·cases h with | c h => exact .c (Zj4 rfl h)
theorem Zbky {G : Prog} (hG : GOk P G) {j : J} (h : Ev G j) : Zbi7 P j := by
 induction h with
 | nil => exact .nil
 | op hg _ hev _ ih => exact .go hg (.ev hev) ih
 | opF hg _ hev _ ih =>
  obtain ⟨v0,E,h1,h2⟩ := Zbds hev
  exact .go hg (.evF h1 h2 rfl) ih
 | @fz t c e H x e' H' b k _ hk ho hl _ ih =>
  intro N code hc B m w a Q r he hN hQ
  have hkill : H.kill b = H.set b { k with live := false } := by simp [Heap.kill,hk]
  rw [hkill] at ih
  cases hm : m b with
  | some L =>
   have s := St.freeze r hm hk ho hl
   exact ih N code hc B _ w a Q s.rel (fun t => (he t).frz r hm hk hl) hN fun m' w' a' s' e2 d2 z2 => hQ m' w' a' (s.trans r s') e2 d2 z2
  | none =>
   have s := St.freeze0 r hk
   exact ih N code hc B _ w a Q s.rel (fun t => (he t).frz0 hm) hN fun m' w' a' s' e2 d2 z2 => hQ m' w' a' (s.trans r s') e2 d2 z2
 | @fzH t c e H x e' H' b k _ hk ho hl _ ih =>
  intro N code hc B m w a Q r he hN hQ
  cases hm : m b with
  | some L =>
   have s := St.freezeH r hm hk ho hl
   exact ih N code hc B _ w a Q s.rel (fun t => (he t).frz r hm hk hl) hN fun m' w' a' s' e2 d2 z2 => hQ m' w' a' (s.trans r s') e2 d2 z2
  | none =>
   have s := St.freezeH0 r hm hk
   exact ih N code hc B _ w a Q s.rel (fun t => (he t).frz0 hm) hN fun m' w' a' s' e2 d2 z2 => hQ m' w' a' (s.trans r s') e2 d2 z2
 | @fz0 t c e H x e' H' y z hy hz _ ih =>
  intro N code hc B m w a Q r he hN hQ
  refine ih N code hc B m w a Q r (fun s => ?_) hN hQ
  unfold upd
  split
  ·rename_i hs
   subst hs
   have h2 := he s
   rw [hy] at h2
   rcases hz with rfl | ⟨sz,rfl,h1⟩
   ·exact h2
   ·exact h2.empty0 h1
  ·exact he s
 | off hb hg _ ih => exact .off (by intro h; simp only [AInstr.erase] at h; rw [h] at hb; cases hb) hg ih
 | opCall hg hop hfo _ hpre _ ihc ih => exact .go hg (.call hop hfo ihc hpre) ih
 | skip =>
  intro N code hc B m w a Q r he hN hQ
  have := Zbfu hc; subst this
  exact ⟨wp_skip (hQ m w a (St.refl r) he rfl rfl),fun _ h => by cases h⟩
 | @region l d e H e' H' _ ih =>
  intro N code hc B m w a Q r he hN hQ
  obtain ⟨id,ops,rfl,hl,hd⟩ := Z8y hc
  refine ⟨?_,fun _ h => by cases h⟩
  cases d with
  | false =>
   refine wp_region ?_
   have := Z7y ih 0 (by simpa using hl) B m w a Q r he hN hQ
   rw [Nat.sub_zero] at this
   rw [List.range_eq_range']
   exact this
  | true =>
   refine wp_region_any hG.mixed ?_
   have s0 : St B H m w H m w.drew := St.drew r
   refine Z92 (m0 := m) (w0 := w.drew) ih hl (hd rfl) s0.rel he hN fun m' w' a' hst => hQ m' w' a' (s0.trans r hst)
 | @seq x y e H e1 H1 ex e' H' _ _ ih1 ih2 =>
  intro N code hc B m w a Q r he hN hQ
  obtain ⟨c1,c2,rfl,h1,h2⟩ := Z7q hc
  refine ⟨wp_seq (ih1 N c1 h1 B m w a _ r he hN fun m1 w1 a1 s1 e1 d1 z1 => ?_).1,fun _ h => by cases h⟩
  exact (ih2 N c2 h2 B m1 w1 a1 Q s1.rel e1 (by rw [z1]; exact hN) fun m2 w2 a2 s2 e2 d2 z2 => hQ m2 w2 a2 (s1.trans r s2) e2 (d2.trans d1) (z2.trans z1)).1
 | @seqOut x y e H ex e' H' hx _ ih =>
  intro N code hc B m w a Q r he hN hQ
  obtain ⟨c1,c2,rfl,h1,h2⟩ := Z7q hc
  exact ⟨wp_seq (ih N c1 h1 B m w a _ r he hN fun m1 w1 a1 s1 e1 d1 z1 => Z25 hx (hQ m1 w1 a1 s1 e1 d1 z1)).1,fun _ h => by cases h⟩
 | @cond c x y t e H ex e' H' hcv _ ih =>
  intro N code hc B m w a Q r he hN hQ
  obtain ⟨o,c1,c2,rfl,ho,h1,h2⟩ := Zbet hc
  have hv := Z9 (m := m) (σ := Zj w) ho (he.on _) hcv
  refine ⟨wp_cond hv.inv_bool ?_,fun _ h => by cases h⟩
  cases t with
  | true => exact (ih N c1 (by simpa using h1) B m w a Q r he hN hQ).1
  | false => exact (ih N c2 (by simpa using h2) B m w a Q r he hN hQ).1
 | @block id x e H ex e' H' _ hne ih =>
  intro N code hc B m w a Q r he hN hQ
  obtain ⟨c1,rfl,h1⟩ := Z0r hc
  refine ⟨wp_block (ih N c1 h1 B m w a _ r he hN fun m1 w1 a1 s1 e1 d1 z1 => ?_).1,fun _ h => by cases h⟩
  have := hQ m1 w1 a1 s1 e1 d1 z1
  cases ex with
  | normal => exact this
  | ret => exact this
  | exit id' =>
   simp only [AExit.go,Exit.inBlock]
   rw [if_neg (by intro h; subst h; exact hne rfl)]
   exact this
 | @blockExit id x e H e' H' _ ih =>
  intro N code hc B m w a Q r he hN hQ
  obtain ⟨c1,rfl,h1⟩ := Z0r hc
  refine ⟨wp_block (ih N c1 h1 B m w a _ r he hN fun m1 w1 a1 s1 e1 d1 z1 => ?_).1,fun _ h => by cases h⟩
  simp only [AExit.go,Exit.inBlock,if_true]
  exact hQ m1 w1 a1 s1 e1 d1 z1
 | @loop x e H e1 H1 ex e' H' _ _ ih1 ih2 =>
  intro N code hc B m w a Q r he hN hQ
  obtain ⟨c1,rfl,h1⟩ := Z32 hc
  have hin : InLoop P c1 Q a w := by
   refine InLoop.step (ih1 N c1 h1 B m w a _ r he hN fun m1 w1 a1 s1 e1 d1 z1 => ?_).1
   exact (ih2 N (.loop c1) hc B m1 w1 a1 Q s1.rel e1 (by rw [z1]; exact hN) fun m2 w2 a2 s2 e2 d2 z2 => hQ m2 w2 a2 (s1.trans r s2) e2 (d2.trans d1) (z2.trans z1)).2 c1 rfl
  exact ⟨hin.loop,fun body hb => by injection hb with hb; subst hb; exact hin⟩
 | @loopOut x e H ex e' H' hx _ ih =>
  intro N code hc B m w a Q r he hN hQ
  obtain ⟨c1,rfl,h1⟩ := Z32 hc
  have hin : InLoop P c1 Q a w := by
   refine InLoop.step (ih N c1 h1 B m w a _ r he hN fun m1 w1 a1 s1 e1 d1 z1 => Z25 hx (hQ m1 w1 a1 s1 e1 d1 z1)).1
  exact ⟨hin.loop,fun body hb => by injection hb with hb; subst hb; exact hin⟩
 | @exit id e H =>
  intro N code hc B m w a Q r he hN hQ
  have := Zbdx hc; subst this
  exact ⟨wp_exit (hQ m w a (St.refl r) he rfl rfl),fun _ h => by cases h⟩
 | ret =>
  intro N code hc B m w a Q r he hN hQ
  have := Zbhk hc; subst this
  exact ⟨wp_ret (hQ m w a (St.refl r) he rfl rfl),fun _ h => by cases h⟩
 | @call f fn args H x e' H' v hf _ hx hv ih =>
  have hc := hG.fn f fn hf
  unfold Zm at hc
  split at hc <;> try (cases hc; done)
  rename_i gf hgf
  split at hc <;> try (cases hc; done)
  rename_i c rs hbody hrs
  split at hc <;> try (cases hc; done)
  rename_i hname
  injection hc with hc
  obtain ⟨fres,fbody⟩ := fn
  simp only [AFun.erase,AFun.mk.injEq] at hc
  obtain ⟨hres,hcode⟩ := hc
  subst hres
  refine ⟨⟨gf,hgf,by rw [hbody]; rfl,by simpa using hname⟩,fun B m w vs r hargs => ?_⟩
  refine calls_of_wp hgf hbody ?_
  have he : EnvAll m (Zj w) (Zc5 args) { tmps := vs ++ Array.replicate (gf.ntmps - vs.size) undef,defers := [] } := fun t => by
   have hl := hargs.length
   simp only [Zc5,List.getD_eq_getElem?_getD,Array.getD_eq_getD_getElem?]
   cases hx : args[t]? with
   | some x =>
    obtain ⟨u,hu,hr⟩ := hargs.get hx
    have ht : t < vs.size := by
     have := (List.getElem?_eq_some_iff.1 hu).1
     simpa using this
    rw [Array.getElem?_append_left ht]
    simp only [Array.getElem?_toList] at hu
    rw [hu]
    exact hr
   | none =>
    have ht : vs.size ≤ t := by
     have := List.getElem?_eq_none_iff.1 hx
     have : args.length = vs.size := by simpa using hl
     omega
    rw [Array.getElem?_append_right ht]
    have : ((Array.replicate (gf.ntmps - vs.size) undef)[t - vs.size]?).getD undef = undef := by
     by_cases h : t - vs.size < gf.ntmps - vs.size <;> simp [h]
    rw [this]
    exact VRA.undef
  refine (ih gf.ntmps c hcode B m w _ _ r he (by simp; omega) fun m' w' a' hst he' hd' _ => ?_).1
  obtain ⟨u,k1,k2⟩ := Z2n hst.rel he' hrs hv
  have : a'.defers = [] ∧ ∃ v',(results gf a'.tmps).run P w' = .ok v' w' ∧ (∃ u m'',Ending.returned v' = .returned u ∧ St B H m w H' m'' w' ∧ VRA m'' (Zj w') v u) :=
   ⟨hd',u,k1,u,m',rfl,hst,k2⟩
  rcases hx with rfl | rfl
  ·exact this
  ·exact this
 | prim h => exact hG.prim _ _ _ _ _ h
end Go.Proofs.YticmfblfghdkbaaGreatDoor.Eng
namespace Go.Proofs.YticmfblfghdkbaaGreatDoor.Eng
open Go
variable {G : Prog}
inductive Itm where
 | code (c : ACode)
 | blk (id : Nat)
 | loop (c : ACode)
structure Post where
 rs : List ARes
 R : AVal → Heap → Prop
def Post.fin (p : Post) (e : Env) (H : Heap) : Prop := ∃ v,Zg4 e H p.rs = some v ∧ p.R v H
def Zdg (G : Prog) (p : Post) : List Itm → AExit → Env → Heap → Prop
 | [],x,e,H => (x = .normal ∨ x = .ret) ∧ p.fin e H
 | .code c :: k,.normal,e,H => ∃ x' e' H',Ev G (.code c e H x' e' H') ∧ Zdg G p k x' e' H'
 | .blk id :: k,.exit id',e,H => if id' = id then Zdg G p k .normal e H else Zdg G p k (.exit id') e H
 | .loop c :: k,.normal,e,H => ∃ x' e' H',Ev G (.code (.loop c) e H x' e' H') ∧ Zdg G p k x' e' H'
 | _ :: k,x,e,H => Zdg G p k x e H
def Run (G : Prog) (p : Post) (k : List Itm) (e : Env) (H : Heap) : Prop := Zdg G p k .normal e H
def Z9h (G : Prog) (f : Nat) (args : List AVal) (H : Heap) (R : AVal → Heap → Prop) : Prop := ∃ v H',Ev G (.call f args H v H') ∧ R v H'
def WL (G : Prog) (p : Post) (k : List Itm) (d : Bool) (l : List AInstr) (e : Env) (H : Heap) : Prop := ∃ e' H',Ev G (.ops d l e H e' H') ∧ Run G p k e' H'
def Zbg (G : Prog) (p : Post) (k : List Itm) (d : Bool) (r : Option (AVal × Heap)) (dst : Option Nat) (l : List AInstr) (e : Env) : Prop := ∃ v H1,r = some (v,H1) ∧ WL G p k d l (updO e dst v) H1
def Zjt (G : Prog) (p : Post) (k : List Itm) (d : Bool) (r : Option AVal) (dst : Option Nat) (l : List AInstr) (e : Env) (H : Heap) : Prop := ∃ v,r = some v ∧ WL G p k d l (updO e dst v) H
def Zrl (G : Prog) (p : Post) (k : List Itm) (d : Bool) (fo : AVal) (args : List AVal) (dst : Option Nat) (l : List AInstr) (e : Env) (H : Heap) : Prop :=
 ∃ f caps v H1,fo = .c (.fn f caps) ∧ Ev G (.call f (args ++ caps.map .c) H v H1) ∧ (d = true → H <+: H1) ∧ WL G p k d l (updO e dst v) H1
def Zxs (G : Prog) (p : Post) (k : List Itm) (d : Bool) (fo : AVal) (args : List AVal) (dst : Option Nat) (l : List AInstr) (e : Env) (H : Heap) : Prop :=
 ∃ f caps v H1,fo = .c (.fn f caps) ∧ Ev G (.call f (args ++ caps.map .c) H v H1) ∧ WL G p k d l (updO e dst v) H1
def Zui (G : Prog) (p : Post) (k : List Itm) (v : AVal) (a b : ACode) (e : Env) (H : Heap) : Prop := ∃ t,v = .c (.bool t) ∧ Run G p (.code (if t then a else b) :: k) e H
variable {p : Post} {k : List Itm} {d : Bool} {e : Env} {H : Heap} {l : List AInstr} {dst : Option Nat}
theorem Zbil : Run G p [] e H = p.fin e H := by simp [Run,Zdg]
theorem Zls : ∀ {k : List Itm},Zdg G p k .ret e H = p.fin e H
 | [] => by simp [Zdg]
 | .code _ :: k => by simp only [Zdg]; exact Zls
 | .blk _ :: k => by simp only [Zdg]; exact Zls
 | .loop _ :: k => by simp only [Zdg]; exact Zls
def Zg5 (id : Nat) : List Itm → Option (List Itm)
 | [] => none
 | .blk i :: k => if id = i then some k else Zg5 id k
 | _ :: k => Zg5 id k
theorem Zbem (h : Run G p k e H) : Run G p (.code .skip :: k) e H := ⟨_,_,_,.skip,h⟩
theorem Zbhz {a b : ACode} (h : Run G p (.code a :: .code b :: k) e H) : Run G p (.code (.seq a b) :: k) e H := by
 obtain ⟨x,e1,H1,h1,h2⟩ := h
 cases x with
 | normal => obtain ⟨x,e2,H2,h3,h4⟩ := h2; exact ⟨x,e2,H2,.seq h1 h3,h4⟩
 | exit id => exact ⟨_,e1,H1,.seqOut (by simp) h1,h2⟩
 | ret => exact ⟨_,e1,H1,.seqOut (by simp) h1,h2⟩
theorem Z8h (h : WL G p k d l e H) : Run G p (.code (.region l d) :: k) e H := by
 obtain ⟨e1,H1,h1,h2⟩ := h
 exact ⟨_,e1,H1,.region h1,h2⟩
theorem Zbgc {c : Opd} {a b : ACode} (h : Zui G p k (c.ev e) a b e H) : Run G p (.code (.cond c a b) :: k) e H := by
 obtain ⟨t,ht,x,e1,H1,h1,h2⟩ := h
 exact ⟨x,e1,H1,.cond ht h1,h2⟩
theorem Zbcf {id : Nat} {a : ACode} (h : Run G p (.code a :: .blk id :: k) e H) : Run G p (.code (.block id a) :: k) e H := by
 obtain ⟨x,e1,H1,h1,h2⟩ := h
 cases x with
 | normal => exact ⟨_,e1,H1,.block h1 (by simp),by simpa [Zdg] using h2⟩
 | ret => exact ⟨_,e1,H1,.block h1 (by simp),by simpa [Zdg] using h2⟩
 | exit i =>
  simp only [Zdg] at h2
  split at h2
  ·rename_i hi; subst hi; exact ⟨_,e1,H1,.blockExit h1,h2⟩
  ·rename_i hi; exact ⟨_,e1,H1,.block h1 (by intro h; injection h with h; exact hi h),h2⟩
theorem Zbim (h : p.fin e H) : Run G p (.code .ret :: k) e H := ⟨_,_,_,.ret,by rw [Zls]; exact h⟩
theorem Zi {c : ACode} (h : Run G p (.code c :: .loop c :: k) e H) : Run G p (.loop c :: k) e H := by
 obtain ⟨x,e1,H1,h1,h2⟩ := h
 cases x with
 | normal => obtain ⟨x,e2,H2,h3,h4⟩ := h2; exact ⟨x,e2,H2,.loop h1 h3,h4⟩
 | exit id => exact ⟨_,e1,H1,.loopOut (by simp) h1,h2⟩
 | ret => exact ⟨_,e1,H1,.loopOut (by simp) h1,h2⟩
def fzW (G : Prog) (p : Post) (k : List Itm) (c : ACode) (o : Option Nat) (e : Env) (H : Heap) : Prop := ∃ b q,o = some b ∧ H[b]? = some q ∧ q.own = true ∧ q.live = true ∧ Run G p (.code c :: k) (Zyx b q e) (H.kill b)
theorem Z7d {t : Nat} {c : ACode} {sz : Nat} {y : Cell} (hy : e t = .c y) (hz : y = .nilS ∨ y = .zer sz) (h : Run G p (.code c :: k) (upd e t (.c (.lst sz []))) H) : Run G p (.code (.fz t c) :: k) e H := by
 obtain ⟨x,e1,H1,h5,h6⟩ := h
 exact ⟨x,e1,H1,.fz0 hy (.inr ⟨sz,rfl,hz⟩) h5,h6⟩
theorem Zxh {t : Nat} {c : ACode} (h : fzW G p k c (e t).blk e H) : Run G p (.code (.fz t c) :: k) e H := by
 obtain ⟨b,q,h1,h2,h3,h4,x,e1,H1,h5,h6⟩ := h
 exact ⟨x,e1,H1,.fz h1 h2 h3 h4 h5,h6⟩
theorem Zxu {t : Bool} {a b : ACode} : Zui G p k (.c (.bool t)) a b e H = Run G p (.code (if t then a else b) :: k) e H := by
 refine propext ⟨?_,fun h => ⟨t,rfl,h⟩⟩
 rintro ⟨t',ht,h⟩
 injection ht with ht; injection ht with ht; subst ht; exact h
theorem Zxt {a b : ACode} (h : Run G p (.code a :: k) e H) : Zui G p k (.c (.bool true)) a b e H := ⟨true,rfl,h⟩
theorem Zbi4 : WL G p k d [] e H = Run G p k e H := by
 refine propext ⟨?_,fun h => ⟨e,H,.nil,h⟩⟩
 rintro ⟨e',H',h1,h2⟩
 cases h1
 exact h2
def Z1 (G : Prog) (p : Post) (k : List Itm) (d : Bool) (fz : Bool) (o : AOp) (dst : Option Nat) (l : List AInstr) (e : Env) (H : Heap) : Prop :=
 match o with
 | .call (.k v) args => Zxs G p k d v (args.map (Opd.ev e)) dst l e H
 | .call fo args => Zrl G p k d (fo.ev e) (args.map (Opd.ev e)) dst l e H
 | o => match fz with
  | false => Zbg G p k d (ev o e H) dst l e
  | true => Zjt G p k d (evF o e H) dst l e H
theorem Zbku {o : AOp} {g : Option (Nat × Bool)} {fz : Bool} (hg : goes g e = true) (h : Z1 G p k d fz o dst l e H) : WL G p k d (⟨dst,o,g,fz⟩ :: l) e H := by
 have ofThen : fz = false → Zbg G p k d (ev o e H) dst l e → WL G p k d (⟨dst,o,g,fz⟩ :: l) e H := by
  rintro hz ⟨v,H1,h1,e',H',h2,h3⟩
  exact ⟨e',H',.op hg hz h1 h2,h3⟩
 have ofF : fz = true → Zjt G p k d (evF o e H) dst l e H → WL G p k d (⟨dst,o,g,fz⟩ :: l) e H := by
  rintro hz ⟨v,h1,e',H',h2,h3⟩
  exact ⟨e',H',.opF hg hz h1 h2,h3⟩
 cases o with
 | call fo args =>
  cases fo with
  | k v =>
   obtain ⟨f,caps,v,H1,hf,h1,e',H',h3,h4⟩ := h
   exact ⟨e',H',.opCall hg rfl hf h1 (fun _ hT => by cases hT) h3,h4⟩
  | _ =>
   obtain ⟨f,caps,v,H1,hf,h1,h2,e',H',h3,h4⟩ := h
   exact ⟨e',H',.opCall hg rfl hf h1 (fun hd _ => h2 hd) h3,h4⟩
 | _ =>
  cases fz
  ·exact ofThen rfl h
  ·exact ofF rfl h
theorem Zbjt {o : AOp} {g : Option (Nat × Bool)} {fz : Bool} (hb : o.isBad = false) (hg : goes g e = false) (h : WL G p k d l (updO e dst Zft) H) : WL G p k d (⟨dst,o,g,fz⟩ :: l) e H := by
 obtain ⟨e',H',h2,h3⟩ := h
 exact ⟨e',H',.off hb hg h2,h3⟩
def Zqa (G : Prog) (p : Post) (k : List Itm) (d : Bool) (g : Bool) (fz : Bool) (o : AOp) (dst : Option Nat) (l : List AInstr) (e : Env) (H : Heap) : Prop :=
 (g = true ∧ Z1 G p k d fz o dst l e H) ∨ (g = false ∧ o.isBad = false ∧ WL G p k d l (updO e dst Zft) H)
theorem Zbix {o : AOp} {g : Option (Nat × Bool)} {fz : Bool} (h : Zqa G p k d (goes g e) fz o dst l e H) : WL G p k d (⟨dst,o,g,fz⟩ :: l) e H := by
 rcases h with ⟨h1,h2⟩ | ⟨h1,h2,h3⟩
 ·exact Zbku h1 h2
 ·exact Zbjt h2 h1 h3
theorem Zbif {o : AOp} {g : Option (Nat × Bool)} {fz : Bool} : WL G p k d (⟨dst,o,g,fz⟩ :: l) e H = Zqa G p k d (goes g e) fz o dst l e H := by
 refine propext ⟨?_,Zbix⟩
 rintro ⟨e',H',h1,h2⟩
 cases h1 with
 | op hg hz hev ht =>
  refine .inl ⟨hg,?_⟩
  have : Zbg G p k d (ev o e H) dst l e := ⟨_,_,hev,_,_,ht,h2⟩
  simp only at hz
  subst hz
  cases o with
  | call => simp [ev] at hev
  | _ => exact this
 | opF hg hz hev ht =>
  refine .inl ⟨hg,?_⟩
  have : Zjt G p k d (evF o e H) dst l e H := ⟨_,hev,_,_,ht,h2⟩
  simp only at hz
  subst hz
  cases o with
  | call => simp [evF] at hev
  | _ => exact this
 | opCall hg hop hfo hc hp ht =>
  simp only at hop
  subst hop
  rename_i fo args f caps
  cases fo with
  | k v => exact .inl ⟨hg,_,_,_,_,hfo,hc,_,_,ht,h2⟩
  | _ => exact .inl ⟨hg,_,_,_,_,hfo,hc,fun hd => hp hd rfl,_,_,ht,h2⟩
 | off hb hg ht => exact .inr ⟨hg,hb,_,_,ht,h2⟩
theorem Z5z {o : AOp} {fz : Bool} : Zqa G p k d true fz o dst l e H = Z1 G p k d fz o dst l e H := by simp [Zqa]
theorem Z5a {o : AOp} {fz : Bool} : Zqa G p k d false fz o dst l e H = (o.isBad = false ∧ WL G p k d l (updO e dst Zft) H) := by simp [Zqa]
theorem Zbdk : goes none e = true := rfl
theorem Z7o {o : AOp} (h : ∀ f a,o ≠ .call f a) : Z1 G p k d false o dst l e H = Zbg G p k d (ev o e H) dst l e := by
 cases o with
 | call f a => exact absurd rfl (h f a)
 | _ => rfl
theorem Z8n {v : AVal} : Zjt G p k d (some v) dst l e H = WL G p k d l (updO e dst v) H := by
 refine propext ⟨?_,fun h => ⟨_,rfl,h⟩⟩
 rintro ⟨v',h1,h2⟩
 injection h1 with h1; subst h1; exact h2
theorem Zrf {v : AVal} {H1 : Heap} : Zbg G p k d (some (v,H1)) dst l e = WL G p k d l (updO e dst v) H1 := by
 refine propext ⟨?_,fun h => ⟨_,_,rfl,h⟩⟩
 rintro ⟨v',H',h1,h2⟩
 injection h1 with h1; injection h1 with h1 h3; subst h1; subst h3; exact h2
theorem Znz {r : Option (AVal × Heap)} {v : AVal} {H1 : Heap} (hr : r = some (v,H1)) (h : WL G p k d l (updO e dst v) H1) : Zbg G p k d r dst l e := ⟨_,_,hr,h⟩
theorem Zw9 {f : Nat} {caps : List Cell} {args : List AVal} (h : Z9h G f (args ++ caps.map .c) H (fun v H1 => (d = true → H <+: H1) ∧ WL G p k d l (updO e dst v) H1)) : Zrl G p k d (.c (.fn f caps)) args dst l e H := by
 obtain ⟨v,H1,h1,h2,h3⟩ := h
 exact ⟨f,caps,v,H1,rfl,h1,h2,h3⟩
theorem Zbbw {f : Nat} {caps : List Cell} {args : List AVal} (h : Z9h G f (args ++ caps.map .c) H (fun v H1 => WL G p k d l (updO e dst v) H1)) : Zxs G p k d (.c (.fn f caps)) args dst l e H := by
 obtain ⟨v,H1,h1,h3⟩ := h
 exact ⟨f,caps,v,H1,rfl,h1,h3⟩
section
variable {x y z : Opd} {xs : List Opd}
theorem Zbhl : Z1 G p k d false (.mv x) dst l e H = WL G p k d l (updO e dst (x.ev e)) H := by rw [Z7o (by intros; simp)]; exact Zrf
theorem Zbgh {cs : List Cell} : Z1 G p k d false (.new cs) dst l e H = WL G p k d l (updO e dst (.c (.ptr H.length 0 0))) (H ++ [{ sz := cs.length,rows := [cs] }]) := by rw [Z7o (by intros; simp)]; exact Zrf
theorem Zbcx {f : Nat} {fz : Bool} : Z1 G p k d fz (.call (.f f) xs) dst l e H = Zrl G p k d (Opd.ev e (.f f)) (xs.map (Opd.ev e)) dst l e H := rfl
theorem Z9t {t : Nat} {fz : Bool} : Z1 G p k d fz (.call (.t t) xs) dst l e H = Zrl G p k d (Opd.ev e (.t t)) (xs.map (Opd.ev e)) dst l e H := rfl
theorem Z9w {v : AVal} {fz : Bool} : Z1 G p k d fz (.call (.k v) xs) dst l e H = Zxs G p k d v (xs.map (Opd.ev e)) dst l e H := rfl
end
theorem Zri {f : Nat} {fn : AFun} {args : List AVal} {R : AVal → Heap → Prop} (hf : G.fn f = some fn) (h : Run G ⟨fn.res,R⟩ [.code fn.body] (Zc5 args) H) : Z9h G f args H R := by
 obtain ⟨x,e',H',h1,h2,v,h3,h4⟩ := h
 exact ⟨v,H',.call hf h1 h2 h3,h4⟩
end Go.Proofs.YticmfblfghdkbaaGreatDoor.Eng
namespace Go.Proofs.YticmfblfghdkbaaGreatDoor.Eng
open Go
variable {P : Program}
theorem Zn {n : Int} (h : -9223372036854775808 ≤ n ∧ n ≤ 9223372036854775807) : IntKind.wrap .i64 n = n := by
 unfold IntKind.wrap
 simp [IntKind.bits,IntKind.signed,IntKind.min,IntKind.max]
 omega
theorem Zbjm (e : Env) (d : Nat) (v : AVal) (t : Nat) : upd e d v t = if t = d then v else e t := rfl
theorem Zbcq (e : Env) (d : Nat) (v : AVal) : updO e (some d) v = upd e d v := rfl
theorem Zbax (e : Env) (v : AVal) : updO e none v = e := rfl
theorem Zbk4 (e : Env) (n : Nat) : Opd.ev e (.t n) = e n := rfl
theorem Zbk2 (e : Env) (v : AVal) : Opd.ev e (.k v) = v := rfl
theorem Zbk0 (e : Env) (f : Nat) : Opd.ev e (.f f) = .c (.fn f []) := rfl
def Z2x (v : AVal) (b : Bool) : Bool := match v with | .c (.bool b') => b' == b | _ => false
theorem Zbic (e : Env) (t : Nat) (b : Bool) : goes (some (t,b)) e = Z2x (e t) b := rfl
theorem Z9m (b : Bool) : Z2x (.c (.bool b)) true = b := by cases b <;> rfl
theorem Z6j (b : Bool) : Z2x (.c (.bool b)) false = !b := by cases b <;> rfl
theorem Z5y (b : Bool) : Z2x Zft b = false := rfl
theorem Zbjk : (true == true) = true := rfl
theorem Zbjo : (true == false) = false := rfl
theorem Zbkt : (false == true) = false := rfl
theorem Zbkj : (false == false) = true := rfl
abbrev VR0 := Option (AVal × Heap)
def Zca (H : Heap) (x : Option Cell) : VR0 := match x with | some c => some (.c c,H) | none => none
def vBin (op : BinOp) (x y : AVal) (H : Heap) : VR0 := match x,y with | .c x,.c y => Zca H (Zch op x y) | _,_ => none
section
variable {G : Prog} {p : Post} {k : List Itm} {d : Bool} {e : Env} {H : Heap} {l : List AInstr} {dst : Option Nat} {x y z : Opd}
theorem Zbfl {op : BinOp} : Z1 G p k d false (.bin op x y) dst l e H = Zbg G p k d (vBin op (x.ev e) (y.ev e) H) dst l e := rfl
end
section
variable {i : IntKind} {a b : Int} {H : Heap}
theorem Zbd6 : vBin .add (.c (.int i a)) (.c (.int i b)) H = some (.c (.int i (i.wrap (a + b))),H) := by simp [vBin,Zch,Zca]
theorem Zbgd : vBin .sub (.c (.int i a)) (.c (.int i b)) H = some (.c (.int i (i.wrap (a - b))),H) := by simp [vBin,Zch,Zca]
theorem Zbdv : vBin .mul (.c (.int i a)) (.c (.int i b)) H = some (.c (.int i (i.wrap (a * b))),H) := by simp [vBin,Zch,Zca]
theorem Zq2 : vBin .quo (.c (.int i a)) (.c (.int i b)) H = if b = 0 then none else some (.c (.int i (i.wrap (a.tdiv b))),H) := by
 simp only [vBin,Zch,if_true]; split <;> rfl
theorem Zdh : vBin .rem (.c (.int i a)) (.c (.int i b)) H = if b = 0 then none else some (.c (.int i (a.tmod b)),H) := by
 simp only [vBin,Zch,if_true]; split <;> rfl
theorem Zbdy : vBin .eql (.c (.int i a)) (.c (.int i b)) H = some (.c (.bool (decide (a = b))),H) := by simp [vBin,Zch,Zca]
theorem Zbfq : vBin .neq (.c (.int i a)) (.c (.int i b)) H = some (.c (.bool (!decide (a = b))),H) := by simp [vBin,Zch,Zca]
theorem Zbdu : vBin .lss (.c (.int i a)) (.c (.int i b)) H = some (.c (.bool (decide (a < b))),H) := by simp [vBin,Zch,Zca]
theorem Zbfb : vBin .leq (.c (.int i a)) (.c (.int i b)) H = some (.c (.bool (decide (a ≤ b))),H) := by simp [vBin,Zch,Zca]
theorem Zbfp : vBin .gtr (.c (.int i a)) (.c (.int i b)) H = some (.c (.bool (decide (b < a))),H) := by simp [vBin,Zch,Zca]
theorem Zbf3 : vBin .geq (.c (.int i a)) (.c (.int i b)) H = some (.c (.bool (decide (b ≤ a))),H) := by simp [vBin,Zch,Zca]
theorem Zgc {s t : ByteArray} (h : s.size + t.size ≤ 9223372036854775807) : vBin .add (.c (.str s)) (.c (.str t)) H = some (.c (.str (s ++ t)),H) := by simp [vBin,Zch,Zca,h]
theorem Zba8 {s t : ByteArray} : vBin .eql (.c (.str s)) (.c (.str t)) H = some (.c (.bool (decide (s = t))),H) := by simp [vBin,Zch,Zca]
theorem Zbce {s t : ByteArray} : vBin .neq (.c (.str s)) (.c (.str t)) H = some (.c (.bool (!decide (s = t))),H) := by simp [vBin,Zch,Zca]
theorem Zbak {s t : ByteArray} : vBin .lss (.c (.str s)) (.c (.str t)) H = some (.c (.bool (Op.bytesLess s.toList t.toList)),H) := by simp [vBin,Zch,Zca]
theorem Zbci {s t : ByteArray} : vBin .gtr (.c (.str s)) (.c (.str t)) H = some (.c (.bool (!(Op.bytesLess s.toList t.toList || decide (s = t)))),H) := by simp [vBin,Zch,Zca]
end
def Zym (neg : Bool) (x y : AVal) (H : Heap) : VR0 := match x,y with | .c (.bool x),.c (.bool y) => some (.c (.bool (neg != (x == y))),H) | _,_ => none
def vUn (op : UnOp) (x : AVal) (H : Heap) : VR0 := match x with | .c x => Zca H (evUn op x) | _ => none
def Zbgt (i : IntKind) (x : AVal) (H : Heap) : VR0 := match x with | .c (.int _ n) => some (.c (.int i (i.wrap n)),H) | _ => none
def Z97 (x : AVal) (H : Heap) : VR0 := match x with | .c (.str s) => some (.c (.str s),H) | _ => none
def vMkI (t : Nat) (x : AVal) (H : Heap) : VR0 := match x with | .c c => some (.c (.iface t false [c]),H) | .agg cs => some (.c (.iface t true cs),H) | _ => none
def vExt (x : AVal) (i : Nat) (H : Heap) : VR0 := match x with | .tup vs => (match vs[i]? with | some v => some (v,H) | none => none) | _ => none
def vCap (x : AVal) (H : Heap) : VR0 := match x with | .c .nilS => some (.c (.int .i64 0),H) | .c (.zer _) => some (.c (.int .i64 0),H) | .c (.slc _ _ _ _ true) => some (.c (.int .i64 0),H) | _ => none
def vS2b (x : AVal) (H : Heap) : VR0 := match x with | .c (.str s) => if s.size ≤ 140737488355328 then some (.c (.slc H.length 0 s.size 1 false),H ++ [{ sz := 1,rows := (Zcu s).map fun c => [c] }]) else none | _ => none
def Zbgs (x : AVal) (H : Heap) : VR0 := match x with | .c (.str s) => some (.c (.int .i64 s.size),H) | _ => none
def vLen (x : AVal) (H : Heap) : VR0 := match x with | .c .nilS => some (.c (.int .i64 0),H) | .c (.slc _ _ n _ _) => some (.c (.int .i64 n),H) | .c (.lst _ rows) => some (.c (.int .i64 rows.length),H) | .c (.zer _) => some (.c (.int .i64 0),H) | .c (.emp _) => some (.c (.int .i64 0),H) | _ => none
def vFld (off : Nat) (x : AVal) (H : Heap) : VR0 := match x with | .c (.ptr b i f) => some (.c (.ptr b i (f + off)),H) | .c (.fp r f) => some (.c (.fp r (f + off)),H) | _ => none
def vChk (x : AVal) (H : Heap) : VR0 := match x with | .c .nilP => none | .c .nilI => none | .c .nilF => none | v => some (v,H)
def Zbac (c x y : AVal) (H : Heap) : VR0 := match c with | .c (.bool b) => some (if b then x else y,H) | _ => none
def Zxd (agg : Bool) (off n : Nat) (x : AVal) (H : Heap) : VR0 := match x with
 | .agg cs => if off + n ≤ cs.length then match Zcl agg ((cs.drop off).take n) with | some v => some (v,H) | none => none else none
 | _ => none
def Zbdd (r : Option (List Cell)) (H : Heap) : VR0 := match r with | some cs => some (.agg cs,H) | none => none
def vEqS (neg : Bool) (ks : List Nat) (x y : AVal) (H : Heap) : VR0 := match x,y with
 | .agg xs,.agg ys => (match Zbw ks xs ys with | some b => some (.c (.bool (neg != b)),H) | none => none)
 | _,_ => none
def vNil (sl neg : Bool) (x y : AVal) (H : Heap) : VR0 := match x,y with
 | .c x,.c y => (match Zfl sl x y with | some b => some (.c (.bool (neg != b)),H) | none => none)
 | _,_ => none
def vMkF (f : Nat) (r : Option (List Cell)) (H : Heap) : VR0 := match r with | some cs => some (.c (.fn f cs),H) | none => none
def vMM (f : Cell → Cell → Option Cell) (e : Env) (x : AVal) (r : List Opd) (H : Heap) : VR0 := match x with | .c x => Zca H (Zom f e x r) | _ => none
def Zgy (agg : Bool) (n f : Nat) (r : Option (List Cell)) (H : Heap) : VR0 := match r with
 | some r => if f + n ≤ r.length then (match Zcl agg ((r.drop f).take n) with | some v => some (v,H) | none => none) else none
 | none => none
def Zfa (agg : Bool) (n : Nat) (a : AVal) (H : Heap) : VR0 := match a with | .c (.ptr b i f) => Zgy agg n f (H.row b i) H | .c (.fp r f) => Zgy agg n f (some r) H | _ => none
def Zz6 (n b i f : Nat) (cs : List Cell) (mine : Bool) (r : Option (List Cell)) (H : Heap) : VR0 := match r with
 | some r => if mine = true ∧ cs.length = n ∧ 0 < n ∧ f + n ≤ r.length then some (Zft,H.put b i (r.take f ++ cs ++ r.drop (f + n))) else none
 | none => none
def Z96 (n : Nat) (a v : AVal) (H : Heap) : VR0 := match a with | .c (.ptr b i f) => Zz6 n b i f v.cells (H.mine b) (H.row b i) H | _ => none
def vBox (x : AVal) (H : Heap) : VR0 := match x with
 | .c c => some (.c (.ptr H.length 0 0),H ++ [{ sz := 1,rows := [[c]] }])
 | .agg cs => some (.c (.ptr H.length 0 0),H ++ [{ sz := cs.length,rows := [cs] }])
 | _ => none
def vIx (sz : Nat) (x i : AVal) (H : Heap) : VR0 := match x,i with
 | .c (.slc b s n sz' _),.c (.int _ i) => if sz' = sz ∧ 0 ≤ i ∧ i < n then some (.c (.ptr b (s + i.toNat) 0),H) else none
 | .c (.lst sz' rows),.c (.int _ i) => if sz' = sz ∧ 0 ≤ i then match rows[i.toNat]? with | some r => some (.c (.fp r 0),H) | none => none else none
 | _,_ => none
def vApp (sz bytes : Nat) (x y : AVal) (H : Heap) : VR0 := match x,y with | .c x,.c y => Zc3 H sz bytes x y | _,_ => none
def Zem (sz bytes : Nat) (x y : AVal) (H : Heap) : VR0 := match x,y with
 | .c .nilS,.c y => Zc3 H sz bytes .nilS y
 | .c (.zer s),.c y => Zc3 H sz bytes (.zer s) y
 | .c (.slc b s n sz' true),.c y => Zc3 H sz bytes (.slc b s n sz' true) y
 | _,_ => none
def vIxA (len sz : Nat) (x i : AVal) (H : Heap) : VR0 := match x,i with
 | .c (.ptr b r f),.c (.int _ i) => if 0 ≤ i ∧ i < len then some (.c (.ptr b r (f + i.toNat * sz)),H) else none
 | .c (.fp r f),.c (.int _ i) => if 0 ≤ i ∧ i < len then some (.c (.fp r (f + i.toNat * sz)),H) else none
 | _,_ => none
def vIxV (agg : Bool) (len sz : Nat) (x i : AVal) (H : Heap) : VR0 := match x,i with
 | .agg cs,.c (.int _ i) => if 0 ≤ i ∧ i < len ∧ i.toNat * sz + sz ≤ cs.length then match Zcl agg ((cs.drop (i.toNat * sz)).take sz) with | some v => some (v,H) | none => none else none
 | _,_ => none
def Zuu (sz bytes : Nat) (z : List Cell) (l c : AVal) (H : Heap) : VR0 := match l,c with
 | .c (.int _ l),.c (.int _ c) =>
  if 0 ≤ l ∧ l = c ∧ c * bytes ≤ 140737488355328 ∧ l ≤ 9223372036854775807 then some (.c (.slc H.length 0 l.toNat sz (l.toNat == 0)),H ++ [{ sz,rows := List.replicate l.toNat z }]) else none
 | _,_ => none
def vLit (sz len : Nat) (r : Option (List (List Cell))) (H : Heap) : VR0 := match r with
 | some rows => some (.c (.slc H.length 0 len sz (len == 0)),H ++ [{ sz,rows }])
 | none => none
def vSl (sz : Nat) (x : AVal) (e : Env) (lo hi mx : Option Opd) (H : Heap) : VR0 := match x with
 | .c c => if Zbh sz c then Zca H (evSl c e lo hi mx) else none
 | _ => none
def vSlS (x : AVal) (e : Env) (lo hi : Option Opd) (H : Heap) : VR0 := match x with
 | .c (.str s) => (match Zuq s e lo hi with | some s => some (.c (.str s),H) | none => none)
 | _ => none
def vSlA (n sz : Nat) (x : AVal) (H : Heap) : VR0 := match x with
 | .c (.fp row f) => if f + n * sz ≤ row.length ∧ n ≤ 1000000 then some (.c (.lst sz (Zg0 n sz row f)),H) else none
 | _ => none
def vIxS (x i : AVal) (H : Heap) : VR0 := match x,i with
 | .c (.str s),.c (.int _ i) => if h : 0 ≤ i ∧ i.toNat < s.size then some (.c (.int .u8 ((s[i.toNat]'h.2).toNat : Int)),H) else none
 | _,_ => none
def vClr (sz : Nat) (z : List Cell) (x : AVal) (H : Heap) : VR0 := match x with
 | .c x => Zye H sz z x
 | _ => none
def vCpy (sz : Nat) (x y : AVal) (H : Heap) : VR0 := match x,y with
 | .c x,.c y => Zx0 H sz x y
 | _,_ => none
def vB2s (x : AVal) (H : Heap) : VR0 := match x with
 | .c c => match c with
  | .str _ => none
  | c => if Zbh 1 c then match H.rowsOf c with
   | some rs => match Zdi rs with | some l => some (.c (.str ⟨l.toArray⟩),H) | none => none
   | none => none else none
 | _ => none
section
variable {G : Prog} {p : Post} {k : List Itm} {d : Bool} {e : Env} {H : Heap} {l : List AInstr} {dst : Option Nat} {x y z : Opd} {lo hi mx : Option Opd} {agg neg sl : Bool} {n off sz bytes : Nat}
theorem Zbbh : Z1 G p k d false (.binB neg x y) dst l e H = Zbg G p k d (Zym neg (x.ev e) (y.ev e) H) dst l e := rfl
theorem Zbht {op : UnOp} : Z1 G p k d false (.un op x) dst l e H = Zbg G p k d (vUn op (x.ev e) H) dst l e := rfl
theorem Zbdp {i : IntKind} : Z1 G p k d false (.conv i x) dst l e H = Zbg G p k d (Zbgt i (x.ev e) H) dst l e := rfl
theorem Z82 : Z1 G p k d false (.strId x) dst l e H = Zbg G p k d (Z97 (x.ev e) H) dst l e := rfl
theorem Zbfa : Z1 G p k d false (.mkI n x) dst l e H = Zbg G p k d (vMkI n (x.ev e) H) dst l e := rfl
theorem Zbgi : Z1 G p k d false (.ext x n) dst l e H = Zbg G p k d (vExt (x.ev e) n H) dst l e := rfl
theorem Zbdj : Z1 G p k d false (.lenS x) dst l e H = Zbg G p k d (Zbgs (x.ev e) H) dst l e := rfl
theorem Zbf7 : Z1 G p k d false (.len x) dst l e H = Zbg G p k d (vLen (x.ev e) H) dst l e := rfl
theorem Zbfo : Z1 G p k d false (.cap x) dst l e H = Zbg G p k d (vCap (x.ev e) H) dst l e := rfl
theorem Zbei : Z1 G p k d false (.s2b x) dst l e H = Zbg G p k d (vS2b (x.ev e) H) dst l e := rfl
theorem Zbek : Z1 G p k d false (.fld off x) dst l e H = Zbg G p k d (vFld off (x.ev e) H) dst l e := rfl
theorem Zbfn : Z1 G p k d false (.chk x) dst l e H = Zbg G p k d (vChk (x.ev e) H) dst l e := rfl
theorem Z9x : Z1 G p k d false (.pick x y z) dst l e H = Zbg G p k d (Zbac (x.ev e) (y.ev e) (z.ev e) H) dst l e := rfl
theorem Zbaq : Z1 G p k d false (.fldV agg off n x) dst l e H = Zbg G p k d (Zxd agg off n (x.ev e) H) dst l e := rfl
theorem Z9y {zs : List Cell} {ps : List (Nat × Nat × Opd)} : Z1 G p k d false (.build zs ps) dst l e H = Zbg G p k d (Zbdd (Ziy zs e ps) H) dst l e := rfl
theorem Zbgn {ks : List Nat} : Z1 G p k d false (.eqS neg ks x y) dst l e H = Zbg G p k d (vEqS neg ks (x.ev e) (y.ev e) H) dst l e := rfl
theorem Z87 : Z1 G p k d false (.eqNil sl neg x y) dst l e H = Zbg G p k d (vNil sl neg (x.ev e) (y.ev e) H) dst l e := rfl
theorem Zbfc {xs : List Opd} : Z1 G p k d false (.mkF n xs) dst l e H = Zbg G p k d (vMkF n (Zj8 e xs) H) dst l e := rfl
theorem Zbdz {xs : List Opd} : Z1 G p k d false (.max (x :: xs)) dst l e H = Zbg G p k d (vMM maxC e (x.ev e) xs H) dst l e := rfl
theorem Zbe2 {xs : List Opd} : Z1 G p k d false (.min (x :: xs)) dst l e H = Zbg G p k d (vMM minC e (x.ev e) xs H) dst l e := rfl
theorem Zbdq : Z1 G p k d false (.load agg n x) dst l e H = Zbg G p k d (Zfa agg n (x.ev e) H) dst l e := rfl
def Zbcg (agg : Bool) (n : Nat) (a : AVal) (H : Heap) : VR0 := match a with | .c (.fp r f) => Zgy agg n f (some r) H | _ => none
theorem Z9f : Z1 G p k d false (.loadF agg n x) dst l e H = Zbg G p k d (Zbcg agg n (x.ev e) H) dst l e := rfl
theorem Zbaz {agg : Bool} {r : List Cell} {f : Nat} : Zbcg agg n (.c (.fp r f)) H = Zgy agg n f (some r) H := rfl
theorem Z89 : Z1 G p k d false (.store n x y) dst l e H = Zbg G p k d (Z96 n (x.ev e) (y.ev e) H) dst l e := rfl
theorem Zbf5 : Z1 G p k d false (.box x) dst l e H = Zbg G p k d (vBox (x.ev e) H) dst l e := rfl
theorem Zbh8 : Z1 G p k d false (.ix sz x y) dst l e H = Zbg G p k d (vIx sz (x.ev e) (y.ev e) H) dst l e := rfl
theorem Zbej {z : List Cell} : Z1 G p k d false (.clr sz z x) dst l e H = Zbg G p k d (vClr sz z (x.ev e) H) dst l e := rfl
theorem Zbel : Z1 G p k d false (.cpy sz x y) dst l e H = Zbg G p k d (vCpy sz (x.ev e) (y.ev e) H) dst l e := rfl
theorem Zbgg : Z1 G p k d false (.app sz bytes x y) dst l e H = Zbg G p k d (vApp sz bytes (x.ev e) (y.ev e) H) dst l e := rfl
theorem Zbc5 : Z1 G p k d false (.appZ sz bytes x y) dst l e H = Zbg G p k d (Zem sz bytes (x.ev e) (y.ev e) H) dst l e := rfl
def Zbkx (sz bytes : Nat) (z : List Cell) (x n : AVal) (H : Heap) : VR0 := match x,n with
 | .c .nilS,.c (.int _ l) =>
  if 0 < l ∧ l ≤ 9223372036854775807 ∧ l * bytes ≤ 140737488355328 then some (.c (.slc H.length 0 l.toNat sz false),H ++ [{ sz,rows := List.replicate l.toNat z }]) else none
 | .c (.slc b s m sz' zz),.c (.int _ l) =>
  if (0 < l ∧ l ≤ 9223372036854775807 ∧ l * bytes ≤ 140737488355328) ∧ s = 0 ∧ zz = false ∧ sz' = sz then Zze H sz bytes b m (List.replicate l.toNat z) else none
 | _,_ => none
theorem Zbaf {zs : List Cell} : Z1 G p k d false (.appM sz bytes zs x y) dst l e H = Zbg G p k d (Zbkx sz bytes zs (x.ev e) (y.ev e) H) dst l e := rfl
theorem Zbgf : Z1 G p k d false (.ixA n sz x y) dst l e H = Zbg G p k d (vIxA n sz (x.ev e) (y.ev e) H) dst l e := rfl
theorem Zbge : Z1 G p k d false (.ixV agg n sz x y) dst l e H = Zbg G p k d (vIxV agg n sz (x.ev e) (y.ev e) H) dst l e := rfl
theorem Zbbn {cs : List Cell} : Z1 G p k d true (.new cs) dst l e H = Zjt G p k d (mkF H (some (.c (.ptr H.length 0 0),H ++ [{ sz := cs.length,rows := [cs] }]))) dst l e H := rfl
theorem Zbb3 : Z1 G p k d true (.box x) dst l e H = Zjt G p k d (mkF H (vBox (x.ev e) H)) dst l e H := rfl
theorem Zba0 {zs : List Cell} {ps : List (Nat × Opd)} : Z1 G p k d true (.lit sz zs n ps) dst l e H = Zjt G p k d (mkF H (vLit sz n (Zmz sz (List.replicate n zs) e ps) H)) dst l e H := rfl
theorem Z9q : Z1 G p k d true (.appZ sz bytes x y) dst l e H = Zjt G p k d (mkF H (Zem sz bytes (x.ev e) (y.ev e) H)) dst l e H := rfl
theorem Zbca : Z1 G p k d true (.app sz bytes x y) dst l e H = Zjt G p k d (mkF H (Zem sz bytes (x.ev e) (y.ev e) H)) dst l e H := rfl
theorem Zbc7 : Z1 G p k d true (.s2b x) dst l e H = Zjt G p k d (mkF H (vS2b (x.ev e) H)) dst l e H := rfl
theorem Z73 {zs : List Cell} : Z1 G p k d true (.make sz bytes zs x y) dst l e H = Zjt G p k d (mkF H (Zuu sz bytes zs (x.ev e) (y.ev e) H)) dst l e H := rfl
theorem Zbdf {zs : List Cell} : Z1 G p k d false (.make sz bytes zs x y) dst l e H = Zbg G p k d (Zuu sz bytes zs (x.ev e) (y.ev e) H) dst l e := rfl
theorem Zbfk {zs : List Cell} {ps : List (Nat × Opd)} : Z1 G p k d false (.lit sz zs n ps) dst l e H = Zbg G p k d (vLit sz n (Zmz sz (List.replicate n zs) e ps) H) dst l e := rfl
theorem Zbie : Z1 G p k d false (.sl sz x lo hi mx) dst l e H = Zbg G p k d (vSl sz (x.ev e) e lo hi mx H) dst l e := rfl
theorem Zbfs : Z1 G p k d false (.slS x lo hi) dst l e H = Zbg G p k d (vSlS (x.ev e) e lo hi H) dst l e := rfl
theorem Z4k : Z1 G p k d false (.slA n sz x) dst l e H = Zbg G p k d (vSlA n sz (x.ev e) H) dst l e := rfl
theorem Zbf8 : Z1 G p k d false (.ixS x y) dst l e H = Zbg G p k d (vIxS (x.ev e) (y.ev e) H) dst l e := rfl
theorem Zbex : Z1 G p k d false (.b2s x) dst l e H = Zbg G p k d (vB2s (x.ev e) H) dst l e := rfl
end
section
variable {H : Heap} {a b : Int} {i j : IntKind} {s t : ByteArray} {n m : Nat} {c : Cell} {cs ds : List Cell}
theorem Zbfd {x y : Bool} : Zym false (.c (.bool x)) (.c (.bool y)) H = some (.c (.bool (x == y)),H) := by simp [Zym]
theorem Zbf1 {x y : Bool} : Zym true (.c (.bool x)) (.c (.bool y)) H = some (.c (.bool (!(x == y))),H) := by simp [Zym]
theorem Zbij {x : Bool} : vUn .not (.c (.bool x)) H = some (.c (.bool !x),H) := rfl
theorem Zbih : vUn .neg (.c (.int i a)) H = some (.c (.int i (i.wrap (0 - a))),H) := rfl
theorem Zbi9 {q : Bool} {x y : Cell} : (if q = true then AVal.c x else AVal.c y) = AVal.c (if q = true then x else y) := by cases q <;> rfl
theorem Z72 {e : Env} : Zj8 e [] = some [] := rfl
def Zbgv (x : AVal) (r : Option (List Cell)) : Option (List Cell) := match x,r with | .c c,some cs => some (c :: cs) | _,_ => none
theorem Z45 {e : Env} {x : Opd} {r : List Opd} : Zj8 e (x :: r) = Zbgv (x.ev e) (Zj8 e r) := rfl
theorem Z9d : Zbgv (.c c) (some cs) = some (c :: cs) := rfl
theorem Zbk7 {x : AVal} {vs : List AVal} : vExt (.tup (x :: vs)) 0 H = some (x,H) := rfl
theorem Zbkv {x y : AVal} {vs : List AVal} : vExt (.tup (x :: y :: vs)) 1 H = some (y,H) := rfl
theorem Zbch : Zbgt i (.c (.int j a)) H = some (.c (.int i (i.wrap a)),H) := rfl
theorem Z7u : Z97 (.c (.str s)) H = some (.c (.str s),H) := rfl
theorem Zbbs : Zbgs (.c (.str s)) H = some (.c (.int .i64 s.size),H) := rfl
theorem Zbew : vLen (.c .nilS) H = some (.c (.int .i64 0),H) := rfl
theorem Zbf4 {q r sz : Nat} {z : Bool} : vLen (.c (.slc q r n sz z)) H = some (.c (.int .i64 n),H) := rfl
theorem Zbf9 {q r f off : Nat} : vFld off (.c (.ptr q r f)) H = some (.c (.ptr q r (f + off)),H) := rfl
theorem Zbe6 {q r f : Nat} : vChk (.c (.ptr q r f)) H = some (.c (.ptr q r f),H) := rfl
theorem Zbhg {f : Nat} : vChk (.c (.fn f cs)) H = some (.c (.fn f cs),H) := rfl
theorem Z6h {q : Bool} {x y : AVal} : Zbac (.c (.bool q)) x y H = some (if q = true then x else y,H) := rfl
theorem Zbam : Zxd false n 1 (.agg cs) H = (match cs[n]? with | some c => some (.c c,H) | none => none) := by
 simp only [Zxd]
 by_cases h : n + 1 ≤ cs.length
 ·have h1 : (cs.drop n).take 1 = [cs[n]] := by rw [List.drop_eq_getElem_cons (by omega)]; rfl
  rw [if_pos h,h1,List.getElem?_eq_getElem (show n < cs.length by omega)]; rfl
 ·rw [if_neg h,List.getElem?_eq_none (by omega)]
theorem Zbdm {off : Nat} : Zxd true off n (.agg cs) H = if off + n ≤ cs.length then some (.agg ((cs.drop off).take n),H) else none := by
 simp only [Zxd,Zcl,if_true]
theorem Z6g : Zbdd (some cs) H = some (.agg cs,H) := rfl
theorem Zbc4 {f : Nat} : vMkF f (some cs) H = some (.c (.fn f cs),H) := rfl
theorem Zq3 : vBox (.agg cs) H = some (.c (.ptr H.length 0 0),H ++ [{ sz := cs.length,rows := [cs] }]) := rfl
theorem Zbbx {agg : Bool} {q r f : Nat} : Zfa agg n (.c (.ptr q r f)) H = Zgy agg n f (H.row q r) H := rfl
theorem Z8d {f : Nat} : Zgy false 1 f (some cs) H = (match cs[f]? with | some c => some (.c c,H) | none => none) := by
 simp only [Zgy]
 by_cases h : f + 1 ≤ cs.length
 ·have h1 : (cs.drop f).take 1 = [cs[f]] := by rw [List.drop_eq_getElem_cons (by omega)]; rfl
  rw [if_pos h,h1,List.getElem?_eq_getElem (show f < cs.length by omega)]; rfl
 ·rw [if_neg h,List.getElem?_eq_none (by omega)]
theorem Z74 : Zgy true n 0 (some cs) H = if n ≤ cs.length then some (.agg (cs.take n),H) else none := by
 simp only [Zgy,Nat.zero_add,List.drop_zero,Zcl]; split <;> rfl
theorem Z6l {f : Nat} : Zgy true n f (some cs) H = if f + n ≤ cs.length then some (.agg ((cs.drop f).take n),H) else none := by
 simp only [Zgy,Zcl,if_true]
theorem Z9r {q r f : Nat} {v : AVal} : Z96 n (.c (.ptr q r f)) v H = Zz6 n q r f v.cells (H.mine q) (H.row q r) H := rfl
def vMM2 (f : Cell → Cell → Option Cell) (x y : AVal) (H : Heap) : VR0 := match x,y with | .c x,.c y => Zca H (f x y) | _,_ => none
theorem Zbhv {f : Cell → Cell → Option Cell} {e : Env} {x : AVal} {y : Opd} : vMM f e x [y] H = vMM2 f x (y.ev e) H := by
 cases x with
 | c x =>
  simp only [vMM,Zom,vMM2]
  cases y.ev e with
  | c y => simp only; cases f x y <;> rfl
  | _ => rfl
 | _ => rfl
theorem Zbe0 : vMM2 maxC (.c (.int i a)) (.c (.int i b)) H = some (.c (.int i (if a < b then b else a)),H) := by simp [vMM2,maxC,Zca]
theorem Zbe4 : vMM2 minC (.c (.int i a)) (.c (.int i b)) H = some (.c (.int i (if b < a then b else a)),H) := by simp [vMM2,minC,Zca]
end
theorem Zbag {a : AVal} {l : List AVal} : Zc5 (a :: l) 0 = a := rfl
theorem Zbbb {a b : AVal} {l : List AVal} : Zc5 (a :: b :: l) 1 = b := rfl
theorem Zba2 {a b c : AVal} {l : List AVal} : Zc5 (a :: b :: c :: l) 2 = c := rfl
theorem Zbdo {a b c d : AVal} {l : List AVal} : Zc5 (a :: b :: c :: d :: l) 3 = d := rfl
theorem Zbc6 {a b c d e : AVal} {l : List AVal} : Zc5 (a :: b :: c :: d :: e :: l) 4 = e := rfl
theorem Zbbr {a b c d e f : AVal} {l : List AVal} : Zc5 (a :: b :: c :: d :: e :: f :: l) 5 = f := rfl
theorem Zbat {a b c d e f g : AVal} {l : List AVal} : Zc5 (a :: b :: c :: d :: e :: f :: g :: l) 6 = g := rfl
theorem Zbcm {a b c d e f g h : AVal} {l : List AVal} : Zc5 (a :: b :: c :: d :: e :: f :: g :: h :: l) 7 = h := rfl
end Go.Proofs.YticmfblfghdkbaaGreatDoor.Eng
