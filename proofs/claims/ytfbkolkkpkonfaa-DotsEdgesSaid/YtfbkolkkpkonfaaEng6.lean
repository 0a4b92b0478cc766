/- The engine, part 6: operations that leave memory alone: slim and machine. No statement of the seat is proved here. -/
import Derived.Test.YtfbkolkkpkonfaaEng5
namespace Go.Proofs.Ytfbkolkkpkonfaa.Eng
open Go
set_option linter.unusedVariables false
set_option linter.unusedSimpArgs false

variable {P : Program} {m : LMap} {w : World} {σ : Mem}

theorem beq_dec (a b : ByteArray) : (a.toList == b.toList) = decide (a = b) := by
  rw [ByteArray.toList_eq, ByteArray.toList_eq]
  by_cases h : a = b
  · subst h; simp
  · have : ¬ (a.data.toList = b.data.toList) := fun e => h (by
      obtain ⟨⟨x⟩⟩ := a
      obtain ⟨⟨y⟩⟩ := b
      simp at e
      rw [e])
    simp only [h, decide_false, beq_eq_false_iff_ne, ne_eq, this, not_false_eq_true]

/-! ### Binary operators -/
theorem bin_int {op : BinOp} {k k' : IntKind} {a b : Int} {c : Cell} (h : evBin op (.int k a) (.int k' b) = some c) (t : TypeId) :
    ∃ v, (binOp op t (.int k a) (.int k' b)).run P w = .ok v w ∧ VR m σ c v := by
  cases op <;> simp only [evBin] at h <;> first
    | (split at h <;> first
        | (split at h <;> first
            | (cases h; done)
            | (injection h with h; subst h; rename_i hk hb; subst hk; exact ⟨_, by simp only [binOp, ne_eq, not_true, if_false, Op.intDiv, hb]; rfl, .int _ _⟩))
        | (injection h with h; subst h; rename_i hk; first
            | (subst hk; first
                | exact ⟨_, by simp only [binOp, ne_eq, not_true, if_false, Op.intArith]; rfl, .int _ _⟩
                | exact ⟨_, by simp only [binOp, ne_eq, not_true, if_false, Op.intBits]; rfl, .int _ _⟩
                | exact ⟨_, by simp only [binOp, ne_eq, not_true, if_false, Op.intCmp]; rfl, .bool _⟩)
            | exact ⟨_, by simp only [binOp, Op.shift, show ¬ (b < 0) by omega, if_false]; rfl, .int _ _⟩)
        | (cases h; done))
    | (cases h; done)

theorem bin_str {op : BinOp} {a b : ByteArray} {c : Cell} (h : evBin op (.str a) (.str b) = some c) (t : TypeId) :
    ∃ v, (binOp op t (.string a) (.string b)).run P w = .ok v w ∧ VR m σ c v := by
  have hadd : a.size + b.size ≤ 9223372036854775807 → ¬ (((a.size + b.size : Nat) : Int) > IntKind.i64.max) := by
    intro h
    have : IntKind.i64.max = 9223372036854775807 := by decide
    omega
  cases op <;> simp only [evBin] at h <;> first
    | (split at h
       · injection h with h; subst h
         rename_i hs
         exact ⟨_, by simp only [binOp, Op.stringOp, hadd hs, if_false]; rfl, .str _⟩
       · cases h)
    | (injection h with h; subst h; exact ⟨_, by simp only [binOp, Op.stringOp, beq_dec]; rfl, .bool _⟩)
    | (cases h; done)

theorem equal_bool {t : TypeId} (ht : P.underlying t = some .bool) (a b : Bool) : (Op.equal t (.bool a) (.bool b)).run P w = .ok (a == b) w := by
  exact run_equalIn_bool' w 9999 t a b ht

theorem bin_bool {neg : Bool} {op : BinOp} (hop : op = if neg then .neq else .eql) {a b : Bool} {t : TypeId} (ht : P.underlying t = some .bool) (o1 o2 : Operand) :
    (do eqGuard op t o1 o2 (.bool a) (.bool b); binOp op t (.bool a) (.bool b) : Sem Value).run P w = .ok (.bool (neg != (a == b))) w := by
  cases neg <;> subst hop
  · simp only [Bool.false_eq_true, if_false, eqGuard, binOp, Sem.run_bind, equal_bool ht, Result.andThen_ok]
    simp
  · simp only [if_true, eqGuard, binOp, Sem.run_bind, equal_bool ht, Result.andThen_ok]
    simp

theorem eqGuard_plain (op : BinOp) (t : TypeId) (x y : Operand) (a b : Value) (h1 : a ≠ .nilIface ∨ b ≠ .nilIface) (h2 : ∀ cs, a ≠ .agg cs) : (eqGuard op t x y a b).run P w = .ok () w := by
  unfold eqGuard
  cases op <;> simp only [] <;> first
    | rfl
    | (cases a <;> cases b <;> first
        | (exfalso; rcases h1 with h1 | h1 <;> exact h1 rfl)
        | (exfalso; exact h2 _ rfl)
        | rfl)

theorem VR.noAgg {c v} (h : VR m σ c v) : ∀ cs, v ≠ .agg cs := by intro cs; cases h <;> intro h <;> cases h

theorem bin_sound {op : BinOp} {x y : Cell} {c : Cell} (h : evBin op x y = some c) {t : TypeId} {vx vy : Value} (hx : VR m σ x vx) (hy : VR m σ y vy) (o1 o2 : Operand) :
    ∃ v, (do eqGuard op t o1 o2 vx vy; binOp op t vx vy : Sem Value).run P w = .ok v w ∧ VR m σ c v := by
  have key : (∃ v, (binOp op t vx vy).run P w = .ok v w ∧ VR m σ c v) ∧ (vx ≠ .nilIface ∨ vy ≠ .nilIface) := by
    cases hx <;> cases hy <;> first
      | (simp only [evBin] at h; cases h)
      | exact ⟨bin_int h t, .inl (by intro h; cases h)⟩
      | exact ⟨bin_str h t, .inl (by intro h; cases h)⟩
  obtain ⟨⟨v, h1, h2⟩, h3⟩ := key
  exact ⟨v, by rw [Sem.run_bind, eqGuard_plain op t o1 o2 vx vy h3 hx.noAgg]; exact h1, h2⟩

theorem equal_nn {t e : TypeId} (ht : P.underlying t = some (.slice e)) : (Op.equal t (.slice none 0 0) (.slice none 0 0)).run P w = .ok true w := by
  show (Op.equalIn (9999 + 1) t (.slice none 0 0) (.slice none 0 0)).run P w = _
  unfold Op.equalIn
  simp only [Sem.run_bind, run_underlying ht, Result.andThen_ok]
  rfl
theorem equal_ns {t e : TypeId} (ht : P.underlying t = some (.slice e)) (A : Addr) (n c : Nat) : (Op.equal t (.slice none 0 0) (.slice (some A) n c)).run P w = .ok false w := by
  show (Op.equalIn (9999 + 1) t (.slice none 0 0) (.slice (some A) n c)).run P w = _
  unfold Op.equalIn
  simp only [Sem.run_bind, run_underlying ht, Result.andThen_ok]
  rfl
theorem equal_sn {t e : TypeId} (ht : P.underlying t = some (.slice e)) (A : Addr) (n c : Nat) : (Op.equal t (.slice (some A) n c) (.slice none 0 0)).run P w = .ok false w := by
  show (Op.equalIn (9999 + 1) t (.slice (some A) n c) (.slice none 0 0)).run P w = _
  unfold Op.equalIn
  simp only [Sem.run_bind, run_underlying ht, Result.andThen_ok]
  rfl
theorem equal_ii {t : TypeId} {ms : Array (String × TypeId)} (ht : P.underlying t = some (.interface ms)) : (Op.equal t .nilIface .nilIface).run P w = .ok true w := by
  show (Op.equalIn (9999 + 1) t .nilIface .nilIface).run P w = _
  unfold Op.equalIn
  simp only [Sem.run_bind, run_underlying ht, Result.andThen_ok]
  rfl
theorem equal_iv {t : TypeId} {ms : Array (String × TypeId)} (ht : P.underlying t = some (.interface ms)) (u : TypeId) (x : Value) : (Op.equal t .nilIface (.iface u x)).run P w = .ok false w := by
  show (Op.equalIn (9999 + 1) t .nilIface (.iface u x)).run P w = _
  unfold Op.equalIn
  simp only [Sem.run_bind, run_underlying ht, Result.andThen_ok]
  rfl
theorem equal_vi {t : TypeId} {ms : Array (String × TypeId)} (ht : P.underlying t = some (.interface ms)) (u : TypeId) (x : Value) : (Op.equal t (.iface u x) .nilIface).run P w = .ok false w := by
  show (Op.equalIn (9999 + 1) t (.iface u x) .nilIface).run P w = _
  unfold Op.equalIn
  simp only [Sem.run_bind, run_underlying ht, Result.andThen_ok]
  rfl

theorem evNil_l {sz : Nat} {rows : List (List Cell)} {b : Bool} (h : evNil true (.lst sz rows) .nilS = some b) : b = false := by
  cases rows with
  | nil => simp [evNil] at h
  | cons => simp [evNil] at h; exact h
theorem evNil_r {sz : Nat} {rows : List (List Cell)} {b : Bool} (h : evNil true .nilS (.lst sz rows) = some b) : b = false := by
  cases rows with
  | nil => simp [evNil] at h
  | cons => simp [evNil] at h; exact h

theorem nil_sound {sl neg b : Bool} {x y : Cell} (h : evNil sl x y = some b) {t : TypeId} (ht : (if sl then ∃ e, P.underlying t = some (.slice e) else ∃ ms, P.underlying t = some (.interface ms))) {vx vy : Value} (hx : VR m σ x vx) (hy : VR m σ y vy)
    (o1 o2 : Operand) (ho : nilConst o1 || nilConst o2) (op : BinOp) (hop : op = if neg then .neq else .eql) :
    ∃ v, (do eqGuard op t o1 o2 vx vy; binOp op t vx vy : Sem Value).run P w = .ok v w ∧ VR m σ (.bool (neg != b)) v := by
  have hg : (eqGuard op t o1 o2 vx vy).run P w = .ok () w := by
    by_cases hn : vx = .nilIface ∧ vy = .nilIface
    · obtain ⟨rfl, rfl⟩ := hn
      cases neg <;> subst hop <;> cases o1 <;> cases o2 <;> first
        | (exfalso; simp [nilConst] at ho; done)
        | simp [eqGuard]
    · refine eqGuard_plain op t o1 o2 vx vy ?_ hx.noAgg
      by_cases h1 : vx = .nilIface
      · exact .inr fun h2 => hn ⟨h1, h2⟩
      · exact .inl h1
  have he : ∃ r, (Op.equal t vx vy).run P w = .ok r w ∧ r = b := by
    cases sl with
    | true =>
      obtain ⟨e, ht⟩ := ht
      cases hx <;> cases hy <;> simp only [evNil] at h <;> first
        | (cases h; done)
        | (injection h with h; subst h; first | exact ⟨_, equal_nn ht, rfl⟩ | exact ⟨_, equal_ns ht _ _ _, rfl⟩ | exact ⟨_, equal_sn ht _ _ _, rfl⟩ | exact ⟨_, equal_ii ht, rfl⟩ | exact ⟨_, equal_iv ht _ _, rfl⟩ | exact ⟨_, equal_vi ht _ _, rfl⟩)
        | (obtain rfl := evNil_l h; exact ⟨_, equal_sn ht _ _ _, rfl⟩)
        | (obtain rfl := evNil_r h; exact ⟨_, equal_ns ht _ _ _, rfl⟩)
    | false =>
      obtain ⟨ms, ht⟩ := ht
      cases hx <;> cases hy <;> simp only [evNil] at h <;> first
        | (cases h; done)
        | (injection h with h; subst h; first | exact ⟨_, equal_nn ht, rfl⟩ | exact ⟨_, equal_ns ht _ _ _, rfl⟩ | exact ⟨_, equal_sn ht _ _ _, rfl⟩ | exact ⟨_, equal_ii ht, rfl⟩ | exact ⟨_, equal_iv ht _ _, rfl⟩ | exact ⟨_, equal_vi ht _ _, rfl⟩)
  obtain ⟨r, he, rfl⟩ := he
  have hb : (binOp op t vx vy).run P w = .ok (.bool (neg != r)) w := by
    cases sl with
    | true =>
      cases hx <;> cases hy <;> simp only [evNil] at h <;> first
        | (cases h; done)
        | (cases neg <;> subst hop <;> simp [binOp, he])
        | (split at h <;> first | (cases h; done) | (cases neg <;> subst hop <;> simp [binOp, he]))
    | false =>
      cases hx <;> cases hy <;> simp only [evNil] at h <;> first
        | (cases h; done)
        | (cases neg <;> subst hop <;> simp [binOp, he])
  exact ⟨_, by rw [Sem.run_bind, hg]; exact hb, .bool _⟩

/-! ### Unary operators, conversions -/
theorem un_sound {op : UnOp} {x c : Cell} (h : evUn op x = some c) {vx : Value} (hx : VR m σ x vx) : ∃ v, (Op.unary op vx).run P w = .ok v w ∧ VR m σ c v := by
  cases op <;> cases hx <;> simp only [evUn] at h <;> first
    | (cases h; done)
    | (injection h with h; subst h; first | exact ⟨_, rfl, .int _ _⟩ | exact ⟨_, rfl, .bool _⟩)

theorem conv_sound {s d : TypeId} {k ks : IntKind} (hs : P.underlying s = some (.int ks)) (hd : P.underlying d = some (.int k)) (k' : IntKind) (n : Int) :
    (convert s d (.int k' n)).run P w = .ok (.int k (k.wrap n)) w := by
  simp [convert, run_underlying hs, run_underlying hd, Conv.intToInt]

theorem convStr_sound {s d : TypeId} (hs : P.underlying s = some .string) (hd : P.underlying d = some .string) (b : ByteArray) :
    (convert s d (.string b)).run P w = .ok (.string b) w := by
  simp [convert, run_underlying hs, run_underlying hd]

/-! ### Bounds and slicing -/
theorem bound_sound {v : AVal} {y n : Nat} (h : bound v y = some n) {u : Value} (hu : VRA m σ v u) : ∃ k i, u = .int k i ∧ 0 ≤ i ∧ i ≤ y ∧ i.toNat = n := by
  unfold bound at h
  split at h
  · split at h
    · rename_i hc
      injection h with h
      cases hu with
      | c hu => cases hu; exact ⟨_, _, rfl, hc.1, hc.2, h⟩
    · cases h
  · cases h

theorem boundO_sound {x : Option Operand} {y : Option Opd} (hc : cmpO x = some y) {e : Env} {a : Act} (he : EnvOn m σ (optTmps y) e a) {n d r : Nat} (h : boundO e y n d = some r) :
    (x = none ∧ r = d) ∨ ∃ o k i, x = some o ∧ a.eval o = .int k i ∧ 0 ≤ i ∧ i ≤ n ∧ i.toNat = r := by
  unfold cmpO at hc
  split at hc
  · injection hc with hc; subst hc; simp [boundO] at h; exact .inl ⟨rfl, h.symm⟩
  · split at hc
    · injection hc with hc; subst hc
      rename_i o _ z hz
      obtain ⟨k, i, h1, h2, h3, h4⟩ := bound_sound (by simpa [boundO] using h) (opd_sound hz he)
      exact .inr ⟨o, k, i, rfl, h1, h2, h3, h4⟩
    · cases hc

theorem sliceBounds_sound {lo hi mx : Option Value} {len cap l h M : Nat} (isSl : Bool) (hlc : len ≤ cap)
    (h1 : (mx = none ∧ M = cap) ∨ ∃ k i, mx = some (.int k i) ∧ 0 ≤ i ∧ i ≤ cap ∧ i.toNat = M)
    (h2 : (hi = none ∧ mx = none ∧ h = len) ∨ ∃ k i, hi = some (.int k i) ∧ 0 ≤ i ∧ i ≤ M ∧ i.toNat = h)
    (h3 : (lo = none ∧ l = 0) ∨ ∃ k i, lo = some (.int k i) ∧ 0 ≤ i ∧ i ≤ h ∧ i.toNat = l) :
    (Instr.sliceBounds isSl len cap lo hi mx).run P w = .ok (l, h, M) w := by
  have S : ∀ {k : IntKind} {i : Int} {y n : Nat} (code : BoundsCode), 0 ≤ i → i ≤ (y : Int) → i.toNat = n → (Instr.sliceBound (.int k i) y code).run P w = .ok n w := by
    intro k i y n code a b e
    rw [run_sliceBound w k i y code a b, e]
  unfold Instr.sliceBounds
  rcases h1 with ⟨rfl, rfl⟩ | ⟨k1, i1, rfl, a1, b1, e1⟩ <;>
  rcases h2 with ⟨rfl, hx, rfl⟩ | ⟨k2, i2, rfl, a2, b2, e2⟩ <;>
  rcases h3 with ⟨rfl, rfl⟩ | ⟨k3, i3, rfl, a3, b3, e3⟩ <;>
  first
    | (exfalso; cases hx; done)
    | rfl
    | (simp only [Sem.run_bind, Sem.run_pure, Result.andThen_ok, S _ a2 b2 e2]; done)
    | (simp only [Sem.run_bind, Sem.run_pure, Result.andThen_ok, S _ a3 b3 e3]; done)
    | (simp only [Sem.run_bind, Sem.run_pure, Result.andThen_ok, S _ a2 b2 e2, S _ a3 b3 e3]; done)
    | (simp only [Sem.run_bind, Sem.run_pure, Result.andThen_ok, S _ a1 b1 e1, S _ a2 b2 e2]; done)
    | (simp only [Sem.run_bind, Sem.run_pure, Result.andThen_ok, S _ a1 b1 e1, S _ a2 b2 e2, S _ a3 b3 e3]; done)

theorem slS_sound {s : ByteArray} {e : Env} {a : Act} {lo hi : Option Operand} {lo' hi' : Option Opd} (hl : cmpO lo = some lo') (hh : cmpO hi = some hi') (el : EnvOn m σ (optTmps lo') e a) (eh : EnvOn m σ (optTmps hi') e a)
    {r : ByteArray} (h : evSlS s e lo' hi' = some r) {t : TypeId} (ht : P.underlying t = some .string) :
    (Instr.sliceAt t (.string s) (lo.map a.eval) (hi.map a.eval) none).run P w = .ok (.string r) w := by
  unfold evSlS at h
  split at h
  · rename_i hv hhv
    split at h
    · rename_i lv hlv
      injection h with h; subst h
      have hb := sliceBounds_sound (P := P) (w := w) (lo := lo.map a.eval) (hi := hi.map a.eval) (mx := none) (len := s.size) (cap := s.size) (l := lv) (h := hv) (M := s.size) false (Nat.le_refl _) (.inl ⟨rfl, rfl⟩)
        (by rcases boundO_sound hh eh hhv with ⟨rfl, rfl⟩ | ⟨o, k, i, rfl, h1, h2, h3, h4⟩
            · exact .inl ⟨rfl, rfl, rfl⟩
            · exact .inr ⟨k, i, by simp [h1], h2, h3, h4⟩)
        (by rcases boundO_sound hl el hlv with ⟨rfl, rfl⟩ | ⟨o, k, i, rfl, h1, h2, h3, h4⟩
            · exact .inl ⟨rfl, rfl⟩
            · exact .inr ⟨k, i, by simp [h1], h2, h3, h4⟩)
      simp [Instr.sliceAt, run_underlying ht, Instr.slice, hb]
    · cases h
  · cases h

theorem VR.lst' {sz n c : Nat} {A : Addr} {g o : Nat} {rows : List (List Cell)} {vs : Nat → Nat → Value} (hn : n = rows.length) (h1 : n ≤ c) (h2 : c ≤ maxLen) (h3 : rows ≠ [] → A = ⟨g, o, none⟩ ∧ m.z g) (h4 : ∀ (i : Nat) r, rows[i]? = some r → r.length = sz)
    (h5 : ∀ (i : Nat) r (f : Nat) x, rows[i]? = some r → r[f]? = some x → σ.cell ⟨g, o + i * sz + f, none⟩ = some (vs i f)) (h6 : ∀ (i : Nat) r (f : Nat) x, rows[i]? = some r → r[f]? = some x → VR m σ x (vs i f)) :
    VR m σ (.lst sz rows) (.slice (some A) n c) := by
  subst hn; exact .lst h1 h2 h3 h4 h5 h6

/-- A part of a slice that nobody writes. -/
theorem VR.lst_part {sz cap l h : Nat} {A A' : Addr} {n cap' : Nat} {rows : List (List Cell)} (hx : VR m σ (.lst sz rows) (.slice (some A) n cap)) (hh : h ≤ n) (hl : l ≤ h) (hc : h - l ≤ cap') (hc2 : cap' ≤ cap) (ha : h ≠ l → A' = A.add (l * sz)) :
    VR m σ (.lst sz ((rows.drop l).take (h - l))) (.slice (some A') (h - l) cap') := by
  cases hx with
  | @lst _ _ _ g o _ vs h1 h2 h3 h4 h5 h6 =>
    have hget : ∀ (i : Nat) r, ((rows.drop l).take (h - l))[i]? = some r → rows[l + i]? = some r := fun i r e => by
      rw [List.getElem?_take] at e
      split at e
      · rw [List.getElem?_drop] at e; exact e
      · cases e
    refine VR.lst' (g := g) (o := o + l * sz) (vs := fun i f => vs (l + i) f) (by simp; omega) hc (by omega) (fun hr => ?_) (fun i r e => h4 _ r (hget i r e)) (fun i r f x e1 e2 => ?_) (fun i r f x e1 e2 => h6 _ r f x (hget i r e1) e2)
    · have hne : rows ≠ [] := by intro h0; subst h0; simp at hr
      obtain ⟨ea, hz⟩ := h3 hne
      have hhl : h ≠ l := by intro e; subst e; simp at hr
      rw [ha hhl, ea]
      refine ⟨?_, hz⟩
      rw [addr_add]
    · have := h5 _ r f x (hget i r e1) e2
      rw [← this]
      congr 2
      rw [Nat.add_mul]; omega

/-- Slicing a slice: the machine's capacity is no less than the length. -/
theorem sl_sound {x c : Cell} {e : Env} {a : Act} {lo hi mx : Option Operand} {lo' hi' mx' : Option Opd} (hl : cmpO lo = some lo') (hh : cmpO hi = some hi') (hm : cmpO mx = some mx')
    (el : EnvOn m σ (optTmps lo') e a) (eh : EnvOn m σ (optTmps hi') e a) (em : EnvOn m σ (optTmps mx') e a) (hmh : mx'.isSome → hi'.isSome)
    (h : evSl x e lo' hi' mx' = some c) {n : Nat} (hf : fitsSz n x = true) {t q : TypeId} (ht : P.underlying t = some (.slice q)) (hn : sizeT P q = some n) {vx : Value} (hx : VR m σ x vx) :
    ∃ v, (Instr.sliceAt t vx (lo.map a.eval) (hi.map a.eval) (mx.map a.eval)).run P w = .ok v w ∧ VR m σ c v := by
  have hsome : ∀ {o : Option Operand} {o' : Option Opd}, cmpO o = some o' → (o.isSome ↔ o'.isSome) := by
    intro o o' ho
    unfold cmpO at ho
    split at ho
    · injection ho with ho; subst ho; simp
    · split at ho
      · injection ho with ho; subst ho; simp
      · cases ho
  -- all bounds are nought
  have zero : ∀ {M hv lv : Nat}, boundO e mx' 0 0 = some M → boundO e hi' 0 0 = some hv → boundO e lo' 0 0 = some lv → (Instr.sliceBounds true 0 0 (lo.map a.eval) (hi.map a.eval) (mx.map a.eval)).run P w = .ok (0, 0, 0) w := by
    intro M hv lv e1 e2 e3
    have z1 : M = 0 := by rcases boundO_sound hm em e1 with ⟨_, r⟩ | ⟨o, k, i, _, _, _, _, _⟩ <;> omega
    have z2 : hv = 0 := by rcases boundO_sound hh eh e2 with ⟨_, r⟩ | ⟨o, k, i, _, _, _, _, _⟩ <;> omega
    have z3 : lv = 0 := by rcases boundO_sound hl el e3 with ⟨_, r⟩ | ⟨o, k, i, _, _, _, _, _⟩ <;> omega
    subst z1; subst z2; subst z3
    exact sliceBounds_sound (P := P) (w := w) (lo := lo.map a.eval) (hi := hi.map a.eval) (mx := mx.map a.eval) (len := 0) (cap := 0) (l := 0) (h := 0) (M := 0) true (Nat.le_refl _)
        (by rcases boundO_sound hm em e1 with ⟨rfl, r⟩ | ⟨o, k, i, rfl, h1, h2, h3, h4⟩
            · exact .inl ⟨rfl, rfl⟩
            · exact .inr ⟨k, i, by simp [h1], h2, h3, h4⟩)
        (by rcases boundO_sound hh eh e2 with ⟨rfl, r⟩ | ⟨o, k, i, rfl, h1, h2, h3, h4⟩
            · refine .inl ⟨rfl, ?_, rfl⟩
              cases mx with
              | none => rfl
              | some o =>
                have := hmh ((hsome hm).1 rfl)
                have := (hsome hh).2 this
                cases this
            · exact .inr ⟨k, i, by simp [h1], h2, h3, h4⟩)
        (by rcases boundO_sound hl el e3 with ⟨rfl, r⟩ | ⟨o, k, i, rfl, h1, h2, h3, h4⟩
            · exact .inl ⟨rfl, rfl⟩
            · exact .inr ⟨k, i, by simp [h1], h2, h3, h4⟩)
  -- no third bound
  have two : ∀ {len cap hv lv : Nat} (A : Addr), len ≤ cap → mx' = none → boundO e hi' len len = some hv → boundO e lo' hv 0 = some lv → hv ≤ len ∧ lv ≤ hv ∧
      (Instr.sliceAt t (.slice (some A) len cap) (lo.map a.eval) (hi.map a.eval) (mx.map a.eval)).run P w = .ok (.slice (some (if cap = lv then A else A.add (lv * n))) (hv - lv) (cap - lv)) w := by
    intro len cap hv lv A h1 hmx e2 e3
    have hmn : mx = none := by
      cases mx with
      | none => rfl
      | some o => have := (hsome hm).1 rfl; rw [hmx] at this; cases this
    subst hmn
    have hhv : hv ≤ len := by rcases boundO_sound hh eh e2 with ⟨_, r⟩ | ⟨o, k, i, _, _, _, _, _⟩ <;> omega
    have hlv : lv ≤ hv := by rcases boundO_sound hl el e3 with ⟨_, r⟩ | ⟨o, k, i, _, _, _, _, _⟩ <;> omega
    have hb := sliceBounds_sound (P := P) (w := w) (lo := lo.map a.eval) (hi := hi.map a.eval) (mx := none) (len := len) (cap := cap) (l := lv) (h := hv) (M := cap) true h1 (.inl ⟨rfl, rfl⟩)
      (by rcases boundO_sound hh eh e2 with ⟨rfl, rfl⟩ | ⟨o, k, i, rfl, g1, g2, g3, g4⟩
          · exact .inl ⟨rfl, rfl, rfl⟩
          · exact .inr ⟨k, i, by simp [g1], g2, by omega, g4⟩)
      (by rcases boundO_sound hl el e3 with ⟨rfl, rfl⟩ | ⟨o, k, i, rfl, g1, g2, g3, g4⟩
          · exact .inl ⟨rfl, rfl⟩
          · exact .inr ⟨k, i, by simp [g1], g2, g3, g4⟩)
    exact ⟨hhv, hlv, by simp [Instr.sliceAt, run_underlying ht, Instr.slice, hb, run_sizeT hn]; split <;> rfl⟩
  -- a third bound
  have three : ∀ {len cap M hv lv : Nat} (A : Addr) (mo : Opd), len ≤ cap → mx' = some mo → bound (mo.ev e) len = some M → (∀ d, boundO e hi' M d = some hv → hv ≤ M ∧ (boundO e lo' hv 0 = some lv → lv ≤ hv ∧
      (Instr.sliceAt t (.slice (some A) len cap) (lo.map a.eval) (hi.map a.eval) (mx.map a.eval)).run P w = .ok (.slice (some (if M = lv then A else A.add (lv * n))) (hv - lv) (M - lv)) w)) := by
    intro len cap M hv lv A mo h1 hmx e1 d e2
    subst hmx
    obtain ⟨mo', hmo⟩ : ∃ mo', mx = some mo' := by
      cases mx with
      | none => have := (hsome hm).2 rfl; cases this
      | some o => exact ⟨o, rfl⟩
    subst hmo
    have e1' : boundO e (some mo) len 0 = some M := e1
    have hM : M ≤ len := by rcases boundO_sound hm em e1' with ⟨_, r⟩ | ⟨o, k, i, _, _, _, _, _⟩ <;> omega
    have hhv : hv ≤ M := by
      rcases boundO_sound hh eh e2 with ⟨r0, r⟩ | ⟨o, k, i, _, _, _, _, _⟩
      · subst r0
        have := (hsome hh).2 (hmh rfl)
        cases this
      · omega
    refine ⟨hhv, fun e3 => ?_⟩
    have hlv : lv ≤ hv := by rcases boundO_sound hl el e3 with ⟨_, r⟩ | ⟨o, k, i, _, _, _, _, _⟩ <;> omega
    have hb := sliceBounds_sound (P := P) (w := w) (lo := lo.map a.eval) (hi := hi.map a.eval) (mx := some (a.eval mo')) (len := len) (cap := cap) (l := lv) (h := hv) (M := M) true h1
      (by rcases boundO_sound hm em e1' with ⟨r0, _⟩ | ⟨o, k, i, r0, g1, g2, g3, g4⟩
          · cases r0
          · injection r0 with r0; subst r0
            exact .inr ⟨k, i, by rw [g1], g2, by omega, g4⟩)
      (by rcases boundO_sound hh eh e2 with ⟨r0, r⟩ | ⟨o, k, i, rfl, g1, g2, g3, g4⟩
          · subst r0
            have := (hsome hh).2 (hmh rfl)
            cases this
          · exact .inr ⟨k, i, by simp [g1], g2, g3, g4⟩)
      (by rcases boundO_sound hl el e3 with ⟨rfl, r0⟩ | ⟨o, k, i, rfl, g1, g2, g3, g4⟩
          · exact .inl ⟨rfl, r0⟩
          · exact .inr ⟨k, i, by simp [g1], g2, g3, g4⟩)
    exact ⟨hlv, by simp [Instr.sliceAt, run_underlying ht, Instr.slice, hb, run_sizeT hn]; split <;> rfl⟩
  cases hx with
  | nilS =>
    simp only [evSl] at h
    split at h
    · rename_i M hv lv e1 e2 e3
      injection h with h; subst h
      exact ⟨_, by simp [Instr.sliceAt, run_underlying ht, Instr.slice, zero e1 e2 e3, run_sizeT hn], .nilS⟩
    · cases h
  | zerN =>
    simp only [evSl] at h
    split at h
    · rename_i M hv lv e1 e2 e3
      injection h with h; subst h
      exact ⟨_, by simp [Instr.sliceAt, run_underlying ht, Instr.slice, zero e1 e2 e3, run_sizeT hn], .zerN⟩
    · cases h
  | zerS =>
    simp only [evSl] at h
    split at h
    · rename_i M hv lv e1 e2 e3
      injection h with h; subst h
      exact ⟨_, by simp [Instr.sliceAt, run_underlying ht, Instr.slice, zero e1 e2 e3, run_sizeT hn]; rfl, .zerS⟩
    · cases h
  | lstN =>
    rename_i sz
    simp only [evSl, List.length_nil, List.drop_nil, List.take_nil] at h
    cases hmx : mx' with
    | none =>
      rw [hmx] at h
      simp only at h
      split at h <;> try (cases h; done)
      rename_i hv e2
      split at h <;> try (cases h; done)
      rename_i lv e3
      injection h with h; subst h
      have hhv : hv = 0 := by rcases boundO_sound hh eh e2 with ⟨_, r⟩ | ⟨o, k, i, _, _, _, _, _⟩ <;> omega
      subst hhv
      have e1 : boundO e mx' 0 0 = some 0 := by rw [hmx]; rfl
      exact ⟨_, by simp [Instr.sliceAt, run_underlying ht, Instr.slice, zero e1 e2 e3, run_sizeT hn], .lstN⟩
    | some mo =>
      rw [hmx] at h
      simp only at h
      split at h <;> try (cases h; done)
      rename_i M e1
      split at h <;> try (cases h; done)
      rename_i hv e2
      split at h <;> try (cases h; done)
      rename_i lv e3
      have e1' : boundO e mx' 0 0 = some M := by rw [hmx]; exact e1
      have hM : M = 0 := by rcases boundO_sound hm em e1' with ⟨_, r⟩ | ⟨o, k, i, _, _, _, _, _⟩ <;> omega
      subst hM
      have hhv : hv = 0 := by rcases boundO_sound hh eh e2 with ⟨_, r⟩ | ⟨o, k, i, _, _, _, _, _⟩ <;> omega
      subst hhv
      refine ⟨_, by simp [Instr.sliceAt, run_underlying ht, Instr.slice, zero e1' e2 e3, run_sizeT hn]; rfl, ?_⟩
      split at h
      · injection h with h; subst h; exact .zerN
      · injection h with h; subst h; exact .lstN
  | lst g1 g2 g3 g4 g5 g6 =>
    rename_i sz A cap g o rows vs
    have hsz : sz = n := by simpa [fitsSz] using hf
    subst hsz
    have hx0 : VR m σ (.lst sz rows) (.slice (some A) rows.length cap) := .lst g1 g2 g3 g4 g5 g6
    simp only [evSl] at h
    split at h
    · split at h <;> try (cases h; done)
      rename_i hv e2
      split at h <;> try (cases h; done)
      rename_i lv e3
      injection h with h; subst h
      obtain ⟨k1, k2, k3⟩ := two A g1 rfl e2 e3
      refine ⟨_, k3, hx0.lst_part k1 k2 (by omega) (by omega) (fun hne => by rw [if_neg (by omega)])⟩
    · rename_i mo
      split at h <;> try (cases h; done)
      rename_i M e1
      split at h <;> try (cases h; done)
      rename_i hv e2
      split at h <;> try (cases h; done)
      rename_i lv e3
      have hM : M ≤ rows.length := by
        have e1' : boundO e (some mo) rows.length 0 = some M := e1
        rcases boundO_sound hm em e1' with ⟨_, r⟩ | ⟨o, k, i, _, _, _, _, _⟩ <;> omega
      obtain ⟨k1, k2⟩ := three (hv := hv) (lv := lv) A mo g1 rfl e1 _ e2
      obtain ⟨k3, k4⟩ := k2 e3
      refine ⟨_, k4, ?_⟩
      split at h
      · rename_i hML
        injection h with h; subst h
        subst hML
        have z1 : hv - M = 0 := by omega
        rw [z1, Nat.sub_self]
        exact .zerS
      · injection h with h; subst h
        exact hx0.lst_part (by omega) k3 (by omega) (by omega) (fun hne => by rw [if_neg (by omega)])
  | slc h1 h2 h3 h4 =>
    rename_i b s len sz z A cap
    have hsz : sz = n := by simpa [fitsSz] using hf
    subst hsz
    simp only [evSl] at h
    split at h
    · split at h <;> try (cases h; done)
      rename_i hv e2
      split at h <;> try (cases h; done)
      rename_i lv e3
      injection h with h; subst h
      obtain ⟨hhv, hlv, k3⟩ := two A h1 rfl e2 e3
      refine ⟨_, k3, .slc (by omega) (fun hz => by have := h2 hz; omega) (by omega) ?_⟩
      obtain ⟨L, e1, ez, h5⟩ := h4
      refine ⟨L, e1, ez, fun hc => ?_⟩
      obtain ⟨ea, eo⟩ := h5 (by omega)
      refine ⟨?_, fun ho => ?_⟩
      · rw [if_neg (by omega), ea, addr_add, Nat.add_mul, Nat.add_assoc]
      · rw [← eo ho]; congr 1; omega
    · rename_i mo
      split at h <;> try (cases h; done)
      rename_i M e1
      split at h <;> try (cases h; done)
      rename_i hv e2
      split at h <;> try (cases h; done)
      rename_i lv e3
      split at h <;> try (cases h; done)
      rename_i hML
      subst hML
      injection h with h; subst h
      obtain ⟨k1, k2⟩ := three (hv := hv) (lv := M) A mo h1 rfl e1 _ e2
      obtain ⟨k3, k4⟩ := k2 e3
      refine ⟨_, k4, ?_⟩
      have z1 : hv - M = 0 := by omega
      rw [z1, Nat.sub_self]
      obtain ⟨L, e1, ez, _⟩ := h4
      exact .slc (Nat.le_refl _) (fun _ => rfl) (Nat.zero_le _) ⟨L, e1, ez, fun hc => absurd rfl hc⟩
  | _ => simp only [evSl] at h; cases h

end Go.Proofs.Ytfbkolkkpkonfaa.Eng
