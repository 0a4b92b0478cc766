/- Parts of this claim's proof, joined. No statement of the seat is proved here. -/
import Derived.Test.YticmfblfghdkbaaGreatDoorV1
import Derived.Laws.Tables
import Derived.Laws.MakeOwn
set_option linter.unusedVariables false
set_option linter.unusedSimpArgs false
namespace Go.Proofs.YticmfblfghdkbaaGreatDoor.Eng
open Go
variable {P : Program} {m : LMap} {w : World} {σ : Mem}
theorem Z7p (a b : ByteArray) : (a.toList == b.toList) = decide (a = b) := by
  rw [ByteArray.toList_eq,ByteArray.toList_eq]
  by_cases h : a = b
  · subst h; simp
  · have : ¬ (a.data.toList = b.data.toList) := fun e => h (by
      obtain ⟨⟨x⟩⟩ := a
      obtain ⟨⟨y⟩⟩ := b
      simp at e
      rw [e])
    simp only [h,decide_false,beq_eq_false_iff_ne,ne_eq,this,not_false_eq_true]
theorem Zbha {op : BinOp} {k k' : IntKind} {a b : Int} {c : Cell} (h : Zch op (.int k a) (.int k' b) = some c) (t : TypeId) :
    ∃ v,(binOp op t (.int k a) (.int k' b)).run P w = .ok v w ∧ VR m σ c v := by
  cases op <;> simp only [Zch] at h <;> first
    | (split at h <;> first
        | (split at h <;> first
            | (cases h; done)
            | (injection h with h; subst h; rename_i hk hb; subst hk; exact ⟨_,by simp only [binOp,ne_eq,not_true,if_false,Op.intDiv,hb]; rfl,.int _ _⟩))
        | (injection h with h; subst h; rename_i hk; first
            | (subst hk; first
                | exact ⟨_,by simp only [binOp,ne_eq,not_true,if_false,Op.intArith]; rfl,.int _ _⟩
                | exact ⟨_,by simp only [binOp,ne_eq,not_true,if_false,Op.intBits]; rfl,.int _ _⟩
                | exact ⟨_,by simp only [binOp,ne_eq,not_true,if_false,Op.intCmp]; rfl,.bool _⟩)
            | exact ⟨_,by simp only [binOp,Op.shift,show ¬ (b < 0) by omega,if_false]; rfl,.int _ _⟩)
        | (cases h; done))
    | (cases h; done)
theorem Zbii {op : BinOp} {a b : ByteArray} {c : Cell} (h : Zch op (.str a) (.str b) = some c) (t : TypeId) :
    ∃ v,(binOp op t (.string a) (.string b)).run P w = .ok v w ∧ VR m σ c v := by
  have hadd : a.size + b.size ≤ 9223372036854775807 → ¬ (((a.size + b.size : Nat) : Int) > IntKind.i64.max) := by
    intro h
    have : IntKind.i64.max = 9223372036854775807 := by decide
    omega
  cases op <;> simp only [Zch] at h <;> first
    | (split at h
       · injection h with h; subst h
         rename_i hs
         exact ⟨_,by simp only [binOp,Op.stringOp,hadd hs,if_false]; rfl,.str _⟩
       · cases h)
    | (injection h with h; subst h; exact ⟨_,by simp only [binOp,Op.stringOp,Z7p]; rfl,.bool _⟩)
    | (cases h; done)
theorem Zyu {t : TypeId} (ht : P.underlying t = some .bool) (a b : Bool) : (Op.equal t (.bool a) (.bool b)).run P w = .ok (a == b) w := by
  exact run_equalIn_bool' w 9999 t a b ht
theorem Zbd7 {neg : Bool} {op : BinOp} (hop : op = if neg then .neq else .eql) {a b : Bool} {t : TypeId} (ht : P.underlying t = some .bool) (o1 o2 : Operand) :
    (do eqGuard op t o1 o2 (.bool a) (.bool b); binOp op t (.bool a) (.bool b) : Sem Value).run P w = .ok (.bool (neg != (a == b))) w := by
  cases neg <;> subst hop
  · simp only [Bool.false_eq_true,if_false,eqGuard,binOp,Sem.run_bind,Zyu ht,Result.andThen_ok]
    simp
  · simp only [if_true,eqGuard,binOp,Sem.run_bind,Zyu ht,Result.andThen_ok]
    simp
theorem Zr3 (op : BinOp) (t : TypeId) (x y : Operand) (a b : Value) (h1 : a ≠ .nilIface ∨ b ≠ .nilIface) (h2 : ∀ cs,a ≠ .agg cs) : (eqGuard op t x y a b).run P w = .ok () w := by
  unfold eqGuard
  cases op <;> simp only [] <;> first
    | rfl
    | (cases a <;> cases b <;> first
        | (exfalso; rcases h1 with h1 | h1 <;> exact h1 rfl)
        | (exfalso; exact h2 _ rfl)
        | rfl)
theorem VR.noAgg {c v} (h : VR m σ c v) : ∀ cs,v ≠ .agg cs := by intro cs; cases h <;> intro h <;> cases h
theorem Zbal {op : BinOp} {x y : Cell} {c : Cell} (h : Zch op x y = some c) {t : TypeId} {vx vy : Value} (hx : VR m σ x vx) (hy : VR m σ y vy) (o1 o2 : Operand) :
    ∃ v,(do eqGuard op t o1 o2 vx vy; binOp op t vx vy : Sem Value).run P w = .ok v w ∧ VR m σ c v := by
  have key : (∃ v,(binOp op t vx vy).run P w = .ok v w ∧ VR m σ c v) ∧ (vx ≠ .nilIface ∨ vy ≠ .nilIface) := by
    cases hx <;> cases hy <;> first
      | (simp only [Zch] at h; cases h)
      | exact ⟨Zbha h t,.inl (by intro h; cases h)⟩
      | exact ⟨Zbii h t,.inl (by intro h; cases h)⟩
  obtain ⟨⟨v,h1,h2⟩,h3⟩ := key
  exact ⟨v,by rw [Sem.run_bind,Zr3 op t o1 o2 vx vy h3 hx.noAgg]; exact h1,h2⟩
theorem Z3i {t e : TypeId} (ht : P.underlying t = some (.slice e)) : (Op.equal t (.slice none 0 0) (.slice none 0 0)).run P w = .ok true w := by
  show (Op.equalIn (9999 + 1) t (.slice none 0 0) (.slice none 0 0)).run P w = _
  unfold Op.equalIn
  simp only [Sem.run_bind,run_underlying ht,Result.andThen_ok]
  rfl
theorem Zwt {t e : TypeId} (ht : P.underlying t = some (.slice e)) (A : Addr) (n c : Nat) : (Op.equal t (.slice none 0 0) (.slice (some A) n c)).run P w = .ok false w := by
  show (Op.equalIn (9999 + 1) t (.slice none 0 0) (.slice (some A) n c)).run P w = _
  unfold Op.equalIn
  simp only [Sem.run_bind,run_underlying ht,Result.andThen_ok]
  rfl
theorem Zw1 {t e : TypeId} (ht : P.underlying t = some (.slice e)) (A : Addr) (n c : Nat) : (Op.equal t (.slice (some A) n c) (.slice none 0 0)).run P w = .ok false w := by
  show (Op.equalIn (9999 + 1) t (.slice (some A) n c) (.slice none 0 0)).run P w = _
  unfold Op.equalIn
  simp only [Sem.run_bind,run_underlying ht,Result.andThen_ok]
  rfl
theorem Z3o {t : TypeId} {ms : Array (String × TypeId)} (ht : P.underlying t = some (.interface ms)) : (Op.equal t .nilIface .nilIface).run P w = .ok true w := by
  show (Op.equalIn (9999 + 1) t .nilIface .nilIface).run P w = _
  unfold Op.equalIn
  simp only [Sem.run_bind,run_underlying ht,Result.andThen_ok]
  rfl
theorem Z3z {t : TypeId} {ms : Array (String × TypeId)} (ht : P.underlying t = some (.interface ms)) (u : TypeId) (x : Value) : (Op.equal t .nilIface (.iface u x)).run P w = .ok false w := by
  show (Op.equalIn (9999 + 1) t .nilIface (.iface u x)).run P w = _
  unfold Op.equalIn
  simp only [Sem.run_bind,run_underlying ht,Result.andThen_ok]
  rfl
theorem Z3p {t : TypeId} {ms : Array (String × TypeId)} (ht : P.underlying t = some (.interface ms)) (u : TypeId) (x : Value) : (Op.equal t (.iface u x) .nilIface).run P w = .ok false w := by
  show (Op.equalIn (9999 + 1) t (.iface u x) .nilIface).run P w = _
  unfold Op.equalIn
  simp only [Sem.run_bind,run_underlying ht,Result.andThen_ok]
  rfl
theorem Zbg0 {sz : Nat} {rows : List (List Cell)} {b : Bool} (h : Zfl true (.lst sz rows) .nilS = some b) : b = false := by
  cases rows with
  | nil => simp [Zfl] at h
  | cons => simp [Zfl] at h; exact h
theorem Zbhh {sz : Nat} {rows : List (List Cell)} {b : Bool} (h : Zfl true .nilS (.lst sz rows) = some b) : b = false := by
  cases rows with
  | nil => simp [Zfl] at h
  | cons => simp [Zfl] at h; exact h
theorem Zbcb {sl neg b : Bool} {x y : Cell} (h : Zfl sl x y = some b) {t : TypeId} (ht : (if sl then ∃ e,P.underlying t = some (.slice e) else ∃ ms,P.underlying t = some (.interface ms))) {vx vy : Value} (hx : VR m σ x vx) (hy : VR m σ y vy)
    (o1 o2 : Operand) (ho : Zgn o1 || Zgn o2) (op : BinOp) (hop : op = if neg then .neq else .eql) :
    ∃ v,(do eqGuard op t o1 o2 vx vy; binOp op t vx vy : Sem Value).run P w = .ok v w ∧ VR m σ (.bool (neg != b)) v := by
  have hg : (eqGuard op t o1 o2 vx vy).run P w = .ok () w := by
    by_cases hn : vx = .nilIface ∧ vy = .nilIface
    · obtain ⟨rfl,rfl⟩ := hn
      cases neg <;> subst hop <;> cases o1 <;> cases o2 <;> first
        | (exfalso; simp [Zgn] at ho; done)
        | simp [eqGuard]
    · refine Zr3 op t o1 o2 vx vy ?_ hx.noAgg
      by_cases h1 : vx = .nilIface
      · exact .inr fun h2 => hn ⟨h1,h2⟩
      · exact .inl h1
  have he : ∃ r,(Op.equal t vx vy).run P w = .ok r w ∧ r = b := by
    cases sl with
    | true =>
      obtain ⟨e,ht⟩ := ht
      cases hx <;> cases hy <;> simp only [Zfl] at h <;> first
        | (cases h; done)
        | (injection h with h; subst h; first | exact ⟨_,Z3i ht,rfl⟩ | exact ⟨_,Zwt ht _ _ _,rfl⟩ | exact ⟨_,Zw1 ht _ _ _,rfl⟩ | exact ⟨_,Z3o ht,rfl⟩ | exact ⟨_,Z3z ht _ _,rfl⟩ | exact ⟨_,Z3p ht _ _,rfl⟩)
        | (obtain rfl := Zbg0 h; exact ⟨_,Zw1 ht _ _ _,rfl⟩)
        | (obtain rfl := Zbhh h; exact ⟨_,Zwt ht _ _ _,rfl⟩)
    | false =>
      obtain ⟨ms,ht⟩ := ht
      cases hx <;> cases hy <;> simp only [Zfl] at h <;> first
        | (cases h; done)
        | (injection h with h; subst h; first | exact ⟨_,Z3i ht,rfl⟩ | exact ⟨_,Zwt ht _ _ _,rfl⟩ | exact ⟨_,Zw1 ht _ _ _,rfl⟩ | exact ⟨_,Z3o ht,rfl⟩ | exact ⟨_,Z3z ht _ _,rfl⟩ | exact ⟨_,Z3p ht _ _,rfl⟩)
  obtain ⟨r,he,rfl⟩ := he
  have hb : (binOp op t vx vy).run P w = .ok (.bool (neg != r)) w := by
    cases sl with
    | true =>
      cases hx <;> cases hy <;> simp only [Zfl] at h <;> first
        | (cases h; done)
        | (cases neg <;> subst hop <;> simp [binOp,he])
        | (split at h <;> first | (cases h; done) | (cases neg <;> subst hop <;> simp [binOp,he]))
    | false =>
      cases hx <;> cases hy <;> simp only [Zfl] at h <;> first
        | (cases h; done)
        | (cases neg <;> subst hop <;> simp [binOp,he])
  exact ⟨_,by rw [Sem.run_bind,hg]; exact hb,.bool _⟩
theorem Zbfx {op : UnOp} {x c : Cell} (h : evUn op x = some c) {vx : Value} (hx : VR m σ x vx) : ∃ v,(Op.unary op vx).run P w = .ok v w ∧ VR m σ c v := by
  cases op <;> cases hx <;> simp only [evUn] at h <;> first
    | (cases h; done)
    | (injection h with h; subst h; first | exact ⟨_,rfl,.int _ _⟩ | exact ⟨_,rfl,.bool _⟩)
theorem Z8x {s d : TypeId} {k ks : IntKind} (hs : P.underlying s = some (.int ks)) (hd : P.underlying d = some (.int k)) (k' : IntKind) (n : Int) :
    (convert s d (.int k' n)).run P w = .ok (.int k (k.wrap n)) w := by
  simp [convert,run_underlying hs,run_underlying hd,Conv.intToInt]
theorem Z18 {s d : TypeId} (hs : P.underlying s = some .string) (hd : P.underlying d = some .string) (b : ByteArray) :
    (convert s d (.string b)).run P w = .ok (.string b) w := by
  simp [convert,run_underlying hs,run_underlying hd]
theorem Z5s {v : AVal} {y n : Nat} (h : Zi6 v y = some n) {u : Value} (hu : VRA m σ v u) : ∃ k i,u = .int k i ∧ 0 ≤ i ∧ i ≤ y ∧ i.toNat = n := by
  unfold Zi6 at h
  split at h
  · split at h
    · rename_i hc
      injection h with h
      cases hu with
      | c hu => cases hu; exact ⟨_,_,rfl,hc.1,hc.2,h⟩
    · cases h
  · cases h
theorem Z4 {x : Option Operand} {y : Option Opd} (hc : cmpO x = some y) {e : Env} {a : Act} (he : EnvOn m σ (Zf5 y) e a) {n d r : Nat} (h : Zby e y n d = some r) :
    (x = none ∧ r = d) ∨ ∃ o k i,x = some o ∧ a.eval o = .int k i ∧ 0 ≤ i ∧ i ≤ n ∧ i.toNat = r := by
  unfold cmpO at hc
  split at hc
  · injection hc with hc; subst hc; simp [Zby] at h; exact .inl ⟨rfl,h.symm⟩
  · split at hc
    · injection hc with hc; subst hc
      rename_i o _ z hz
      obtain ⟨k,i,h1,h2,h3,h4⟩ := Z5s (by simpa [Zby] using h) (Zcp hz he)
      exact .inr ⟨o,k,i,rfl,h1,h2,h3,h4⟩
    · cases hc
theorem Zep {lo hi mx : Option Value} {len cap l h M : Nat} (isSl : Bool) (hlc : len ≤ cap)
    (h1 : (mx = none ∧ M = cap) ∨ ∃ k i,mx = some (.int k i) ∧ 0 ≤ i ∧ i ≤ cap ∧ i.toNat = M)
    (h2 : (hi = none ∧ mx = none ∧ h = len) ∨ ∃ k i,hi = some (.int k i) ∧ 0 ≤ i ∧ i ≤ M ∧ i.toNat = h)
    (h3 : (lo = none ∧ l = 0) ∨ ∃ k i,lo = some (.int k i) ∧ 0 ≤ i ∧ i ≤ h ∧ i.toNat = l) :
    (Instr.sliceBounds isSl len cap lo hi mx).run P w = .ok (l,h,M) w := by
  have S : ∀ {k : IntKind} {i : Int} {y n : Nat} (code : BoundsCode),0 ≤ i → i ≤ (y : Int) → i.toNat = n → (Instr.sliceBound (.int k i) y code).run P w = .ok n w := by
    intro k i y n code a b e
    rw [run_sliceBound w k i y code a b,e]
  unfold Instr.sliceBounds
  rcases h1 with ⟨rfl,rfl⟩ | ⟨k1,i1,rfl,a1,b1,e1⟩ <;>
  rcases h2 with ⟨rfl,hx,rfl⟩ | ⟨k2,i2,rfl,a2,b2,e2⟩ <;>
  rcases h3 with ⟨rfl,rfl⟩ | ⟨k3,i3,rfl,a3,b3,e3⟩ <;>
  first
    | (exfalso; cases hx; done)
    | rfl
    | (simp only [Sem.run_bind,Sem.run_pure,Result.andThen_ok,S _ a2 b2 e2]; done)
    | (simp only [Sem.run_bind,Sem.run_pure,Result.andThen_ok,S _ a3 b3 e3]; done)
    | (simp only [Sem.run_bind,Sem.run_pure,Result.andThen_ok,S _ a2 b2 e2,S _ a3 b3 e3]; done)
    | (simp only [Sem.run_bind,Sem.run_pure,Result.andThen_ok,S _ a1 b1 e1,S _ a2 b2 e2]; done)
    | (simp only [Sem.run_bind,Sem.run_pure,Result.andThen_ok,S _ a1 b1 e1,S _ a2 b2 e2,S _ a3 b3 e3]; done)
theorem Zbb0 {s : ByteArray} {e : Env} {a : Act} {lo hi : Option Operand} {lo' hi' : Option Opd} (hl : cmpO lo = some lo') (hh : cmpO hi = some hi') (el : EnvOn m σ (Zf5 lo') e a) (eh : EnvOn m σ (Zf5 hi') e a)
    {r : ByteArray} (h : Zuq s e lo' hi' = some r) {t : TypeId} (ht : P.underlying t = some .string) :
    (Instr.sliceAt t (.string s) (lo.map a.eval) (hi.map a.eval) none).run P w = .ok (.string r) w := by
  unfold Zuq at h
  split at h
  · rename_i hv hhv
    split at h
    · rename_i lv hlv
      injection h with h; subst h
      have hb := Zep (P := P) (w := w) (lo := lo.map a.eval) (hi := hi.map a.eval) (mx := none) (len := s.size) (cap := s.size) (l := lv) (h := hv) (M := s.size) false (Nat.le_refl _) (.inl ⟨rfl,rfl⟩)
        (by rcases Z4 hh eh hhv with ⟨rfl,rfl⟩ | ⟨o,k,i,rfl,h1,h2,h3,h4⟩
            · exact .inl ⟨rfl,rfl,rfl⟩
            · exact .inr ⟨k,i,by simp [h1],h2,h3,h4⟩)
        (by rcases Z4 hl el hlv with ⟨rfl,rfl⟩ | ⟨o,k,i,rfl,h1,h2,h3,h4⟩
            · exact .inl ⟨rfl,rfl⟩
            · exact .inr ⟨k,i,by simp [h1],h2,h3,h4⟩)
      simp [Instr.sliceAt,run_underlying ht,Instr.slice,hb]
    · cases h
  · cases h
theorem VR.lst' {sz n c : Nat} {A : Addr} {g o : Nat} {rows : List (List Cell)} {vs : Nat → Nat → Value} (hn : n = rows.length) (h1 : n ≤ c) (h2 : c ≤ maxLen) (h3 : rows ≠ [] → A = ⟨g,o,none⟩ ∧ m.z g) (h4 : ∀ (i : Nat) r,rows[i]? = some r → r.length = sz)
    (h5 : ∀ (i : Nat) r (f : Nat) x,rows[i]? = some r → r[f]? = some x → σ.cell ⟨g,o + i * sz + f,none⟩ = some (vs i f)) (h6 : ∀ (i : Nat) r (f : Nat) x,rows[i]? = some r → r[f]? = some x → VR m σ x (vs i f)) :
    VR m σ (.lst sz rows) (.slice (some A) n c) := by
  subst hn; exact .lst h1 h2 h3 h4 h5 h6
theorem VR.lst_part {sz cap l h : Nat} {A A' : Addr} {n cap' : Nat} {rows : List (List Cell)} (hx : VR m σ (.lst sz rows) (.slice (some A) n cap)) (hh : h ≤ n) (hl : l ≤ h) (hc : h - l ≤ cap') (hc2 : cap' ≤ cap) (ha : h ≠ l → A' = A.add (l * sz)) :
    VR m σ (.lst sz ((rows.drop l).take (h - l))) (.slice (some A') (h - l) cap') := by
  cases hx with
  | @lst _ _ _ g o _ vs h1 h2 h3 h4 h5 h6 =>
    have hget : ∀ (i : Nat) r,((rows.drop l).take (h - l))[i]? = some r → rows[l + i]? = some r := fun i r e => by
      rw [List.getElem?_take] at e
      split at e
      · rw [List.getElem?_drop] at e; exact e
      · cases e
    refine VR.lst' (g := g) (o := o + l * sz) (vs := fun i f => vs (l + i) f) (by simp; omega) hc (by omega) (fun hr => ?_) (fun i r e => h4 _ r (hget i r e)) (fun i r f x e1 e2 => ?_) (fun i r f x e1 e2 => h6 _ r f x (hget i r e1) e2)
    · have hne : rows ≠ [] := by intro h0; subst h0; simp at hr
      obtain ⟨ea,hz⟩ := h3 hne
      have hhl : h ≠ l := by intro e; subst e; simp at hr
      rw [ha hhl,ea]
      refine ⟨?_,hz⟩
      rw [Zcg]
    · have := h5 _ r f x (hget i r e1) e2
      rw [← this]
      congr 2
      rw [Nat.add_mul]; omega
theorem Z9j {n sz f : Nat} {row : List Cell} : (Zg0 n sz row f).length = n := by simp [Zg0]
theorem Zbbe {n sz f : Nat} {row : List Cell} (hc : f + n * sz ≤ row.length) (hn : n ≤ 1000000) {t q : TypeId} (ht : P.underlying t = some (.array n q)) (hq : Zbk P q = some sz) {vx : Value} (hx : VR m σ (.fp row f) vx) :
    ∃ v,(Instr.sliceAt t vx none none none).run P w = .ok v w ∧ VR m σ (.lst sz (Zg0 n sz row f)) v := by
  cases hx with
  | @fp _ g o _ vs h1 h2 h3 =>
    refine ⟨.slice (some ⟨g,o + f,none⟩) n n,?_,?_⟩
    · have hb := Zep (P := P) (w := w) (lo := none) (hi := none) (mx := none) (len := n) (cap := n) (l := 0) (h := n) (M := n) false (Nat.le_refl _) (.inl ⟨rfl,rfl⟩) (.inl ⟨rfl,rfl,rfl⟩) (.inl ⟨rfl,rfl⟩)
      simp only [Instr.sliceAt,Sem.run_bind,run_underlying ht,Result.andThen_ok,Instr.sureAddr,Sem.run_pure,hb,Zck hq]
      by_cases h0 : n = 0
      · simp [h0,Sem.run_pure]
      · simp [Sem.run_pure,Addr.add]
    · have hat : ∀ (i : Nat) r,(Zg0 n sz row f)[i]? = some r → i < n ∧ r = (row.drop (f + i * sz)).take sz := fun i r e => by
        unfold Zg0 at e
        rw [List.getElem?_map] at e
        cases hr : (List.range n)[i]? with
        | none => rw [hr] at e; cases e
        | some j =>
          rw [hr] at e
          obtain ⟨k1,k2⟩ := List.getElem?_eq_some_iff.1 hr
          simp at k1 k2
          subst k2
          injection e with e
          exact ⟨k1,e.symm⟩
      have hle : ∀ i,i < n → f + i * sz + sz ≤ row.length := fun i hi => by
        have : i * sz + sz ≤ n * sz := by rw [← Nat.succ_mul]; exact Nat.mul_le_mul_right _ hi
        omega
      refine VR.lst' (g := g) (o := o + f) (vs := fun i j => vs (f + i * sz + j)) (by rw [Z9j]) (Nat.le_refl _) (by unfold maxLen; omega) (fun _ => ⟨rfl,h1⟩) (fun i r e => ?_) (fun i r j x e1 e2 => ?_) (fun i r j x e1 e2 => ?_)
      · obtain ⟨k1,rfl⟩ := hat i r e
        have := hle i k1
        simp; omega
      · obtain ⟨k1,rfl⟩ := hat i r e1
        rw [List.getElem?_take] at e2
        split at e2
        · rw [List.getElem?_drop] at e2
          have := h2 _ _ e2
          rw [← this]
          congr 2
          omega
        · cases e2
      · obtain ⟨k1,rfl⟩ := hat i r e1
        rw [List.getElem?_take] at e2
        split at e2
        · rw [List.getElem?_drop] at e2
          exact h3 _ _ e2
        · cases e2
theorem Zbed {x c : Cell} {e : Env} {a : Act} {lo hi mx : Option Operand} {lo' hi' mx' : Option Opd} (hl : cmpO lo = some lo') (hh : cmpO hi = some hi') (hm : cmpO mx = some mx')
    (el : EnvOn m σ (Zf5 lo') e a) (eh : EnvOn m σ (Zf5 hi') e a) (em : EnvOn m σ (Zf5 mx') e a) (hmh : mx'.isSome → hi'.isSome)
    (h : evSl x e lo' hi' mx' = some c) {n : Nat} (hf : Zbh n x = true) {t q : TypeId} (ht : P.underlying t = some (.slice q)) (hn : Zbk P q = some n) {vx : Value} (hx : VR m σ x vx) :
    ∃ v,(Instr.sliceAt t vx (lo.map a.eval) (hi.map a.eval) (mx.map a.eval)).run P w = .ok v w ∧ VR m σ c v := by
  have hsome : ∀ {o : Option Operand} {o' : Option Opd},cmpO o = some o' → (o.isSome ↔ o'.isSome) := by
    intro o o' ho
    unfold cmpO at ho
    split at ho
    · injection ho with ho; subst ho; simp
    · split at ho
      · injection ho with ho; subst ho; simp
      · cases ho
  have zero : ∀ {M hv lv : Nat},Zby e mx' 0 0 = some M → Zby e hi' 0 0 = some hv → Zby e lo' 0 0 = some lv → (Instr.sliceBounds true 0 0 (lo.map a.eval) (hi.map a.eval) (mx.map a.eval)).run P w = .ok (0,0,0) w := by
    intro M hv lv e1 e2 e3
    have z1 : M = 0 := by rcases Z4 hm em e1 with ⟨_,r⟩ | ⟨o,k,i,_,_,_,_,_⟩ <;> omega
    have z2 : hv = 0 := by rcases Z4 hh eh e2 with ⟨_,r⟩ | ⟨o,k,i,_,_,_,_,_⟩ <;> omega
    have z3 : lv = 0 := by rcases Z4 hl el e3 with ⟨_,r⟩ | ⟨o,k,i,_,_,_,_,_⟩ <;> omega
    subst z1; subst z2; subst z3
    exact Zep (P := P) (w := w) (lo := lo.map a.eval) (hi := hi.map a.eval) (mx := mx.map a.eval) (len := 0) (cap := 0) (l := 0) (h := 0) (M := 0) true (Nat.le_refl _)
        (by rcases Z4 hm em e1 with ⟨rfl,r⟩ | ⟨o,k,i,rfl,h1,h2,h3,h4⟩
            · exact .inl ⟨rfl,rfl⟩
            · exact .inr ⟨k,i,by simp [h1],h2,h3,h4⟩)
        (by rcases Z4 hh eh e2 with ⟨rfl,r⟩ | ⟨o,k,i,rfl,h1,h2,h3,h4⟩
            · refine .inl ⟨rfl,?_,rfl⟩
              cases mx with
              | none => rfl
              | some o =>
                have := hmh ((hsome hm).1 rfl)
                have := (hsome hh).2 this
                cases this
            · exact .inr ⟨k,i,by simp [h1],h2,h3,h4⟩)
        (by rcases Z4 hl el e3 with ⟨rfl,r⟩ | ⟨o,k,i,rfl,h1,h2,h3,h4⟩
            · exact .inl ⟨rfl,rfl⟩
            · exact .inr ⟨k,i,by simp [h1],h2,h3,h4⟩)
  have two : ∀ {len cap hv lv : Nat} (A : Addr),len ≤ cap → mx' = none → Zby e hi' len len = some hv → Zby e lo' hv 0 = some lv → hv ≤ len ∧ lv ≤ hv ∧
      (Instr.sliceAt t (.slice (some A) len cap) (lo.map a.eval) (hi.map a.eval) (mx.map a.eval)).run P w = .ok (.slice (some (if cap = lv then A else A.add (lv * n))) (hv - lv) (cap - lv)) w := by
    intro len cap hv lv A h1 hmx e2 e3
    have hmn : mx = none := by
      cases mx with
      | none => rfl
      | some o => have := (hsome hm).1 rfl; rw [hmx] at this; cases this
    subst hmn
    have hhv : hv ≤ len := by rcases Z4 hh eh e2 with ⟨_,r⟩ | ⟨o,k,i,_,_,_,_,_⟩ <;> omega
    have hlv : lv ≤ hv := by rcases Z4 hl el e3 with ⟨_,r⟩ | ⟨o,k,i,_,_,_,_,_⟩ <;> omega
    have hb := Zep (P := P) (w := w) (lo := lo.map a.eval) (hi := hi.map a.eval) (mx := none) (len := len) (cap := cap) (l := lv) (h := hv) (M := cap) true h1 (.inl ⟨rfl,rfl⟩)
      (by rcases Z4 hh eh e2 with ⟨rfl,rfl⟩ | ⟨o,k,i,rfl,g1,g2,g3,g4⟩
          · exact .inl ⟨rfl,rfl,rfl⟩
          · exact .inr ⟨k,i,by simp [g1],g2,by omega,g4⟩)
      (by rcases Z4 hl el e3 with ⟨rfl,rfl⟩ | ⟨o,k,i,rfl,g1,g2,g3,g4⟩
          · exact .inl ⟨rfl,rfl⟩
          · exact .inr ⟨k,i,by simp [g1],g2,g3,g4⟩)
    exact ⟨hhv,hlv,by simp [Instr.sliceAt,run_underlying ht,Instr.slice,hb,Zck hn]; split <;> rfl⟩
  have three : ∀ {len cap M hv lv : Nat} (A : Addr) (mo : Opd),len ≤ cap → mx' = some mo → Zi6 (mo.ev e) len = some M → (∀ d,Zby e hi' M d = some hv → hv ≤ M ∧ (Zby e lo' hv 0 = some lv → lv ≤ hv ∧
      (Instr.sliceAt t (.slice (some A) len cap) (lo.map a.eval) (hi.map a.eval) (mx.map a.eval)).run P w = .ok (.slice (some (if M = lv then A else A.add (lv * n))) (hv - lv) (M - lv)) w)) := by
    intro len cap M hv lv A mo h1 hmx e1 d e2
    subst hmx
    obtain ⟨mo',hmo⟩ : ∃ mo',mx = some mo' := by
      cases mx with
      | none => have := (hsome hm).2 rfl; cases this
      | some o => exact ⟨o,rfl⟩
    subst hmo
    have e1' : Zby e (some mo) len 0 = some M := e1
    have hM : M ≤ len := by rcases Z4 hm em e1' with ⟨_,r⟩ | ⟨o,k,i,_,_,_,_,_⟩ <;> omega
    have hhv : hv ≤ M := by
      rcases Z4 hh eh e2 with ⟨r0,r⟩ | ⟨o,k,i,_,_,_,_,_⟩
      · subst r0
        have := (hsome hh).2 (hmh rfl)
        cases this
      · omega
    refine ⟨hhv,fun e3 => ?_⟩
    have hlv : lv ≤ hv := by rcases Z4 hl el e3 with ⟨_,r⟩ | ⟨o,k,i,_,_,_,_,_⟩ <;> omega
    have hb := Zep (P := P) (w := w) (lo := lo.map a.eval) (hi := hi.map a.eval) (mx := some (a.eval mo')) (len := len) (cap := cap) (l := lv) (h := hv) (M := M) true h1
      (by rcases Z4 hm em e1' with ⟨r0,_⟩ | ⟨o,k,i,r0,g1,g2,g3,g4⟩
          · cases r0
          · injection r0 with r0; subst r0
            exact .inr ⟨k,i,by rw [g1],g2,by omega,g4⟩)
      (by rcases Z4 hh eh e2 with ⟨r0,r⟩ | ⟨o,k,i,rfl,g1,g2,g3,g4⟩
          · subst r0
            have := (hsome hh).2 (hmh rfl)
            cases this
          · exact .inr ⟨k,i,by simp [g1],g2,g3,g4⟩)
      (by rcases Z4 hl el e3 with ⟨rfl,r0⟩ | ⟨o,k,i,rfl,g1,g2,g3,g4⟩
          · exact .inl ⟨rfl,r0⟩
          · exact .inr ⟨k,i,by simp [g1],g2,g3,g4⟩)
    exact ⟨hlv,by simp [Instr.sliceAt,run_underlying ht,Instr.slice,hb,Zck hn]; split <;> rfl⟩
  cases hx with
  | nilS =>
    simp only [evSl] at h
    split at h
    · rename_i M hv lv e1 e2 e3
      injection h with h; subst h
      exact ⟨_,by simp [Instr.sliceAt,run_underlying ht,Instr.slice,zero e1 e2 e3,Zck hn],.nilS⟩
    · cases h
  | zerN =>
    simp only [evSl] at h
    split at h
    · rename_i M hv lv e1 e2 e3
      injection h with h; subst h
      exact ⟨_,by simp [Instr.sliceAt,run_underlying ht,Instr.slice,zero e1 e2 e3,Zck hn],.zerN⟩
    · cases h
  | zerS =>
    simp only [evSl] at h
    split at h
    · rename_i M hv lv e1 e2 e3
      injection h with h; subst h
      exact ⟨_,by simp [Instr.sliceAt,run_underlying ht,Instr.slice,zero e1 e2 e3,Zck hn]; rfl,.zerS⟩
    · cases h
  | lstN =>
    rename_i sz
    simp only [evSl,List.length_nil,List.drop_nil,List.take_nil] at h
    cases hmx : mx' with
    | none =>
      rw [hmx] at h
      simp only at h
      split at h <;> try (cases h; done)
      rename_i hv e2
      split at h <;> try (cases h; done)
      rename_i lv e3
      injection h with h; subst h
      have hhv : hv = 0 := by rcases Z4 hh eh e2 with ⟨_,r⟩ | ⟨o,k,i,_,_,_,_,_⟩ <;> omega
      subst hhv
      have e1 : Zby e mx' 0 0 = some 0 := by rw [hmx]; rfl
      exact ⟨_,by simp [Instr.sliceAt,run_underlying ht,Instr.slice,zero e1 e2 e3,Zck hn],.lstN⟩
    | some mo =>
      rw [hmx] at h
      simp only at h
      split at h <;> try (cases h; done)
      rename_i M e1
      split at h <;> try (cases h; done)
      rename_i hv e2
      split at h <;> try (cases h; done)
      rename_i lv e3
      have e1' : Zby e mx' 0 0 = some M := by rw [hmx]; exact e1
      have hM : M = 0 := by rcases Z4 hm em e1' with ⟨_,r⟩ | ⟨o,k,i,_,_,_,_,_⟩ <;> omega
      subst hM
      have hhv : hv = 0 := by rcases Z4 hh eh e2 with ⟨_,r⟩ | ⟨o,k,i,_,_,_,_,_⟩ <;> omega
      subst hhv
      refine ⟨_,by simp [Instr.sliceAt,run_underlying ht,Instr.slice,zero e1' e2 e3,Zck hn]; rfl,?_⟩
      split at h
      · injection h with h; subst h; exact .zerN
      · injection h with h; subst h; exact .lstN
  | lst g1 g2 g3 g4 g5 g6 =>
    rename_i sz A cap g o rows vs
    have hsz : sz = n := by simpa [Zbh] using hf
    subst hsz
    have hx0 : VR m σ (.lst sz rows) (.slice (some A) rows.length cap) := .lst g1 g2 g3 g4 g5 g6
    simp only [evSl] at h
    split at h
    · split at h <;> try (cases h; done)
      rename_i hv e2
      split at h <;> try (cases h; done)
      rename_i lv e3
      injection h with h; subst h
      obtain ⟨k1,k2,k3⟩ := two A g1 rfl e2 e3
      refine ⟨_,k3,hx0.lst_part k1 k2 (by omega) (by omega) (fun hne => by rw [if_neg (by omega)])⟩
    · rename_i mo
      split at h <;> try (cases h; done)
      rename_i M e1
      split at h <;> try (cases h; done)
      rename_i hv e2
      split at h <;> try (cases h; done)
      rename_i lv e3
      have hM : M ≤ rows.length := by
        have e1' : Zby e (some mo) rows.length 0 = some M := e1
        rcases Z4 hm em e1' with ⟨_,r⟩ | ⟨o,k,i,_,_,_,_,_⟩ <;> omega
      obtain ⟨k1,k2⟩ := three (hv := hv) (lv := lv) A mo g1 rfl e1 _ e2
      obtain ⟨k3,k4⟩ := k2 e3
      refine ⟨_,k4,?_⟩
      split at h
      · rename_i hML
        injection h with h; subst h
        subst hML
        have z1 : hv - M = 0 := by omega
        rw [z1,Nat.sub_self]
        exact .zerS
      · injection h with h; subst h
        exact hx0.lst_part (by omega) k3 (by omega) (by omega) (fun hne => by rw [if_neg (by omega)])
  | slc h1 h2 h3 h4 =>
    rename_i b s len sz z A cap
    have hsz : sz = n := by simpa [Zbh] using hf
    subst hsz
    simp only [evSl] at h
    split at h
    · split at h <;> try (cases h; done)
      rename_i hv e2
      split at h <;> try (cases h; done)
      rename_i lv e3
      injection h with h; subst h
      obtain ⟨hhv,hlv,k3⟩ := two A h1 rfl e2 e3
      refine ⟨_,k3,.slc (by omega) (fun hz => by have := h2 hz; omega) (by omega) ?_⟩
      obtain ⟨L,e1,ez,h5⟩ := h4
      refine ⟨L,e1,ez,fun hc => ?_⟩
      obtain ⟨ea,eo⟩ := h5 (by omega)
      refine ⟨?_,fun ho => ?_⟩
      · rw [if_neg (by omega),ea,Zcg,Nat.add_mul,Nat.add_assoc]
      · rw [← eo ho]; congr 1; omega
    · rename_i mo
      split at h <;> try (cases h; done)
      rename_i M e1
      split at h <;> try (cases h; done)
      rename_i hv e2
      split at h <;> try (cases h; done)
      rename_i lv e3
      split at h <;> try (cases h; done)
      rename_i hML
      subst hML
      injection h with h; subst h
      obtain ⟨k1,k2⟩ := three (hv := hv) (lv := M) A mo h1 rfl e1 _ e2
      obtain ⟨k3,k4⟩ := k2 e3
      refine ⟨_,k4,?_⟩
      have z1 : hv - M = 0 := by omega
      rw [z1,Nat.sub_self]
      obtain ⟨L,e1,ez,_⟩ := h4
      exact .slc (Nat.le_refl _) (fun _ => rfl) (Nat.zero_le _) ⟨L,e1,ez,fun hc => absurd rfl hc⟩
  | _ => simp only [evSl] at h; cases h
end Go.Proofs.YticmfblfghdkbaaGreatDoor.Eng
namespace Go.Proofs.YticmfblfghdkbaaGreatDoor.Eng
open Go
variable {P : Program} {B : Nat} {m : LMap} {H : Heap} {w : World} {σ : Mem}
theorem RowsIn.one {cs : List Cell} {vs : Array Value} (h : All2 (VR m σ) cs vs.toList) : RowsIn m σ cs.length [cs] vs := by
 intro i r e
 cases i with
 | succ i => simp at e
 | zero =>
  simp at e
  subst e
  refine ⟨rfl,fun f c ef => ?_⟩
  obtain ⟨v,e1,e2⟩ := h.get ef
  exact ⟨v,by simpa using e1,e2⟩
theorem Zbg1 {k : Nat} {σ' : Mem} (g b sz : Nat) : VRA (Zeq m b ⟨g,0,sz,true⟩) σ' (.c (.ptr b 0 0)) (.pointer (some ⟨g,0,none⟩)) := by
 have := VR.ptr (σ := σ') (i := 0) (f := 0) (Zc1 m b ⟨g,0,sz,true⟩)
 simp only [Nat.zero_mul,Nat.add_zero] at this
 exact .c this
theorem Zt4 (r : Rel B m H w) (t : TypeId) {cs : List Cell} {v : Value} (h : All2 (VR m (Zj w)) cs v.cells.toList) :
  ∃ w' m' u,(do pure (.pointer (some (← newVar t v))) : Sem Value).run P w = .ok u w' ∧ St B H m w (H ++ [{ sz := cs.length,rows := [cs] }]) m' w' ∧ VRA m' (Zj w') (.c (.ptr H.length 0 0)) u := by
 have hs := St.new r t { sz := cs.length,rows := [cs] } v.cells rfl (RowsIn.one h)
 exact ⟨_,_,_,by simp [newVar,newRow],hs,Zbg1 (k := 0) _ _ _⟩
theorem Zba5 (r : Rel B m H w) {t : TypeId} {z : List Cell} (hz : Zdv P t = some z) :
  ∃ w' m' u,(Instr.alloc t true (.tuple #[])).run P w = .ok u w' ∧ St B H m w (H ++ [{ sz := z.length,rows := [z] }]) m' w' ∧ VRA m' (Zj w') (.c (.ptr H.length 0 0)) u := by
 obtain ⟨v,h1,h2⟩ := Ztb hz
 obtain ⟨w',m',u,h3,h4,h5⟩ := Zt4 (P := P) r t (h2 m (Zj w))
 exact ⟨w',m',u,by simp only [Instr.alloc,Sem.run_bind,h1,Result.andThen_ok]; simpa using h3,h4,h5⟩
theorem Z0f (r : Rel B m H w) {t : TypeId} {x : AVal} {v : Value} (hx : VRA m (Zj w) x v) (hc : x.cells ≠ [] ∨ ∃ cs,x = .agg cs) :
  ∃ w' m' u,(Instr.box t v).run P w = .ok u w' ∧ St B H m w (H ++ [{ sz := x.cells.length,rows := [x.cells] }]) m' w' ∧ VRA m' (Zj w') (.c (.ptr H.length 0 0)) u := by
 obtain ⟨w',m',u,h3,h4,h5⟩ := Zt4 (P := P) r t (hx.cells hc)
 exact ⟨w',m',u,by simpa [Instr.box] using h3,h4,h5⟩
theorem Z24 (off : Nat) : ∀ (l : List Value) (j : Nat) (cells : Array Value),off + j + l.length ≤ cells.size →
  ((l.zipIdx j).foldl (fun cs (p : Value × Nat) => cs.setIfInBounds (off + p.2) p.1) cells).toList = cells.toList.take (off + j) ++ l ++ cells.toList.drop (off + j + l.length)
 | [],j,cells,h => by simp
 | v :: l,j,cells,h => by
  simp only [List.zipIdx_cons,List.foldl_cons,List.length_cons] at h ⊢
  rw [Z24 off l (j + 1) _ (by simp; omega)]
  simp only [Array.toList_setIfInBounds]
  have hlt : off + j < cells.toList.length := by simp; omega
  rw [show off + (j + 1) = off + j + 1 by omega,List.take_succ_eq_append_getElem (by simpa using hlt),List.take_set_of_le (Nat.le_refl _),List.getElem_set_self]
  rw [show off + j + 1 + l.length = off + j + (l.length + 1) by omega,List.drop_set_of_lt (by omega)]
  simp [List.append_assoc]
theorem Zsy {place : Nat → Option (Nat × Nat)} {i off n : Nat} {v : Value} {rest : List (Nat × Value)} {cells : Array Value} (hp : place i = some (off,n)) (hv : v.cells.size = n) (hl : off + n ≤ cells.size) :
  Instr.fill place cells ((i,v) :: rest) = Instr.fill place (cells.toList.take off ++ v.cells.toList ++ cells.toList.drop (off + n)).toArray rest := by
 have hf : (v.cells.zipIdx.foldl (fun cs (p : Value × Nat) => cs.setIfInBounds (off + p.2) p.1) cells) = (cells.toList.take off ++ v.cells.toList ++ cells.toList.drop (off + n)).toArray := by
  apply Array.ext'
  rw [← Array.foldl_toList,Array.toList_zipIdx]
  rw [Z24 off v.cells.toList 0 cells (by simp only [Array.length_toList,hv]; omega)]
  simp [hv]
 have hcond : ¬ ((decide (v.cells.size ≠ n) || decide (off + v.cells.size > cells.size)) = true) := by rw [hv]; simp; omega
 simp only [Instr.fill,hp]
 rw [if_neg hcond]
 exact congrArg (fun c => Instr.fill place c rest) hf
theorem All2.splice {R : Cell → Value → Prop} {zs cs : List Cell} {vs us : List Value} (h : All2 R zs vs) (k : All2 R cs us) (o n : Nat) : All2 R (zs.take o ++ cs ++ zs.drop (o + n)) (vs.take o ++ us ++ vs.drop (o + n)) :=
 ((h.take o).append k).append (h.drop (o + n))
theorem Zvy {place : Nat → Option (Nat × Nat)} {e : Env} {a : Act} {fs : Array Field} (hp : ∀ (i : Nat) f n,fs[i]? = some f → Zbk P f.type = some n → place i = some (f.offset,n)) :
  ∀ (parts : List (Nat × Operand)) (ps : List (Nat × Nat × Opd)) (zs cs : List Cell) (cells : Array Value),Zp0 P fs parts = some ps → EnvOn m σ (ps.flatMap fun p => p.2.2.tmps) e a →
   (∀ p ∈ ps,0 < p.2.1) → All2 (VR m σ) zs cells.toList → Ziy zs e ps = some cs →
   ∃ out,Instr.fill place cells (parts.map fun p => (p.1,a.eval p.2)) = some out ∧ All2 (VR m σ) cs out.toList
 | [],ps,zs,cs,cells,h1,_,_,h3,h4 => by
  simp [Zp0] at h1
  subst h1
  simp [Ziy] at h4
  subst h4
  exact ⟨cells,rfl,h3⟩
 | (i,x) :: parts,ps,zs,cs,cells,h1,h2,hn0,h3,h4 => by
  simp only [Zp0] at h1
  split at h1
  ·rename_i f y ys e1 e2 e3
   split at h1
   ·rename_i n e4
    injection h1 with h1
    subst h1
    simp only [List.flatMap_cons] at h2
    simp only [Ziy] at h4
    split at h4
    ·rename_i hc
     have hx := Zcp e2 h2.left
     have hn : 0 < n := hn0 (f.offset,n,y) (by simp)
     have hxc := hx.cells (.inl (by intro h0; rw [h0] at hc; simp at hc; omega))
     have hsz : (a.eval x).cells.size = n := by have := hxc.length; simp at this; omega
     have hzl := h3.length
     simp only [Array.length_toList] at hzl
     obtain ⟨out,g1,g2⟩ := Zvy hp parts ys _ cs (cells.toList.take f.offset ++ (a.eval x).cells.toList ++ cells.toList.drop (f.offset + n)).toArray e3 h2.right (fun p hp' => hn0 p (by simp [hp'])) (by simpa using h3.splice hxc f.offset n) h4
     refine ⟨out,?_,g2⟩
     simp only [List.map_cons]
     rw [Zsy (hp i f n e1 e4) hsz (by omega)]
     exact g1
    ·cases h4
   ·cases h1
  ·cases h1
theorem Z6a {t : TypeId} {fs : Array Field} {z : List Cell} (ht : P.underlying t = some (.struct fs)) (hz : Zdv P t = some z) (hall : fs.all (fun f => (Zbk P f.type).isSome) = true) {parts : Array (Nat × Operand)} {ps : List (Nat × Nat × Opd)}
  (hp : Zp0 P fs parts.toList = some ps) {e : Env} {a : Act} (he : EnvOn m σ (ps.flatMap fun p => p.2.2.tmps) e a) (hn0 : ∀ p ∈ ps,0 < p.2.1) {cs : List Cell} (hf : Ziy z e ps = some cs) :
  ∃ v,(Instr.build t (parts.map fun (i,x) => (i,a.eval x))).run P w = .ok v w ∧ VRA m σ (.agg cs) v := by
 unfold Zdv at hz
 cases hi : P.info? t with
 | none => simp [hi] at hz
 | some it =>
  cases hzv : it.zero with
  | none => simp [hi,hzv] at hz
  | some zv =>
   simp [hi,hzv] at hz
   have hpl : ∀ (l : List Field),(∀ f ∈ l,(Zbk P f.type).isSome) → ∃ places,l.mapM (fun f => (P.info? f.type).map fun i => (f.offset,i.size)) = some places ∧ ∀ (i : Nat) f n,l[i]? = some f → Zbk P f.type = some n → places[i]? = some (f.offset,n) := by
    intro l
    induction l with
    | nil => intro _; exact ⟨[],by simp,fun i f n h => by simp at h⟩
    | cons f l ih =>
     intro hl
     obtain ⟨pl,g1,g2⟩ := ih fun f' hf' => hl f' (by simp [hf'])
     obtain ⟨n,hn⟩ := Option.isSome_iff_exists.1 (hl f (by simp))
     obtain ⟨i,hi',rfl⟩ := Zfi hn
     refine ⟨(f.offset,i.size) :: pl,by simp [List.mapM_cons,hi',g1],fun j f' n' h1 h2 => ?_⟩
     cases j with
     | zero =>
      simp at h1
      subst h1
      rw [hn] at h2
      injection h2 with h2
      simp [h2]
     | succ j => simpa using g2 j f' n' (by simpa using h1) h2
   obtain ⟨pl,g1,g2⟩ := hpl fs.toList (fun f hf' => by
    have := Array.all_eq_true_iff_forall_mem.1 hall f (by simpa using hf')
    exact this)
   obtain ⟨out,k1,k2⟩ := Zvy (m := m) (σ := σ) (a := a) (place := (pl.toArray[·]?)) (fs := fs) (fun i f n h1 h2 => by simpa using g2 i f n (by simpa using h1) h2) parts.toList ps z cs zv.cells hp he hn0 (Zde hz) hf
   refine ⟨.agg out,run_build w t _ out ?_,.agg k2⟩
   simp only [Program.built,hi,ht,hzv,g1]
   rw [← k1]
   simp
theorem Zsp {place : Nat → Option (Nat × Nat)} {e : Env} {a : Act} {n : Nat} (hn : 0 < n) (hp : ∀ i,place i = some (i * n,n)) :
  ∀ (parts : List (Nat × Operand)) (ps : List (Nat × Nat × Opd)) (zs cs : List Cell) (cells : Array Value),Zqo n parts = some ps → EnvOn m σ (ps.flatMap fun p => p.2.2.tmps) e a →
   All2 (VR m σ) zs cells.toList → Ziy zs e ps = some cs →
   ∃ out,Instr.fill place cells (parts.map fun p => (p.1,a.eval p.2)) = some out ∧ All2 (VR m σ) cs out.toList
 | [],ps,zs,cs,cells,h1,_,h3,h4 => by
  simp [Zqo] at h1
  subst h1
  simp [Ziy] at h4
  subst h4
  exact ⟨cells,rfl,h3⟩
 | (i,x) :: parts,ps,zs,cs,cells,h1,h2,h3,h4 => by
  simp only [Zqo] at h1
  split at h1
  ·rename_i y ys e1 e3
   injection h1 with h1
   subst h1
   simp only [List.flatMap_cons] at h2
   simp only [Ziy] at h4
   split at h4
   ·rename_i hc
    have hx := Zcp e1 h2.left
    have hxc := hx.cells (.inl (by intro h0; rw [h0] at hc; simp at hc; omega))
    have hsz : (a.eval x).cells.size = n := by have := hxc.length; simp at this; omega
    have hzl := h3.length
    simp only [Array.length_toList] at hzl
    obtain ⟨out,g1,g2⟩ := Zsp hn hp parts ys _ cs (cells.toList.take (i * n) ++ (a.eval x).cells.toList ++ cells.toList.drop (i * n + n)).toArray e3 h2.right (by simpa using h3.splice hxc (i * n) n) h4
    refine ⟨out,?_,g2⟩
    simp only [List.map_cons]
    rw [Zsy (hp i) hsz (by omega)]
    exact g1
   ·cases h4
  ·cases h1
theorem Z5c {t q : TypeId} {k : Nat} {z : List Cell} (ht : P.underlying t = some (.array k q)) (hz : Zdv P t = some z) {n : Nat} (hq : Zbk P q = some n) (hn : 0 < n) {parts : Array (Nat × Operand)} {ps : List (Nat × Nat × Opd)}
  (hp : Zqo n parts.toList = some ps) {e : Env} {a : Act} (he : EnvOn m σ (ps.flatMap fun p => p.2.2.tmps) e a) {cs : List Cell} (hf : Ziy z e ps = some cs) :
  ∃ v,(Instr.build t (parts.map fun (i,x) => (i,a.eval x))).run P w = .ok v w ∧ VRA m σ (.agg cs) v := by
 unfold Zdv at hz
 cases hi : P.info? t with
 | none => simp [hi] at hz
 | some it =>
  cases hzv : it.zero with
  | none => simp [hi,hzv] at hz
  | some zv =>
   simp [hi,hzv] at hz
   obtain ⟨i,hi',rfl⟩ := Zfi hq
   obtain ⟨out,k1,k2⟩ := Zsp (m := m) (σ := σ) (a := a) (place := fun j => some (j * i.size,i.size)) hn (fun _ => rfl) parts.toList ps z cs zv.cells hp he (Zde hz) hf
   refine ⟨.agg out,run_build w t _ out ?_,.agg k2⟩
   simp only [Program.built,hi,ht,hzv,hi']
   rw [← k1]
   simp
theorem RowsIn.set {sz : Nat} {rows : List (List Cell)} {cur : List Value} {i : Nat} {cs : List Cell} {vs : List Value} (h : RowsIn m σ sz rows cur.toArray) (hi : i < rows.length) (hl : rows.length * sz ≤ cur.length) (hc : All2 (VR m σ) cs vs) (hcs : cs.length = sz) :
  RowsIn m σ sz (rows.set i cs) (cur.take (i * sz) ++ vs ++ cur.drop (i * sz + sz)).toArray := by
 have hvl := hc.length
 have hin : i * sz + vs.length ≤ cur.length := by
  have : (i + 1) * sz ≤ rows.length * sz := Nat.mul_le_mul_right sz hi
  rw [Nat.add_mul,Nat.one_mul] at this
  omega
 have hsp : cur.take (i * sz) ++ vs ++ cur.drop (i * sz + sz) = cur.take (i * sz) ++ vs ++ cur.drop (i * sz + vs.length) := by rw [← hvl,hcs]
 rw [hsp]
 intro j r e
 by_cases hij : i = j
 ·subst hij
  rw [List.getElem?_set_self hi] at e
  injection e with e
  subst e
  refine ⟨hcs,fun f c ef => ?_⟩
  obtain ⟨v,e1,e2⟩ := hc.get ef
  refine ⟨v,?_,e2⟩
  have hf : f < vs.length := (List.getElem?_eq_some_iff.1 e1).1
  rw [List.getElem?_toArray,Zg7 _ _ _ hin,if_pos (by omega),show i * sz + f - i * sz = f by omega]
  exact e1
 ·rw [List.getElem?_set_ne hij] at e
  obtain ⟨g1,g2⟩ := h j r e
  refine ⟨g1,fun f c ef => ?_⟩
  obtain ⟨v,e1,e2⟩ := g2 f c ef
  refine ⟨v,?_,e2⟩
  have hf : f < sz := by rw [← g1]; exact (List.getElem?_eq_some_iff.1 ef).1
  rw [List.getElem?_toArray,Zg7 _ _ _ hin,if_neg]
  ·simpa using e1
  ·rcases Nat.lt_or_gt_of_ne hij with hlt | hgt
   ·have h5 : (i + 1) * sz ≤ j * sz := Nat.mul_le_mul_right sz hlt
    rw [Nat.add_mul,Nat.one_mul] at h5
    omega
   ·have := Zet (sz := sz) (f := f) hgt hf
    omega
theorem RowsIn.made {z : List Cell} {zv : Array Value} (h : All2 (VR m σ) z zv.toList) (n : Nat) (hz : 0 < z.length) : RowsIn m σ z.length (List.replicate n z) ((Array.range (n * z.length)).map (zv[· % zv.size]!)) := by
 intro i r e
 have hi : i < n := by have := (List.getElem?_eq_some_iff.1 e).1; simpa using this
 have hr : r = z := by simp [List.getElem?_replicate,hi] at e; exact e.symm
 subst hr
 refine ⟨rfl,fun f c ef => ?_⟩
 obtain ⟨v,e1,e2⟩ := h.get ef
 have hf : f < r.length := (List.getElem?_eq_some_iff.1 ef).1
 have hzl : zv.size = r.length := by have := h.length; simpa using this.symm
 refine ⟨v,?_,e2⟩
 have hlt : i * r.length + f < n * r.length := Zet hi hf
 have hmod : (i * r.length + f) % zv.size = f := by rw [hzl,Nat.add_comm,Nat.add_mul_mod_self_right,Nat.mod_eq_of_lt hf]
 have hfv : f < zv.size := by omega
 have e1' : zv[f]? = some v := by simpa using e1
 rw [Array.getElem?_map,Array.getElem?_range,if_pos hlt,Option.map_some,hmod,getElem!_pos zv f hfv]
 rw [Array.getElem?_eq_getElem hfv] at e1'
 exact e1'
theorem Zjk {σ' : Mem} (g b n sz c : Nat) (z : Bool) (hn : n ≤ c) (hz : z = true → c = 0) (hm : c ≤ maxLen) (hs : c * sz = σ' g) : VRA (Zeq m b ⟨g,0,sz,true⟩) σ' (.c (.slc b 0 n sz z)) (.slice (some ⟨g,0,none⟩) n c) :=
 .c (.slc hn hz hm ⟨⟨g,0,sz,true⟩,Zc1 _ _ _,rfl,fun _ => ⟨by simp,fun _ => by simpa using hs⟩⟩)
theorem Zwb {sz : Nat} {e : Env} {a : Act} (hsz : 0 < sz) : ∀ (parts : List (Nat × Operand)) (ps : List (Nat × Opd)) (rows out : List (List Cell)) (cells : Array Value),Zql parts = some ps → EnvOn m σ (ps.flatMap fun p => p.2.tmps) e a →
   RowsIn m σ sz rows cells → cells.size = rows.length * sz → Zmz sz rows e ps = some out →
   ∃ vs,Instr.fill (fun i => some (i * sz,sz)) cells (parts.map fun p => (p.1,a.eval p.2)) = some vs ∧ RowsIn m σ sz out vs ∧ out.length = rows.length ∧ vs.size = cells.size
 | [],ps,rows,out,cells,h1,_,h3,hl,h4 => by
  simp [Zql] at h1
  subst h1
  simp [Zmz] at h4
  subst h4
  exact ⟨cells,rfl,h3,rfl,rfl⟩
 | (i,x) :: parts,ps,rows,out,cells,h1,h2,h3,hl,h4 => by
  simp only [Zql] at h1
  split at h1
  ·rename_i y ys e2 e3
   injection h1 with h1
   subst h1
   simp only [List.flatMap_cons] at h2
   simp only [Zmz] at h4
   split at h4
   ·rename_i hc
    have hx := Zcp e2 h2.left
    have hxc := hx.cells (.inl (by intro h0; rw [h0] at hc; simp at hc; omega))
    have hxs : (a.eval x).cells.size = sz := by have := hxc.length; simp at this; omega
    have hr := RowsIn.set (cur := cells.toList) (by simpa using h3) hc.2 (by simp; omega) hxc hc.1
    have hle : i * sz + sz ≤ cells.size := by
     have : (i + 1) * sz ≤ rows.length * sz := Nat.mul_le_mul_right sz hc.2
     rw [Nat.add_mul,Nat.one_mul] at this
     omega
    have hsize : (cells.toList.take (i * sz) ++ (a.eval x).cells.toList ++ cells.toList.drop (i * sz + sz)).toArray.size = cells.size := by
     simp; omega
    obtain ⟨vs,g1,g2,g3,g4⟩ := Zwb hsz parts ys _ out _ e3 h2.right hr (by rw [hsize]; simpa using hl) h4
    refine ⟨vs,?_,g2,by simpa using g3,by rw [g4,hsize]⟩
    simp only [List.map_cons]
    rw [Zsy (off := i * sz) (n := sz) rfl hxs hle]
    exact g1
   ·cases h4
  ·cases h1
theorem Zbbp (r : Rel B m H w) {t q : TypeId} {n len : Nat} {z : List Cell} (ht : P.underlying t = some (.slice q)) (hn : Zbk P q = some n) (hz : Zdv P q = some z) (hzl : z.length = n) (h0 : 0 < n) (hlim : len * n ≤ 16777216)
  {parts : Array (Nat × Operand)} {ps : List (Nat × Opd)} (hp : Zql parts.toList = some ps) {e : Env} {a : Act} (he : EnvOn m (Zj w) (ps.flatMap fun p => p.2.tmps) e a) {rows : List (List Cell)} (hf : Zmz n (List.replicate len z) e ps = some rows) :
  ∃ w' m' u,(Instr.buildSlice t len (parts.map fun (i,x) => (i,a.eval x))).run P w = .ok u w' ∧ St B H m w (H ++ [{ sz := n,rows := rows }]) m' w' ∧ VRA m' (Zj w') (.c (.slc H.length 0 len n (len == 0))) u := by
 obtain ⟨zv,k1,k2⟩ := Ztb hz
 have hzs : zv.cells.size = n := by have := (k2 m (Zj w)).length; simp at this; omega
 have hmade : RowsIn m (Zj w) n (List.replicate len z) ((Array.range (len * n)).map (zv.cells[· % zv.cells.size]!)) := by
  have := RowsIn.made (k2 m (Zj w)) len (by omega)
  rw [hzl] at this
  exact this
 obtain ⟨vs,g1,g2,g3,g4⟩ := Zwb h0 parts.toList ps _ rows _ hp he hmade (by simp) hf
 have hs := St.new r q { sz := n,rows := rows } vs rfl g2
 have hmap : (parts.map fun (i,x) => (i,a.eval x)).toList = parts.toList.map fun p => (p.1,a.eval p.2) := by simp
 have hcells : Zj (w.alloc (.cells vs q)) w.heap.size = vs.size := Zco (heap_alloc_new w _)
 have hlen : rows.length = len := by simpa using g3
 have hvs : vs.size = len * n := by rw [g4]; simp
 refine ⟨_,_,.slice (some ⟨w.heap.size,0,none⟩) len len,?_,hs,Zjk _ _ _ _ _ _ (Nat.le_refl _) (fun hz => by simpa using hz) ?_ (by rw [hcells,hvs])⟩
 ·simp only [Instr.buildSlice,Sem.run_bind,run_underlying ht,Result.andThen_ok,Zck hn]
  rw [if_neg (by omega)]
  by_cases hl0 : len * n = 0
  ·rw [if_pos hl0]
   have hr : (Array.range (len * n)).map ((#[] : Array Value)[· % (#[] : Array Value).size]!) = (Array.range (len * n)).map (zv.cells[· % zv.cells.size]!) := by simp [hl0]
   simp only [Sem.run_bind,Sem.run_pure,Result.andThen_ok,hmap,hr,g1]
   simp [newRow]
  ·rw [if_neg hl0]
   simp only [Sem.run_bind,k1,Result.andThen_ok,Sem.run_pure,hmap,g1]
   simp [newRow]
 ·have : len ≤ len * n := Nat.le_mul_of_pos_right len h0
  unfold maxLen
  omega
theorem Z8j (r : Rel B m H w) {t q : TypeId} {n by_ : Nat} {z : List Cell} (ht : P.underlying t = some (.slice q)) (hn : Zbk P q = some n) (hb : Zim P q = some by_) (hz : Zdv P q = some z) (hzl : z.length = n) (h0 : 0 < n)
  {kl kc : IntKind} {l : Int} (hl0 : 0 ≤ l) (hbytes : l * by_ ≤ 140737488355328) (hmax : l ≤ 9223372036854775807) :
  ∃ w' m' u,(Instr.makeSlice t (.int kl l) (.int kc l)).run P w = .ok u w' ∧ St B H m w (H ++ [{ sz := n,rows := List.replicate l.toNat z }]) m' w' ∧ VRA m' (Zj w') (.c (.slc H.length 0 l.toNat n (l.toNat == 0))) u := by
 unfold Zdv at hz
 unfold Zim at hb
 obtain ⟨i,hi,hin⟩ := Zfi hn
 cases hzv : i.zero with
 | none => simp [hi,hzv] at hz
 | some zv =>
  simp [hi,hzv] at hz
  simp [hi] at hb
  have hz2 : All2 (VR m (Zj w)) z zv.cells.toList := Zde hz
  have hrun := run_make (P := P) w t q i zv ht hi hzv kl kc l l hl0 (Int.le_refl _) (by rw [hb,Int.mul_comm]; omega) hmax
  have hmade : RowsIn m (Zj w) n (List.replicate l.toNat z) (madeCells zv.cells (l.toNat * i.size)) := by
   have := RowsIn.made hz2 l.toNat (by omega)
   rw [hzl] at this
   rw [hin]
   exact this
  have hs := St.new r q { sz := n,rows := List.replicate l.toNat z } _ rfl hmade
  have hcells : Zj (w.alloc (.cells (madeCells zv.cells (l.toNat * i.size)) q)) w.heap.size = l.toNat * n := by
   rw [Zco (heap_alloc_new w _)]
   simp [madeCells,hin]
  exact ⟨_,_,_,hrun,hs,Zjk _ _ _ _ _ _ (Nat.le_refl _) (fun hz => by simpa using hz) (by unfold maxLen; omega) hcells.symm⟩
end Go.Proofs.YticmfblfghdkbaaGreatDoor.Eng
