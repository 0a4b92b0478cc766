/- Texts that this claim's proof needs, joined. No statement of the seat is proved here. -/
import Derived.Test.YtpjbjdicdjlmeaaGreatDoorZPartA
import Derived.Laws.IdiomStrings

/- The engine, part 9: each operation that calls nothing: slim and machine. No statement of the seat is proved here. -/
namespace Go.Proofs.YtpjbjdicdjlmeaaGreatDoor.Eng
open Go
set_option linter.unusedVariables false
set_option linter.unusedSimpArgs false

variable {P : Program} {B : Nat} {m : LMap} {H : Heap} {w : World} {σ : Mem}

/-! ### Parts -/
theorem part_sound {t : TypeId} {g : Bool} {n off : Nat} (hg : isAggT P t = some g) (hn : sizeT P t = some n) (hgn : g = true ∨ n = 1) {cs : List Cell} {vs : Array Value} (h : All2 (VR m σ) cs vs.toList) {v : AVal} (hl : off + n ≤ cs.length) (hv : ofCells g ((cs.drop off).take n) = some v) :
    ∃ u, (part t vs off).run P w = .ok u w ∧ VRA m σ v u := by
  have h2 : All2 (VR m σ) ((cs.drop off).take n) ((vs.toList.drop off).take n) := (h.drop off).take n
  rcases ofCells_sound hv h2 with ⟨rfl, hr⟩ | ⟨rfl, u, hu, hr⟩
  · have he : vs.extract off (off + n) = ((vs.toList.drop off).take n).toArray := by
      apply Array.ext'
      simp [Array.toList_extract, List.extract_eq_take_drop]
    rw [← he] at hr
    exact ⟨_, by simp [part, run_isAggT hg, run_sizeT hn], hr⟩
  · have hn1 : n = 1 := hgn.resolve_left (by simp)
    subst hn1
    have h0 : vs[off]? = some u := by
      have : ((vs.toList.drop off).take 1)[0]? = some u := by rw [hu]; rfl
      rw [List.getElem?_take, if_pos (by omega), List.getElem?_drop] at this
      simpa using this
    exact ⟨u, by simp [part, run_isAggT hg, h0], hr⟩

theorem ixS_run (s : ByteArray) {t : TypeId} (ht : P.underlying t = some .string) (k : IntKind) (i : Int) (h : 0 ≤ i ∧ i.toNat < s.size) :
    (Instr.index t (.string s) (.int k i)).run P w = .ok (.int .u8 ((s[i.toNat]'h.2).toNat : Int)) w := by
  have : s[i.toNat]? = some (s[i.toNat]'h.2) := by
    rw [getElem?_pos]
  simp [Instr.index, asIntOf, run_underlying ht, h.1, this]

/-! ### The lesser and the greater -/
theorem max2_sound {x y c : Cell} (h : maxC x y = some c) {vx vy : Value} (hx : VR m σ x vx) (hy : VR m σ y vy) : ∃ v, (Builtin.max2 vx vy).run P w = .ok v w ∧ VR m σ c v := by
  cases hx <;> cases hy <;> simp only [maxC] at h <;> first
    | (cases h; done)
    | (split at h
       · injection h with h; subst h; rename_i hk; subst hk; exact ⟨_, rfl, .int _ _⟩
       · cases h)
theorem min2_sound {x y c : Cell} (h : minC x y = some c) {vx vy : Value} (hx : VR m σ x vx) (hy : VR m σ y vy) : ∃ v, (Builtin.min2 vx vy).run P w = .ok v w ∧ VR m σ c v := by
  cases hx <;> cases hy <;> simp only [minC] at h <;> first
    | (cases h; done)
    | (split at h
       · injection h with h; subst h; rename_i hk; subst hk; exact ⟨_, rfl, .int _ _⟩
       · cases h)

theorem fold_sound {f : Cell → Cell → Option Cell} {F : Value → Value → Sem Value} (hF : ∀ {x y c : Cell}, f x y = some c → ∀ {vx vy : Value}, VR m σ x vx → VR m σ y vy → ∃ v, (F vx vy).run P w = .ok v w ∧ VR m σ c v) {e : Env} :
    ∀ {ys : List Opd} {vs : List Value} {x c : Cell} {vx : Value}, All2 (fun y v => VRA m σ (y.ev e) v) ys vs → VR m σ x vx → foldC f e x ys = some c → ∃ v, (vs.foldlM F vx).run P w = .ok v w ∧ VR m σ c v
  | [], _, x, c, vx, h, hx, hc => by
    cases h
    simp [foldC] at hc
    subst hc
    exact ⟨vx, by simp, hx⟩
  | y :: ys, _, x, c, vx, h, hx, hc => by
    cases h with
    | cons hy ht =>
      simp only [foldC] at hc
      split at hc
      · rename_i yc hyc
        split at hc
        · rename_i z hz
          rw [hyc] at hy
          cases hy with
          | c hy =>
            obtain ⟨v, h1, h2⟩ := hF hz hx hy
            obtain ⟨v', h3, h4⟩ := fold_sound hF ht h2 hc
            exact ⟨v', by simp [List.foldlM_cons, h1, h3], h4⟩
        · cases hc
      · cases hc

/-! ### Equality of structs -/
theorem leaf_eq {k : Nat} {x y : Cell} {b : Bool} (h : evEqCell k x y = some b) {vx vy : Value} (hx : VR m σ x vx) (hy : VR m σ y vy) (d : Nat) {t : TypeId} (ht : (k = 0 ∧ ∃ q, P.underlying t = some (.int q)) ∨ (k = 1 ∧ P.underlying t = some .string) ∨ (k = 2 ∧ P.underlying t = some .bool)) :
    (Op.equalIn (d + 1) t vx vy).run P w = .ok b w := by
  rcases ht with ⟨rfl, q, ht⟩ | ⟨rfl, ht⟩ | ⟨rfl, ht⟩ <;> cases hx <;> cases hy <;> simp only [evEqCell] at h <;> first
    | (cases h; done)
    | (split at h
       · injection h with h; subst h; rename_i hk; subst hk; exact run_equalIn_int w d t _ q _ _ ht
       · cases h)
    | (injection h with h; subst h; first
        | exact run_equalIn_bool' w d t _ _ ht
        | (rw [run_equalIn_string w d t _ _ ht, beq_dec]))

theorem evEqCells_len : ∀ {ks : List Nat} {xs ys : List Cell} {b : Bool}, evEqCells ks xs ys = some b → xs.length = ks.length ∧ ys.length = ks.length
  | [], [], [], _, _ => ⟨rfl, rfl⟩
  | k :: ks, x :: xs, y :: ys, b, h => by
    simp only [evEqCells] at h
    split at h
    · split at h
      · rename_i h2
        obtain ⟨a, c⟩ := evEqCells_len h2
        simp [a, c]
      · cases h
    · cases h
  | [], [], _ :: _, _, h => by simp [evEqCells] at h
  | [], _ :: _, _, _, h => by simp [evEqCells] at h
  | _ :: _, [], _, _, h => by simp [evEqCells] at h
  | _ :: _, _ :: _, [], _, h => by simp [evEqCells] at h

theorem evEqCells_append : ∀ {ks ls : List Nat} {xs ys : List Cell} {b : Bool}, evEqCells (ks ++ ls) xs ys = some b → ∃ b1 b2, evEqCells ks (xs.take ks.length) (ys.take ks.length) = some b1 ∧ evEqCells ls (xs.drop ks.length) (ys.drop ks.length) = some b2 ∧ b = (b1 && b2)
  | [], ls, xs, ys, b, h => ⟨true, b, by simp [evEqCells], by simpa using h, by simp⟩
  | k :: ks, ls, xs, ys, b, h => by
    cases xs with
    | nil => simp [evEqCells] at h
    | cons x xs => cases ys with
      | nil => simp [evEqCells] at h
      | cons y ys =>
        simp only [List.cons_append, evEqCells] at h
        split at h
        · rename_i b0 h0
          split at h
          · rename_i r hr
            injection h with h
            obtain ⟨b1, b2, e1, e2, e3⟩ := evEqCells_append hr
            exact ⟨b0 && b1, b2, by simp [evEqCells, h0, e1], by simpa using e2, by rw [← h, e3, Bool.and_assoc]⟩
          · cases h
        · cases h

def leafStep (P : Program) (d : Nat) (acc : Option (List Nat)) (f : Field) : Option (List Nat) :=
  match acc with
  | some l => if f.name ≠ "_" ∧ f.offset = l.length then
      match leaves P d f.type with
      | some r => if sizeT P f.type = some r.length then some (l ++ r) else none
      | none => none
    else none
  | none => none

theorem leafStep_none (P : Program) (d : Nat) (fs : List Field) : fs.foldl (leafStep P d) none = none := by
  induction fs with
  | nil => rfl
  | cons f fs ih => simp [leafStep, ih]

theorem leafStep_grows (P : Program) (d : Nat) : ∀ (fs : List Field) (l ks : List Nat), fs.foldl (leafStep P d) (some l) = some ks → ∃ r, ks = l ++ r
  | [], l, ks, h => ⟨[], by simp at h; simp [h]⟩
  | f :: fs, l, ks, h => by
    simp only [List.foldl_cons] at h
    cases hs : leafStep P d (some l) f with
    | none => rw [hs, leafStep_none] at h; cases h
    | some l' =>
      rw [hs] at h
      obtain ⟨r, hr⟩ := leafStep_grows P d fs l' ks h
      simp only [leafStep] at hs
      split at hs
      · split at hs
        · split at hs
          · injection hs with hs
            subst hs
            exact ⟨_, by rw [hr, List.append_assoc]⟩
          · cases hs
        · cases hs
      · cases hs

theorem eq_leaves : ∀ (d : Nat) {t : TypeId} {ks : List Nat}, leaves P d t = some ks → ∀ (D : Nat), d ≤ D →
    ∀ (xs ys : List Cell) (b : Bool) (vx vy : Value), evEqCells ks xs ys = some b → (isAggT P t = some true → ∃ us vs, vx = .agg us ∧ vy = .agg vs ∧ All2 (VR m σ) xs us.toList ∧ All2 (VR m σ) ys vs.toList) →
      (isAggT P t = some false → ∃ x y, xs = [x] ∧ ys = [y] ∧ VR m σ x vx ∧ VR m σ y vy) → (Op.equalIn D t vx vy).run P w = .ok b w
  | 0, t, ks, h, _, _ => by simp [leaves] at h
  | d + 1, t, ks, h, D, hD => by
    intro xs ys b vx vy he hagg hone
    obtain ⟨D, rfl⟩ : ∃ E, D = E + 1 := ⟨D - 1, by omega⟩
    simp only [leaves] at h
    split at h
    · rename_i ht
      injection h with h; subst h
      obtain ⟨x, y, rfl, rfl, hx, hy⟩ := hone (by simp [isAggT, ht])
      simp only [evEqCells] at he
      split at he
      · rename_i b' hb'
        injection he with he
        simp at he
        subst he
        exact leaf_eq hb' hx hy D (.inr (.inr ⟨rfl, ht⟩))
      · cases he
    · rename_i q ht
      injection h with h; subst h
      obtain ⟨x, y, rfl, rfl, hx, hy⟩ := hone (by simp [isAggT, ht])
      simp only [evEqCells] at he
      split at he
      · rename_i b' hb'
        injection he with he
        simp at he
        subst he
        exact leaf_eq hb' hx hy D (.inl ⟨rfl, q, ht⟩)
      · cases he
    · rename_i ht
      injection h with h; subst h
      obtain ⟨x, y, rfl, rfl, hx, hy⟩ := hone (by simp [isAggT, ht])
      simp only [evEqCells] at he
      split at he
      · rename_i b' hb'
        injection he with he
        simp at he
        subst he
        exact leaf_eq hb' hx hy D (.inr (.inl ⟨rfl, ht⟩))
      · cases he
    · rename_i fs ht
      split at h
      · cases h
      · rename_i hst
        have hfs : P.fieldsOf t = fs := by simp [Program.fieldsOf, ht]
        obtain ⟨us, vs, rfl, rfl, hx, hy⟩ := hagg (by simp [isAggT, ht])
        rw [run_equalIn_struct w D t us vs (by rw [hfs]; exact ht) (by simpa using hst), hfs]
        have key : ∀ (gs : List Field) (l : List Nat) (ks : List Nat), gs.foldl (leafStep P d) (some l) = some ks → xs.length = ks.length → ys.length = ks.length → ∀ (b : Bool), evEqCells (ks.drop l.length) (xs.drop l.length) (ys.drop l.length) = some b →
            (Op.eqFields D us vs gs).run P w = .ok b w := by
          intro gs
          induction gs with
          | nil =>
            intro l ks hk hxl hyl b hb
            simp at hk
            subst hk
            have hl := evEqCells_len hb
            simp at hl
            have h1 : xs.drop l.length = [] := List.drop_eq_nil_of_le (by omega)
            have h2 : ys.drop l.length = [] := List.drop_eq_nil_of_le (by omega)
            rw [h1, h2] at hb
            simp [evEqCells] at hb
            subst hb
            simp [Op.eqFields]
          | cons f gs ih =>
            intro l ks hk hxl hyl b hb
            simp only [List.foldl_cons] at hk
            cases hs : leafStep P d (some l) f with
            | none => rw [hs, leafStep_none] at hk; cases hk
            | some l' =>
              rw [hs] at hk
              obtain ⟨r2, hr2⟩ := leafStep_grows P d gs l' ks hk
              simp only [leafStep] at hs
              split at hs
              · rename_i hname
                split at hs
                · rename_i r hr
                  split at hs
                  · rename_i hsz
                    injection hs with hs
                    subst hs
                    rw [hr2, List.append_assoc, List.drop_left] at hb
                    obtain ⟨b1, b2, e1, e2, e3⟩ := evEqCells_append hb
                    subst e3
                    have hkl : ks.length = l.length + r.length + r2.length := by rw [hr2]; simp; omega
                    have hoff : f.offset + r.length ≤ xs.length := by rw [hname.2]; omega
                    have hoff2 : f.offset + r.length ≤ ys.length := by rw [hname.2]; omega
                    cases hga : isAggT P f.type with
                    | none =>
                      exfalso
                      cases d with
                      | zero => simp [leaves] at hr
                      | succ d => 
                        simp only [leaves] at hr
                        unfold isAggT at hga
                        cases hu : P.underlying f.type with
                        | none => simp [hu] at hr
                        | some dd => cases dd <;> simp [hu] at hga
                    | some ga =>
                      have hofx : ∃ vx, ofCells ga ((xs.drop f.offset).take r.length) = some vx ∧ (ga = true → vx = .agg ((xs.drop f.offset).take r.length)) ∧ (ga = false → ∃ c, (xs.drop f.offset).take r.length = [c] ∧ vx = .c c) := by
                        cases ga with
                        | true => exact ⟨_, by simp [ofCells], fun _ => rfl, fun h => by cases h⟩
                        | false =>
                          have hr1 : r.length = 1 := by
                            cases d with
                            | zero => simp [leaves] at hr
                            | succ d =>
                              simp only [leaves] at hr
                              unfold isAggT at hga
                              split at hr <;> first
                                | (injection hr with hr; subst hr; rfl)
                                | (rename_i hu; simp [hu] at hga)
                                | cases hr
                          have hl1 : ((xs.drop f.offset).take r.length).length = 1 := by simp; omega
                          obtain ⟨c, hc⟩ := List.length_eq_one_iff.1 hl1
                          exact ⟨.c c, by simp [ofCells, hc], (fun h => by cases h), fun _ => ⟨c, hc, rfl⟩⟩
                      have hofy : ∃ vy, ofCells ga ((ys.drop f.offset).take r.length) = some vy ∧ (ga = true → vy = .agg ((ys.drop f.offset).take r.length)) ∧ (ga = false → ∃ c, (ys.drop f.offset).take r.length = [c] ∧ vy = .c c) := by
                        cases ga with
                        | true => exact ⟨_, by simp [ofCells], fun _ => rfl, fun h => by cases h⟩
                        | false =>
                          obtain ⟨_, _, _, hq⟩ := hofx
                          obtain ⟨c0, hc0, _⟩ := hq rfl
                          have hl0 : ((xs.drop f.offset).take r.length).length = 1 := by rw [hc0]; rfl
                          have hl1 : ((ys.drop f.offset).take r.length).length = 1 := by simp at hl0 ⊢; omega
                          obtain ⟨c, hc⟩ := List.length_eq_one_iff.1 hl1
                          exact ⟨.c c, by simp [ofCells, hc], (fun h => by cases h), fun _ => ⟨c, hc, rfl⟩⟩
                      obtain ⟨ax, hax, hax1, hax2⟩ := hofx
                      obtain ⟨ay, hay, hay1, hay2⟩ := hofy
                      have hgn : ga = true ∨ r.length = 1 := by
                        cases ga with
                        | true => exact .inl rfl
                        | false =>
                          obtain ⟨c, hc, _⟩ := hax2 rfl
                          have : ((xs.drop f.offset).take r.length).length = 1 := by rw [hc]; rfl
                          right
                          simp at this
                          omega
                      obtain ⟨ux, p1, q1⟩ := part_sound (P := P) (w := w) hga hsz hgn hx hoff hax
                      obtain ⟨uy, p2, q2⟩ := part_sound (P := P) (w := w) hga hsz hgn hy hoff2 hay
                      have hrec := eq_leaves d hr D (by omega) ((xs.drop f.offset).take r.length) ((ys.drop f.offset).take r.length) b1 ux uy (by rw [hname.2]; exact e1)
                        (fun hg1 => by
                          rw [hga] at hg1; injection hg1 with hg1
                          rw [hax1 hg1] at q1; rw [hay1 hg1] at q2
                          cases q1 with
                          | agg q1 => cases q2 with
                            | agg q2 => exact ⟨_, _, rfl, rfl, q1, q2⟩)
                        (fun hg1 => by
                          rw [hga] at hg1; injection hg1 with hg1
                          obtain ⟨c1, hc1, hv1⟩ := hax2 hg1
                          obtain ⟨c2, hc2, hv2⟩ := hay2 hg1
                          rw [hv1] at q1; rw [hv2] at q2
                          cases q1 with
                          | c q1 => cases q2 with
                            | c q2 => exact ⟨c1, c2, hc1, hc2, q1, q2⟩)
                      have hih := ih (l ++ r) ks hk hxl hyl b2 (by rw [hr2, List.drop_left]; simpa [List.drop_drop] using e2)
                      simp only [Op.eqFields]
                      rw [if_pos hname.1]
                      simp only [Sem.run_bind, p1, p2, hrec, Result.andThen_ok]
                      cases b1 with
                      | true => simpa using hih
                      | false => simp
                  · cases hs
                · cases hs
              · cases hs
        exact key fs.toList [] ks h (evEqCells_len he).1 (evEqCells_len he).2 b (by simpa using he)
    · cases h

theorem eqS_sound {neg : Bool} {ks : List Nat} {xs ys : List Cell} {b : Bool} (he : evEqCells ks xs ys = some b) {t : TypeId} {fs : Array Field} (ht : P.underlying t = some (.struct fs)) (hk : leaves P 8 t = some ks) (hgd : P.eqGuardType P.depth t = false)
    {us vs : Array Value} (hx : All2 (VR m σ) xs us.toList) (hy : All2 (VR m σ) ys vs.toList) (o1 o2 : Operand) (op : BinOp) (hop : op = if neg then .neq else .eql) :
    (do eqGuard op t o1 o2 (.agg us) (.agg vs); binOp op t (.agg us) (.agg vs) : Sem Value).run P w = .ok (.bool (neg != b)) w := by
  have h := eq_leaves (m := m) (σ := σ) (w := w) 8 hk 10000 (by omega) xs ys b _ _ he (fun _ => ⟨us, vs, rfl, rfl, hx, hy⟩) (fun h => by simp [isAggT, ht] at h)
  rw [Sem.run_bind, run_eqGuard_agg w op t o1 o2 us vs hgd, Result.andThen_ok]
  cases neg <;> subst hop
  · simp only [Bool.false_eq_true, if_false]
    rw [run_eql_struct, h]
    simp
  · simp only [if_true]
    rw [run_neq_struct, h]
    simp

end Go.Proofs.YtpjbjdicdjlmeaaGreatDoor.Eng

/- The engine, part 10: all operations that call nothing, in one theorem. No statement of the seat is proved here. -/
namespace Go.Proofs.YtpjbjdicdjlmeaaGreatDoor.Eng
open Go
set_option linter.unusedVariables false
set_option linter.unusedSimpArgs false

variable {P : Program} {B : Nat} {m : LMap} {H : Heap} {w : World}

/-- What an operation comes to: a value (or nothing, told as 'undef'), memory as the abstract heap says. -/
def OpTo (P : Program) (B : Nat) (m : LMap) (H : Heap) (w : World) (s : Sem Next) (v : AVal) (H' : Heap) : Prop :=
  ∃ n v' w' m', s.run P w = .ok n w' ∧ (n = .value v' ∨ (n = .skip ∧ v' = undef)) ∧ St B H m w H' m' w' ∧ VRA m' (cellsIn w') v v'

theorem OpTo.same (r : Rel B m H w) {s : Sem Value} {v : AVal} {u : Value} (h : s.run P w = .ok u w) (k : VRA m (cellsIn w) v u) : OpTo P B m H w (do pure (.value (← s))) v H :=
  ⟨.value u, u, w, m, by simp [h], .inl rfl, St.refl r, k⟩

theorem OpTo.made {s : Sem Value} {v : AVal} {H' : Heap} (h : ∃ w' m' u, s.run P w = .ok u w' ∧ St B H m w H' m' w' ∧ VRA m' (cellsIn w') v u) : OpTo P B m H w (do pure (.value (← s))) v H' := by
  obtain ⟨w', m', u, h1, h2, h3⟩ := h
  exact ⟨.value u, u, w', m', by simp [h1], .inl rfl, h2, h3⟩

theorem VRA.inv_c {σ : Mem} {x : Cell} {v : Value} (h : VRA m σ (.c x) v) : VR m σ x v := by cases h; assumption
theorem VRA.inv_agg {σ : Mem} {xs : List Cell} {v : Value} (h : VRA m σ (.agg xs) v) : ∃ vs, v = .agg vs ∧ All2 (VR m σ) xs vs.toList := by cases h; exact ⟨_, rfl, by assumption⟩
theorem VR.inv_bool {σ : Mem} {b : Bool} {v : Value} (h : VR m σ (.bool b) v) : v = .bool b := by cases h; rfl
theorem VR.inv_int {σ : Mem} {k : IntKind} {n : Int} {v : Value} (h : VR m σ (.int k n) v) : v = .int k n := by cases h; rfl
theorem VR.inv_str {σ : Mem} {s : ByteArray} {v : Value} (h : VR m σ (.str s) v) : v = .string s := by cases h; rfl

theorem opd_c {x : Operand} {y : Opd} {e : Env} {a : Act} {σ : Mem} (h : cmpOpd x = some y) (he : EnvOn m σ y.tmps e a) {c : Cell} (hc : y.ev e = .c c) : VR m σ c (a.eval x) := by
  have := opd_sound h he
  rw [hc] at this
  exact this.inv_c

theorem cmpOp_some {o : Oper} {e : Env} {H' : Heap} {v : AVal} (h : ev (cmpOp P o) e H = some (v, H')) : ∃ s, cmpOp' P o = some s ∧ cmpOp P o = s := by
  cases hs : cmpOp' P o with
  | none => simp [cmpOp, hs, ev] at h
  | some s => exact ⟨s, rfl, by simp [cmpOp, hs]⟩

theorem isAggP {t : TypeId} {g : Bool} {n : Nat} (h : (g = true ∨ n = 1)) : g = true ∨ n = 1 := h

theorem ofSome {α : Type} {x y : α} (h : some x = some y) : x = y := by injection h

theorem getAgg {σ : Mem} {x : Operand} {y : Opd} {e : Env} {a : Act} (h : cmpOpd x = some y) (he : EnvOn m σ y.tmps e a) {cs : List Cell} (hc : y.ev e = .agg cs) : ∃ vs, a.eval x = .agg vs ∧ All2 (VR m σ) cs vs.toList := by
  have := opd_sound h he
  rw [hc] at this
  exact this.inv_agg

theorem takeBytes_some : ∀ {rs : List (List Cell)} {l : List UInt8}, takeBytes rs = some l → ∃ ns : List Int, rs = ns.map (fun n => [Cell.int .u8 n]) ∧ l = ns.map fun n => UInt8.ofNat n.toNat
  | [], l, h => by simp [takeBytes] at h; exact ⟨[], rfl, by simp [h]⟩
  | q :: rs, l, h => by
    unfold takeBytes at h
    split at h
    · rename_i hq; cases hq
    · rename_i n r' hq
      injection hq with hq1 hq2
      subst hq1; subst hq2
      split at h
      · rename_i l' hl'
        injection h with h
        obtain ⟨ns, h1, h2⟩ := takeBytes_some hl'
        exact ⟨n :: ns, by simp [h1], by simp [← h, h2]⟩
      · cases h
    · cases h

theorem push_fold : ∀ (ns : List Int) (s : ByteArray), ns.foldl (fun r n => r.push (UInt8.ofNat n.toNat)) s = ⟨(s.data.toList ++ ns.map fun n => UInt8.ofNat n.toNat).toArray⟩
  | [], s => by simp
  | n :: ns, s => by
    simp only [List.foldl_cons]
    rw [push_fold ns]
    congr 1
    simp [ByteArray.push]

theorem b2s_sound (r : Rel B m H w) {s d q : TypeId} (hs : P.underlying s = some (.slice q)) (hq : P.underlying q = some (.int .u8)) (hn : sizeT P q = some 1) (hd : P.underlying d = some .string) {c : Cell} (hc : ∀ t, c ≠ .str t) {rs : List (List Cell)} (hr : H.rowsOf c = some rs) (hfit : fitsSz 1 c = true) {l : List UInt8} (hl : takeBytes rs = some l) {v : Value} (hv : VR m (cellsIn w) c v) :
    (convert s d v).run P w = .ok (.string ⟨l.toArray⟩) w := by
  obtain ⟨news, n1, n2, n3, n4, n5⟩ := source_sound (P := P) r hv (by omega) hfit hr
  obtain ⟨ns, e1, e2⟩ := takeBytes_some hl
  have hnews : news = ns.map (Value.int .u8) := by
    apply List.ext_getElem?
    intro i
    rw [List.getElem?_map]
    cases hi : ns[i]? with
    | none =>
      have : ns.length ≤ i := by simpa using hi
      simp
      rw [n1, e1]
      simpa using this
    | some n =>
      obtain ⟨_, g2⟩ := n2 i [.int .u8 n] (by rw [e1, List.getElem?_map, hi]; rfl)
      obtain ⟨u, k1, k2⟩ := g2 0 (.int .u8 n) rfl
      rw [k2.inv_int] at k1
      simpa using k1
  have bytes_at : ∀ (A : Addr) (n cc : Nat), v = .slice (some A) n cc → (convert s d v).run P w = .ok (.string ⟨l.toArray⟩) w := by
    rintro A n cc rfl
    have hlen : rs.length = n := by
      have := n4
      simp [Builtin.lenOf] at this
      exact this.symm
    have hload : (loadCells A n).run P w = .ok (ns.map (Value.int .u8)).toArray w := by
      have := n5 w rfl
      rw [hlen] at this
      simpa [Builtin.firstCells, hnews] using this
    have := run_bytesToString (P := P) w A n cc ns hload
    rw [push_fold] at this
    simp [convert, run_underlying hs, run_underlying hq, run_underlying hd, this]
    rw [e2]
  cases hv with
  | nilS =>
    simp [Heap.rowsOf] at hr
    subst hr
    simp [takeBytes] at hl
    subst hl
    simp [convert, run_underlying hs, run_underlying hq, run_underlying hd, Conv.bytesToString]
    rfl
  | str t => exact absurd rfl (hc t)
  | slc h1 h2 h3 h4 =>
    exact bytes_at _ _ _ rfl
  | zerN =>
    simp [Heap.rowsOf] at hr
    subst hr
    simp [takeBytes] at hl
    subst hl
    simp [convert, run_underlying hs, run_underlying hq, run_underlying hd, Conv.bytesToString]
    rfl
  | zerS => exact bytes_at _ _ _ rfl
  | emp => exact bytes_at _ _ _ rfl
  | lstN =>
    simp [Heap.rowsOf] at hr
    subst hr
    simp [takeBytes] at hl
    subst hl
    simp [convert, run_underlying hs, run_underlying hq, run_underlying hd, Conv.bytesToString]
    rfl
  | lst => exact bytes_at _ _ _ rfl
  | _ => simp [fitsSz] at hfit

theorem s2b_sound (r : Rel B m H w) {s d q : TypeId} (hs : P.underlying s = some .string) (hd : P.underlying d = some (.slice q)) (hq : P.underlying q = some (.int .u8)) (hn : sizeT P q = some 1) (t : ByteArray) (ht : t.size ≤ 140737488355328) :
    ∃ w' m' u, (convert s d (.string t)).run P w = .ok u w' ∧ St B H m w H m' w' ∧ VRA m' (cellsIn w') (.c (.lst 1 ((bytesOf t).map fun c => [c]))) u := by
  have hrun := run_bytes_of_string (P := P) w s d q t hs hd hq
  have hge := grownCap_ge w t.size 0 q
  have hle := grownCap_le_maxLen w t.size 0 q (by unfold maxLen; omega)
  generalize grownCap w t.size 0 q = cap at hrun hge hle
  have hold : ∀ g, g < w.heap.size → (w.drew.alloc (.cells (bytesRow t cap) q ((bytesRow t cap).size, (bytesRow t cap).size + 1))).heap[g]? = w.heap[g]? := fun g hg => heap_alloc_old w.drew _ g hg
  have hnew : (w.drew.alloc (.cells (bytesRow t cap) q ((bytesRow t cap).size, (bytesRow t cap).size + 1))).heap[w.heap.size]? = some (.cells (bytesRow t cap) q ((bytesRow t cap).size, (bytesRow t cap).size + 1)) := heap_alloc_new w.drew _
  have hlt : w.heap.size < (w.drew.alloc (.cells (bytesRow t cap) q ((bytesRow t cap).size, (bytesRow t cap).size + 1))).heap.size := by
    rw [Array.getElem?_eq_some_iff] at hnew; exact hnew.1
  generalize hw : w.drew.alloc (.cells (bytesRow t cap) q ((bytesRow t cap).size, (bytesRow t cap).size + 1)) = w' at hrun hold hnew hlt
  have hbel : RowKit.Below w.heap.size w w' := ⟨by rw [← hw]; rfl, by rw [← hw]; rfl, by rw [← hw]; rfl, Nat.le_of_lt hlt, hold⟩
  refine ⟨w', ⟨m.f, fun g => m.z g ∨ g = w.heap.size⟩, _, hrun, St.ofBelow r hbel (by rw [← hw]; exact Or.inr (Nat.le_succ _)) (fun _ h => .inl h) (fun g h => h.imp id fun h => by subst h; exact ⟨Nat.le_refl _, hlt⟩), .c ?_⟩
  have hget : ∀ (i : Nat) q, ((bytesOf t).map fun c => [c])[i]? = some q → ∃ b, t.data.toList[i]? = some b ∧ q = [.int .u8 (b.toNat : Int)] := by
    intro i q e
    simp only [bytesOf, List.map_map, List.getElem?_map] at e
    cases hb : t.data.toList[i]? with
    | none => rw [hb] at e; cases e
    | some b => rw [hb] at e; simp at e; exact ⟨b, rfl, e.symm⟩
  refine VR.lst' (g := w.heap.size) (o := 0) (vs := fun i f => (w'.cell? ⟨w.heap.size, i + f, none⟩).getD undef) (by simp [bytesOf]) hge hle (fun _ => ⟨rfl, .inr rfl⟩) (fun i q e => ?_) (fun i q f x e ef => ?_) (fun i q f x e ef => ?_)
  · obtain ⟨b, _, rfl⟩ := hget i q e; rfl
  all_goals
    obtain ⟨b, hb, rfl⟩ := hget i q e
    have hf : f = 0 := by
      cases f with
      | zero => rfl
      | succ f => simp at ef
    subst hf
    simp at ef
    subst ef
    have hc : w'.cell? ⟨w.heap.size, i + 0, none⟩ = some (.int .u8 (b.toNat : Int)) := by
      rw [cell_of_row _ _ _ _ _ _ hnew]
      have hi : i < t.data.size := by have := (List.getElem?_eq_some_iff.1 hb).1; simpa using this
      have hb' : t.data[i] = b := by
        have := hb
        rw [List.getElem?_eq_getElem (by simpa using hi)] at this
        injection this
      have hi2 : i < t.size := hi
      have hq2 : t.data[i]? = some b := by rw [Array.getElem?_eq_getElem hi, hb']
      simp [bytesRow, Array.getElem?_append, hi2, hq2, hb']
  · rw [cellsIn_cell]
    simp only [Nat.zero_add, Nat.mul_one]
    rw [hc]; rfl
  · rw [hc]; exact .int _ _

theorem caps_sound {e : Env} {a : Act} {σ : Mem} : ∀ {xs : List Operand} {ys : List Opd} {cs : List Cell}, cmpOpds xs = some ys → EnvOn m σ (ys.flatMap Opd.tmps) e a → evCaps e ys = some cs → All2 (VR m σ) cs (xs.map a.eval)
  | [], ys, cs, h, _, hc => by
    simp [cmpOpds] at h
    subst h
    simp [evCaps] at hc
    subst hc
    exact .nil
  | x :: xs, ys, cs, h, he, hc => by
    unfold cmpOpds at h
    split at h <;> try (cases h; done)
    rename_i y ys' hy hys
    obtain rfl := ofSome h
    simp only [List.flatMap_cons] at he
    unfold evCaps at hc
    split at hc <;> try (cases hc; done)
    rename_i c cs' hcy hcs
    obtain rfl := ofSome hc
    exact .cons (opd_c hy he.left hcy) (caps_sound hys he.right hcs)

theorem All2.pointwise {R : Cell → Value → Prop} {cs : List Cell} {vs : Array Value} (h : All2 R cs vs.toList) : cs.length = vs.size ∧ ∀ (i : Nat) c v, cs[i]? = some c → vs[i]? = some v → R c v := by
  refine ⟨by simpa using h.length, fun i c v h1 h2 => ?_⟩
  obtain ⟨u, k1, k2⟩ := h.get h1
  rw [Array.getElem?_toList] at k1
  rw [h2] at k1
  injection k1 with k1
  subst k1
  exact k2

theorem ix_run {t q : TypeId} (ht : P.underlying t = some (.slice q)) {n : Nat} (hn : sizeT P q = some n) (A : Addr) (len cap : Nat) (k : IntKind) (i : Int) (h0 : 0 ≤ i) (h1 : i < len) :
    (Instr.indexAt t (.slice (some A) len cap) (.int k i)).run P w = .ok (.pointer (some (A.add (i.toNat * n)))) w := by
  simp [Instr.indexAt, asIntOf, run_underlying ht, h0, h1, run_sizeT hn]

theorem ixA_run {t q : TypeId} {len : Nat} (ht : P.underlying t = some (.array len q)) {n : Nat} (hn : sizeT P q = some n) (A : Addr) (k : IntKind) (i : Int) (h0 : 0 ≤ i) (h1 : i < len) :
    (Instr.indexAt t (.pointer (some A)) (.int k i)).run P w = .ok (.pointer (some (A.add (i.toNat * n)))) w := by
  simp [Instr.indexAt, Instr.sureAddr, asIntOf, run_underlying ht, h0, h1, run_sizeT hn]

theorem ev_sound (r : Rel B m H w) {o : Oper} {a : Act} {e : Env} {v : AVal} {H' : Heap} (hev : ev (cmpOp P o) e H = some (v, H')) (he : EnvOn m (cellsIn w) (cmpOp P o).reads e a) : OpTo P B m H w (execOp a.eval o) v H' := by
  obtain ⟨s, hs, hcs⟩ := cmpOp_some hev
  rw [hcs] at hev he
  clear hcs
  unfold execOp
  cases ho : o.op with
  | move x =>
    simp only [cmpOp', ho] at hs
    split at hs <;> try (cases hs; done)
    rename_i _ y hx
    obtain rfl := ofSome hs
    simp only [ev] at hev
    injection hev with hev; injection hev with h1 h2; subst h1; subst h2
    exact ⟨_, _, w, m, rfl, .inl rfl, St.refl r, opd_sound hx he⟩
  | assign x =>
    simp only [cmpOp', ho] at hs
    split at hs <;> try (cases hs; done)
    rename_i _ y hx
    obtain rfl := ofSome hs
    simp only [ev] at hev
    injection hev with hev; injection hev with h1 h2; subst h1; subst h2
    exact ⟨_, _, w, m, rfl, .inl rfl, St.refl r, opd_sound hx he⟩
  | pick c x y =>
    simp only [cmpOp', ho] at hs
    split at hs <;> try (cases hs; done)
    rename_i _ _ _ c' x' y' hc hx hy
    obtain rfl := ofSome hs
    simp only [AOp.reads] at he
    simp only [ev] at hev
    split at hev <;> try (cases hev; done)
    rename_i _ b hb
    injection hev with hev; injection hev with h1 h2; subst h1; subst h2
    have h3 := (opd_c hc he.left.left hb).inv_bool
    cases b with
    | true => exact ⟨_, _, w, m, by simp [h3, asBool]; rfl, .inl rfl, St.refl r, by simpa using opd_sound hx he.left.right⟩
    | false => exact ⟨_, _, w, m, by simp [h3, asBool]; rfl, .inl rfl, St.refl r, by simpa using opd_sound hy he.right⟩
  | alloc t =>
    simp only [cmpOp', ho] at hs
    split at hs <;> try (cases hs; done)
    rename_i _ z hz
    obtain rfl := ofSome hs
    simp only [ev] at hev
    injection hev with hev; injection hev with h1 h2; subst h1; subst h2
    exact OpTo.made (new_sound r hz)
  | box t x =>
    simp only [cmpOp', ho] at hs
    split at hs <;> try (cases hs; done)
    rename_i _ y hx
    obtain rfl := ofSome hs
    simp only [AOp.reads] at he
    simp only [ev] at hev
    have hxs := opd_sound hx he
    split at hev
    · rename_i _ c hc
      injection hev with hev; injection hev with h1 h2; subst h1; subst h2
      rw [hc] at hxs
      exact OpTo.made (box_sound r hxs (.inl (by simp [AVal.cells])))
    · rename_i _ cs hc
      injection hev with hev; injection hev with h1 h2; subst h1; subst h2
      rw [hc] at hxs
      exact OpTo.made (box_sound r hxs (.inr ⟨_, rfl⟩))
    · cases hev
  | build t parts =>
    simp only [cmpOp', ho] at hs
    split at hs <;> try (cases hs; done)
    rename_i _ _ fs z ht hz
    split at hs <;> try (cases hs; done)
    rename_i _ ps hp
    split at hs <;> try (cases hs; done)
    rename_i hall
    obtain rfl := ofSome hs
    simp only [AOp.reads] at he
    simp only [ev] at hev
    split at hev <;> try (cases hev; done)
    rename_i _ cs hf
    injection hev with hev; injection hev with h1 h2; subst h1; subst h2
    obtain ⟨u, h3, h4⟩ := build_sound (w := w) ht hz hall.1 hp he (by
      intro p hp
      have := List.all_eq_true.1 hall.2 p hp
      simpa using this) hf
    exact OpTo.same r h3 h4
  | buildSlice t len parts =>
    simp only [cmpOp', ho] at hs
    split at hs <;> try (cases hs; done)
    rename_i _ q ht
    split at hs <;> try (cases hs; done)
    rename_i _ _ _ n z ps hn hz hp
    split at hs <;> try (cases hs; done)
    rename_i hc
    obtain rfl := ofSome hs
    simp only [AOp.reads] at he
    simp only [ev] at hev
    split at hev <;> try (cases hev; done)
    rename_i _ rows hf
    injection hev with hev; injection hev with h1 h2; subst h1; subst h2
    exact OpTo.made (lit_sound r ht hn hz hc.2.1 hc.2.2 hc.1 hp he hf)
  | load t x =>
    simp only [cmpOp', ho] at hs
    split at hs <;> try (cases hs; done)
    rename_i _ _ _ g n y hg hn hx
    split at hs <;> try (cases hs; done)
    obtain rfl := ofSome hs
    simp only [AOp.reads] at he
    simp only [ev] at hev
    split at hev <;> try (cases hev; done)
    · rename_i _ b i f hb
      split at hev <;> try (cases hev; done)
      rename_i _ q hq
      split at hev <;> try (cases hev; done)
      rename_i hfn
      split at hev <;> try (cases hev; done)
      rename_i _ v' hv
      injection hev with hev; injection hev with h1 h2; subst h1; subst h2
      have ha := opd_sound hx he
      rw [hb] at ha
      obtain ⟨u, h3, h4⟩ := load_sound r hg hn ha hq hfn hv
      exact OpTo.same r h3 h4
    · rename_i _ q f hb
      split at hev <;> try (cases hev; done)
      rename_i hfn
      split at hev <;> try (cases hev; done)
      rename_i _ v' hv
      injection hev with hev; injection hev with h1 h2; subst h1; subst h2
      obtain ⟨u, h3, h4⟩ := loadF_sound (P := P) hg hn (opd_c hx he hb) hfn hv
      exact OpTo.same r h3 h4
  | store t x y =>
    simp only [cmpOp', ho] at hs
    split at hs <;> try (cases hs; done)
    rename_i _ _ _ n x' y' hn hx hy
    obtain rfl := ofSome hs
    simp only [AOp.reads] at he
    simp only [ev] at hev
    split at hev <;> try (cases hev; done)
    rename_i _ b i f hb
    split at hev <;> try (cases hev; done)
    rename_i _ q hq
    split at hev <;> try (cases hev; done)
    rename_i hc
    injection hev with hev; injection hev with h1 h2; subst h1; subst h2
    have ha := opd_sound hx he.left
    rw [hb] at ha
    have hv := opd_sound hy he.right
    obtain ⟨w', h3, h4⟩ := store_sound r hn ha hv (.inl (by intro h0; rw [h0] at hc; simp at hc; omega)) hq hc.1 hc.2.1 hc.2.2.1 hc.2.2.2
    exact ⟨.skip, undef, w', m, by simp [h3], .inr ⟨rfl, rfl⟩, h4, VRA.undef⟩
  | nilCheck x =>
    simp only [cmpOp', ho] at hs
    split at hs <;> try (cases hs; done)
    rename_i _ y hx
    obtain rfl := ofSome hs
    simp only [AOp.reads] at he
    simp only [ev] at hev
    have hxs := opd_sound hx he
    split at hev <;> try (cases hev; done)
    rename_i h1 h2 h3
    injection hev with hev; injection hev with h4 h5; subst h4; subst h5
    refine ⟨.value (a.eval x), a.eval x, w, m, ?_, .inl rfl, St.refl r, hxs⟩
    dsimp only
    generalize a.eval x = va at hxs
    generalize y.ev e = ya at *
    cases hxs with
    | c hxs =>
      cases hxs <;> first
        | (exfalso; exact h1 rfl)
        | (exfalso; exact h2 rfl)
        | (exfalso; exact h3 rfl)
        | rfl
    | agg k => rfl
    | tup k1 k2 => rfl
  | binOp op t x y yt =>
    simp only [cmpOp', ho, cmpBin] at hs
    split at hs <;> try (cases hs; done)
    rename_i _ _ x' y' hx hy
    have plain : AOp.bin op x' y' = s → OpTo P B m H w (do pure (.value (← (do eqGuard op t x y (a.eval x) (a.eval y); binOp op t (a.eval x) (a.eval y) : Sem Value)))) v H' := by
      intro hs'
      subst hs'
      simp only [AOp.reads] at he
      simp only [ev] at hev
      split at hev <;> try (cases hev; done)
      rename_i _ _ cx cy hcx hcy
      split at hev <;> try (cases hev; done)
      rename_i _ c hc
      injection hev with hev; injection hev with h1 h2; subst h1; subst h2
      obtain ⟨u, h3, h4⟩ := bin_sound (P := P) (w := w) hc (t := t) (opd_c hx he.left hcx) (opd_c hy he.right hcy) x y
      exact OpTo.same r h3 (.c h4)
    have bools : ∀ neg : Bool, op = (if neg then BinOp.neq else BinOp.eql) → P.underlying t = some .bool → AOp.binB neg x' y' = s → OpTo P B m H w (do pure (.value (← (do eqGuard op t x y (a.eval x) (a.eval y); binOp op t (a.eval x) (a.eval y) : Sem Value)))) v H' := by
      intro neg hop ht hs'
      subst hs'
      simp only [AOp.reads] at he
      simp only [ev] at hev
      split at hev <;> try (cases hev; done)
      rename_i _ _ cx cy hcx hcy
      injection hev with hev; injection hev with h1 h2; subst h1; subst h2
      have e1 := (opd_c hx he.left hcx).inv_bool
      have e2 := (opd_c hy he.right hcy).inv_bool
      rw [e1, e2]
      exact OpTo.same r (bin_bool hop ht x y) (.c (.bool _))
    have nils : ∀ (sl neg : Bool), op = (if neg then BinOp.neq else BinOp.eql) → (if sl then ∃ q, P.underlying t = some (.slice q) else ∃ ms, P.underlying t = some (.interface ms)) → (nilConst x || nilConst y) = true → AOp.eqNil sl neg x' y' = s →
        OpTo P B m H w (do pure (.value (← (do eqGuard op t x y (a.eval x) (a.eval y); binOp op t (a.eval x) (a.eval y) : Sem Value)))) v H' := by
      intro sl neg hop ht hnc hs'
      subst hs'
      simp only [AOp.reads] at he
      simp only [ev] at hev
      split at hev <;> try (cases hev; done)
      rename_i _ _ cx cy hcx hcy
      split at hev <;> try (cases hev; done)
      rename_i _ b hb
      injection hev with hev; injection hev with h1 h2; subst h1; subst h2
      obtain ⟨u, h3, h4⟩ := nil_sound (P := P) (w := w) hb ht (opd_c hx he.left hcx) (opd_c hy he.right hcy) x y hnc op hop
      exact OpTo.same r h3 (.c h4)
    have structs : ∀ (neg : Bool) (ks : List Nat) (fs : Array Field), op = (if neg then BinOp.neq else BinOp.eql) → P.underlying t = some (.struct fs) → leaves P 8 t = some ks → P.eqGuardType P.depth t = false → AOp.eqS neg ks x' y' = s →
        OpTo P B m H w (do pure (.value (← (do eqGuard op t x y (a.eval x) (a.eval y); binOp op t (a.eval x) (a.eval y) : Sem Value)))) v H' := by
      intro neg ks fs hop ht hks hgd hs'
      subst hs'
      simp only [AOp.reads] at he
      simp only [ev] at hev
      split at hev <;> try (cases hev; done)
      rename_i _ _ cx cy hcx hcy
      split at hev <;> try (cases hev; done)
      rename_i _ b hb
      injection hev with hev; injection hev with h1 h2; subst h1; subst h2
      obtain ⟨us, e1, k1⟩ := getAgg hx he.left hcx
      obtain ⟨vs, e2, k2⟩ := getAgg hy he.right hcy
      rw [e1, e2]
      exact OpTo.same r (eqS_sound hb ht hks hgd k1 k2 x y op hop) (.c (.bool _))
    split at hs <;> try (cases hs; done)
    · exact plain (ofSome hs)
    · exact plain (ofSome hs)
    · rename_i _ ht
      split at hs <;> try (cases hs; done)
      · exact bools false rfl ht (ofSome hs)
      · exact bools true rfl ht (ofSome hs)
    · rename_i _ fs ht
      split at hs <;> try (cases hs; done)
      · rename_i _ _ ks hks
        split at hs <;> try (cases hs; done)
        rename_i hgd
        exact structs false ks fs rfl ht hks (by simpa using hgd) (ofSome hs)
      · rename_i _ _ ks hks
        split at hs <;> try (cases hs; done)
        rename_i hgd
        exact structs true ks fs rfl ht hks (by simpa using hgd) (ofSome hs)
    · rename_i _ q ht
      split at hs <;> try (cases hs; done)
      rename_i hnc
      split at hs <;> try (cases hs; done)
      · exact nils true false rfl (by simpa using ⟨q, ht⟩) hnc (ofSome hs)
      · exact nils true true rfl (by simpa using ⟨q, ht⟩) hnc (ofSome hs)
    · rename_i _ q ht
      split at hs <;> try (cases hs; done)
      rename_i hnc
      split at hs <;> try (cases hs; done)
      · exact nils false false rfl (by simpa using ⟨q, ht⟩) hnc (ofSome hs)
      · exact nils false true rfl (by simpa using ⟨q, ht⟩) hnc (ofSome hs)
  | unOp op t x =>
    simp only [cmpOp', ho] at hs
    split at hs <;> try (cases hs; done)
    rename_i _ y hx
    obtain rfl := ofSome hs
    simp only [AOp.reads] at he
    simp only [ev] at hev
    split at hev <;> try (cases hev; done)
    rename_i _ c hc
    split at hev <;> try (cases hev; done)
    rename_i _ c' hc'
    injection hev with hev; injection hev with h1 h2; subst h1; subst h2
    obtain ⟨u, h3, h4⟩ := un_sound (P := P) (w := w) hc' (opd_c hx he hc)
    exact OpTo.same r h3 (.c h4)
  | convert s d x =>
    simp only [cmpOp', ho] at hs
    dsimp only
    split at hs <;> try (cases hs; done)
    · rename_i _ _ _ ks k y h1 h2 hx
      obtain rfl := ofSome hs
      simp only [AOp.reads] at he
      simp only [ev] at hev
      split at hev <;> try (cases hev; done)
      rename_i _ k' n hc
      injection hev with hev; injection hev with e1 e2; subst e1; subst e2
      have := (opd_c hx he hc).inv_int
      rw [this]
      exact OpTo.same r (conv_sound h1 h2 k' n) (.c (.int _ _))
    · rename_i _ _ _ y h1 h2 hx
      obtain rfl := ofSome hs
      simp only [AOp.reads] at he
      simp only [ev] at hev
      split at hev <;> try (cases hev; done)
      rename_i _ t hc
      injection hev with hev; injection hev with e1 e2; subst e1; subst e2
      have := (opd_c hx he hc).inv_str
      rw [this]
      exact OpTo.same r (convStr_sound h1 h2 t) (.c (.str _))
    · rename_i _ _ _ q y h1 h2 hx
      split at hs <;> try (cases hs; done)
      rename_i _ hq
      split at hs <;> try (cases hs; done)
      rename_i hn
      obtain rfl := ofSome hs
      simp only [AOp.reads] at he
      simp only [ev] at hev
      split at hev <;> try (cases hev; done)
      rename_i _ c hc
      split at hev <;> try (cases hev; done)
      rename_i _ hstr
      split at hev <;> try (cases hev; done)
      rename_i hfit
      split at hev <;> try (cases hev; done)
      rename_i _ rs hrs
      split at hev <;> try (cases hev; done)
      rename_i _ l hl
      injection hev with hev; injection hev with e1 e2; subst e1; subst e2
      exact OpTo.same r (b2s_sound r h1 hq hn h2 (fun t ht => hstr t ht) hrs hfit hl (opd_c hx he hc)) (.c (.str _))
    · rename_i _ _ _ q y h1 h2 hx
      split at hs <;> try (cases hs; done)
      rename_i _ hq
      split at hs <;> try (cases hs; done)
      rename_i hn
      obtain rfl := ofSome hs
      simp only [AOp.reads] at he
      simp only [ev] at hev
      split at hev <;> try (cases hev; done)
      rename_i _ t hc
      split at hev <;> try (cases hev; done)
      rename_i hsz
      injection hev with hev; injection hev with e1 e2; subst e1; subst e2
      rw [(opd_c hx he hc).inv_str]
      exact OpTo.made (s2b_sound r h1 h2 hq hn t hsz)
  | makeInterface t x =>
    simp only [cmpOp', ho] at hs
    dsimp only
    split at hs <;> try (cases hs; done)
    rename_i _ _ dd y hni ht hx
    obtain rfl := ofSome hs
    simp only [AOp.reads] at he
    simp only [ev] at hev
    have hrun : ∀ v, (Instr.makeInterface t v).run P w = .ok (.iface t v) w := by
      intro v
      cases dd <;> first
        | (exfalso; exact hni _ rfl)
        | simp [Instr.makeInterface, run_underlying ht]
    split at hev <;> try (cases hev; done)
    · rename_i _ c hc
      injection hev with hev; injection hev with e1 e2; subst e1; subst e2
      exact OpTo.same r (hrun _) (.c (.ifaceC (opd_c hx he hc)))
    · rename_i _ cs hc
      injection hev with hev; injection hev with e1 e2; subst e1; subst e2
      obtain ⟨vs, e1, k⟩ := getAgg hx he hc
      rw [e1]
      exact OpTo.same r (hrun _) (.c (.ifaceA k.pointwise.1 k.pointwise.2))
  | makeFunc fn first caps =>
    cases fn <;> simp only [cmpOp', ho] at hs <;> try (cases hs; done)
    split at hs <;> try (cases hs; done)
    rename_i f hf0
    split at hs <;> try (cases hs; done)
    rename_i _ cs hcs
    obtain rfl := ofSome hs
    simp only [AOp.reads] at he
    simp only [ev] at hev
    split at hev <;> try (cases hev; done)
    rename_i _ l hl
    injection hev with hev; injection hev with e1 e2; subst e1; subst e2
    have hfirst : first = #[] := Array.eq_empty_of_size_eq_zero hf0
    subst hfirst
    have hc := caps_sound hcs he hl
    have hc' : All2 (VR m (cellsIn w)) l (caps.map a.eval).toList := by simpa using hc
    exact OpTo.same r (u := .func (.func f) #[] (caps.map a.eval)) (by simp [Instr.makeFunc]) (.c (.fn hc'.pointwise.1 hc'.pointwise.2))
  | makeSlice t l c =>
    simp only [cmpOp', ho] at hs
    dsimp only
    split at hs <;> try (cases hs; done)
    rename_i _ q ht
    split at hs <;> try (cases hs; done)
    rename_i _ _ _ _ _ n b z l' c' hn hb hz hl hc
    split at hs <;> try (cases hs; done)
    rename_i hzn
    obtain rfl := ofSome hs
    simp only [AOp.reads] at he
    simp only [ev] at hev
    split at hev <;> try (cases hev; done)
    rename_i _ _ kl lv kc cv hlv hcv
    split at hev <;> try (cases hev; done)
    rename_i hcond
    injection hev with hev; injection hev with e1 e2; subst e1; subst e2
    obtain ⟨g0, g1, g2, g3⟩ := hcond
    subst g1
    rw [(opd_c hl he.left hlv).inv_int, (opd_c hc he.right hcv).inv_int]
    exact OpTo.made (make_sound r ht hn hb hz hzn.1 hzn.2 g0 g2 g3)
  | slice t x lo hi mx =>
    simp only [cmpOp', ho] at hs
    dsimp only
    split at hs <;> try (cases hs; done)
    · rename_i _ _ _ _ _ y lo' hi' ht hx hlo hhi hmx
      obtain rfl := ofSome hs
      simp only [AOp.reads] at he
      simp only [ev] at hev
      split at hev <;> try (cases hev; done)
      rename_i _ s' hc
      split at hev <;> try (cases hev; done)
      rename_i _ q hq
      injection hev with hev; injection hev with e1 e2; subst e1; subst e2
      rw [(opd_c hx he.left.left hc).inv_str]
      have hmn : mx = none := by
        cases mx with
        | none => rfl
        | some o => simp only [cmpO] at hmx; split at hmx <;> cases hmx
      subst hmn
      exact OpTo.same r (slS_sound hlo hhi he.left.right he.right hq ht) (.c (.str _))
    · rename_i _ _ _ _ _ q y lo' hi' mx' ht hx hlo hhi hmx
      split at hs <;> try (cases hs; done)
      rename_i _ n hn
      split at hs <;> try (cases hs; done)
      rename_i hcond
      obtain rfl := ofSome hs
      simp only [AOp.reads] at he
      simp only [ev] at hev
      split at hev <;> try (cases hev; done)
      rename_i _ c hc
      split at hev <;> try (cases hev; done)
      rename_i hfit
      split at hev <;> try (cases hev; done)
      rename_i _ c' hc'
      injection hev with hev; injection hev with e1 e2; subst e1; subst e2
      obtain ⟨u, h3, h4⟩ := sl_sound (P := P) (w := w) hlo hhi hmx he.left.left.right he.left.right he.right hcond.2 hc' hfit ht hn (opd_c hx he.left.left.left hc)
      exact OpTo.same r h3 (.c h4)
  | fieldAddr t x i =>
    simp only [cmpOp', ho] at hs
    dsimp only
    split at hs <;> try (cases hs; done)
    rename_i _ _ fs y ht hx
    split at hs <;> try (cases hs; done)
    rename_i _ f hf
    split at hs <;> try (cases hs; done)
    rename_i _ n hn
    split at hs <;> try (cases hs; done)
    rename_i hn0
    obtain rfl := ofSome hs
    simp only [AOp.reads] at he
    simp only [ev] at hev
    split at hev <;> try (cases hev; done)
    · rename_i _ b i' f' hc
      injection hev with hev; injection hev with e1 e2; subst e1; subst e2
      have hp := opd_c hx he hc
      generalize a.eval x = va at hp
      cases hp with
      | ptr hb =>
        rename_i L
        refine OpTo.same r (u := .pointer (some ⟨L.g, L.o + i' * L.sz + (f' + f.offset), none⟩)) ?_ (.c (.ptr hb))
        simp [Instr.fieldAt, run_underlying ht, hf, Instr.sureAddr, fieldPlace, run_sizeT hn, show ¬ n = 0 by omega, addr_add, Nat.add_assoc]
    · rename_i _ row f' hc
      injection hev with hev; injection hev with e1 e2; subst e1; subst e2
      have hp := opd_c hx he hc
      generalize a.eval x = va at hp
      cases hp with
      | @fp _ g o _ vs h1 h2 h3 =>
        refine OpTo.same r (u := .pointer (some ⟨g, o + (f' + f.offset), none⟩)) ?_ (.c (.fp h1 h2 h3))
        simp [Instr.fieldAt, run_underlying ht, hf, Instr.sureAddr, fieldPlace, run_sizeT hn, show ¬ n = 0 by omega, addr_add, Nat.add_assoc]
  | field t x i =>
    simp only [cmpOp', ho] at hs
    dsimp only
    split at hs <;> try (cases hs; done)
    rename_i _ _ fs y ht hx
    split at hs <;> try (cases hs; done)
    rename_i _ f hf
    split at hs <;> try (cases hs; done)
    rename_i _ _ g n hg hn
    split at hs <;> try (cases hs; done)
    rename_i hgn
    obtain rfl := ofSome hs
    simp only [AOp.reads] at he
    simp only [ev] at hev
    split at hev <;> try (cases hev; done)
    rename_i _ cs hc
    split at hev <;> try (cases hev; done)
    rename_i hle
    split at hev <;> try (cases hev; done)
    rename_i _ v' hv
    injection hev with hev; injection hev with e1 e2; subst e1; subst e2
    obtain ⟨vs, e1, k⟩ := getAgg hx he hc
    rw [e1]
    obtain ⟨u, h3, h4⟩ := part_sound (P := P) (w := w) hg hn hgn k hle hv
    exact OpTo.same r (by simp [Instr.field, run_underlying ht, hf, asAgg, h3]) h4
  | indexAddr t x i =>
    simp only [cmpOp', ho] at hs
    dsimp only
    split at hs <;> try (cases hs; done)
    · rename_i _ _ _ q y j ht hx hi
      split at hs <;> try (cases hs; done)
      rename_i _ n hn
      split at hs <;> try (cases hs; done)
      obtain rfl := ofSome hs
      simp only [AOp.reads] at he
      simp only [ev] at hev
      split at hev <;> try (cases hev; done)
      · rename_i _ _ b s' n' sz z k iv hc hiv
        split at hev <;> try (cases hev; done)
        rename_i hcond
        injection hev with hev; injection hev with e1 e2; subst e1; subst e2
        have hp := opd_c hx he.left hc
        rw [(opd_c hi he.right hiv).inv_int]
        generalize a.eval x = va at hp
        cases hp with
        | slc h1 h2 h3 h4 =>
          rename_i A c
          obtain ⟨L, e1, ez, h5⟩ := h4
          obtain ⟨ea, _⟩ := h5 (by omega)
          refine OpTo.same r (ix_run ht hn A n' c k iv hcond.2.1 hcond.2.2) (.c ?_)
          have := VR.ptr (σ := cellsIn w) (i := s' + iv.toNat) (f := 0) e1
          rw [ea, addr_add]
          rw [ez, Nat.add_zero, Nat.add_mul, ← Nat.add_assoc] at this
          rw [hcond.1] at this ⊢
          exact this
      · rename_i _ _ sz rows k iv hc hiv
        split at hev <;> try (cases hev; done)
        rename_i hcond
        split at hev <;> try (cases hev; done)
        rename_i _ row hrow
        injection hev with hev; injection hev with e1 e2; subst e1; subst e2
        obtain ⟨hsz, hi0⟩ := hcond
        subst hsz
        have hil : iv.toNat < rows.length := (List.getElem?_eq_some_iff.1 hrow).1
        have hp := opd_c hx he.left hc
        rw [(opd_c hi he.right hiv).inv_int]
        generalize a.eval x = va at hp
        cases hp with
        | lstN => simp at hrow
        | @lst _ A c g o _ vs h1 h2 h3 h4 h5 h6 =>
          obtain ⟨ea, hz⟩ := h3 (by intro h0; subst h0; simp at hrow)
          refine OpTo.same r (ix_run ht hn A rows.length c k iv hi0 (by omega)) (.c ?_)
          have := VR.fp (m := m) (σ := cellsIn w) (row := row) (f := 0) (g := g) (o := o + iv.toNat * sz) (vs := vs iv.toNat) hz (fun j x ej => h5 _ row j x hrow ej) (fun j x ej => h6 _ row j x hrow ej)
          rw [ea, addr_add]
          exact this
    · rename_i _ _ _ len q y j ht hx hi
      split at hs <;> try (cases hs; done)
      rename_i _ n hn
      split at hs <;> try (cases hs; done)
      obtain rfl := ofSome hs
      simp only [AOp.reads] at he
      simp only [ev] at hev
      split at hev <;> try (cases hev; done)
      rotate_left
      · rename_i _ _ row f k iv hc hiv
        split at hev <;> try (cases hev; done)
        rename_i hcond
        injection hev with hev; injection hev with e1 e2; subst e1; subst e2
        have hp := opd_c hx he.left hc
        rw [(opd_c hi he.right hiv).inv_int]
        generalize a.eval x = va at hp
        cases hp with
        | @fp _ g o _ vs h1 h2 h3 =>
          refine OpTo.same r (ixA_run ht hn _ k iv hcond.1 hcond.2) (.c ?_)
          have := VR.fp (f := f + iv.toNat * n) h1 h2 h3
          rw [addr_add, Nat.add_assoc]
          exact this
      rename_i _ _ b rr f k iv hc hiv
      split at hev <;> try (cases hev; done)
      rename_i hcond
      injection hev with hev; injection hev with e1 e2; subst e1; subst e2
      have hp := opd_c hx he.left hc
      rw [(opd_c hi he.right hiv).inv_int]
      generalize a.eval x = va at hp
      cases hp with
      | ptr hb =>
        rename_i L
        refine OpTo.same r (ixA_run ht hn _ k iv hcond.1 hcond.2) (.c ?_)
        have := VR.ptr (σ := cellsIn w) (i := rr) (f := f + iv.toNat * n) hb
        rw [addr_add, Nat.add_assoc]
        exact this
  | index t x i =>
    simp only [cmpOp', ho] at hs
    dsimp only
    split at hs <;> try (cases hs; done)
    · rename_i _ _ _ y j ht hx hi
      obtain rfl := ofSome hs
      simp only [AOp.reads] at he
      simp only [ev] at hev
      split at hev <;> try (cases hev; done)
      rename_i _ _ s' k iv hc hiv
      split at hev <;> try (cases hev; done)
      rename_i hcond
      injection hev with hev; injection hev with e1 e2; subst e1; subst e2
      rw [(opd_c hx he.left hc).inv_str, (opd_c hi he.right hiv).inv_int]
      exact OpTo.same r (ixS_run s' ht k iv hcond) (.c (.int _ _))
    · rename_i _ _ _ len q y j ht hx hi
      split at hs <;> try (cases hs; done)
      rename_i _ _ g n hg hn
      split at hs <;> try (cases hs; done)
      rename_i hgn
      obtain rfl := ofSome hs
      simp only [AOp.reads] at he
      simp only [ev] at hev
      split at hev <;> try (cases hev; done)
      rename_i _ _ cs k iv hc hiv
      split at hev <;> try (cases hev; done)
      rename_i hcond
      split at hev <;> try (cases hev; done)
      rename_i _ v' hv
      injection hev with hev; injection hev with e1 e2; subst e1; subst e2
      obtain ⟨vs, e1, k1⟩ := getAgg hx he.left hc
      rw [e1, (opd_c hi he.right hiv).inv_int]
      obtain ⟨u, h3, h4⟩ := part_sound (P := P) (w := w) hg hn hgn k1 hcond.2.2 hv
      exact OpTo.same r (by simp [Instr.index, asIntOf, run_underlying ht, hcond.1, hcond.2.1, run_sizeT hn, h3]) h4
  | extract x i =>
    simp only [cmpOp', ho] at hs
    dsimp only
    split at hs <;> try (cases hs; done)
    rename_i _ y hx
    obtain rfl := ofSome hs
    simp only [AOp.reads] at he
    simp only [ev] at hev
    split at hev <;> try (cases hev; done)
    rename_i _ vs hc
    split at hev <;> try (cases hev; done)
    rename_i _ v' hv
    injection hev with hev; injection hev with e1 e2; subst e1; subst e2
    have hp := opd_sound hx he
    rw [hc] at hp
    generalize a.eval x = va at hp
    cases hp with
    | tup hl hk =>
      rename_i us
      have hlt : i < us.size := by rw [← hl]; exact (List.getElem?_eq_some_iff.1 hv).1
      have hu : us[i]? = some us[i] := Array.getElem?_eq_getElem hlt
      exact OpTo.same r (by simp [Instr.extract, hu]) (hk i _ _ hv hu)
  | call c =>
    simp only [cmpOp', ho, cmpCall] at hs
    dsimp only
    obtain ⟨callee, args, argTypes⟩ := c
    simp only at hs
    have key : ∀ {t : TypeId} {x : Operand} (n : Nat), (Builtin.len_ #[t] o.type #[a.eval x]).run P w = .ok (.int .i64 n) w → v = .c (.int .i64 n) → H' = H →
        OpTo P B m H w (do let d ← resolve a.eval { callee := .builtin .len, args := #[x], argTypes := #[t] } o.type; invoke d.target d.args) v H' := by
      intro t x n h1 h2 h3
      subst h2; subst h3
      have h4 := OpTo.same (s := Builtin.len_ #[t] o.type #[a.eval x]) r h1 (.c (.int _ _))
      simpa [resolve, invoke, builtin] using h4
    split at hs <;> try (cases hs; done)
    · -- a function's value: no operation of this list
      split at hs <;> try (cases hs; done)
      obtain rfl := ofSome hs
      simp only [ev] at hev
      cases hev
    · -- len
      split at hs <;> try (cases hs; done)
      rename_i _ _ t x h1 h2
      obtain rfl : argTypes = #[t] := Array.ext' (by simpa using h1)
      obtain rfl : args = #[x] := Array.ext' (by simpa using h2)
      split at hs <;> try (cases hs; done)
      · rename_i _ _ y ht hx
        obtain rfl := ofSome hs
        simp only [AOp.reads] at he
        simp only [ev] at hev
        split at hev <;> try (cases hev; done)
        rename_i _ q hc
        injection hev with hev; injection hev with e1 e2
        have hv := (opd_c hx he hc).inv_str
        exact key q.size (by rw [hv]; simp [Builtin.len_, run_underlying ht, goInt]) e1.symm e2.symm
      · rename_i _ _ q y ht hx
        obtain rfl := ofSome hs
        simp only [AOp.reads] at he
        simp only [ev] at hev
        split at hev <;> try (cases hev; done)
        · rename_i _ hc
          injection hev with hev; injection hev with e1 e2
          have hv := opd_c hx he hc
          refine key 0 ?_ e1.symm e2.symm
          generalize a.eval x = va at hv
          cases hv
          simp [Builtin.len_, run_underlying ht, goInt]
        · rename_i _ b s n sz z hc
          injection hev with hev; injection hev with e1 e2
          have hv := opd_c hx he hc
          refine key n ?_ e1.symm e2.symm
          generalize a.eval x = va at hv
          cases hv
          simp [Builtin.len_, run_underlying ht, goInt]
        · rename_i _ sz rows hc
          injection hev with hev; injection hev with e1 e2
          have hv := opd_c hx he hc
          refine key rows.length ?_ e1.symm e2.symm
          generalize a.eval x = va at hv
          cases hv <;> simp [Builtin.len_, run_underlying ht, goInt]
        · rename_i _ sz hc
          injection hev with hev; injection hev with e1 e2
          have hv := opd_c hx he hc
          refine key 0 ?_ e1.symm e2.symm
          generalize a.eval x = va at hv
          cases hv <;> simp [Builtin.len_, run_underlying ht, goInt]
        · rename_i _ sz hc
          injection hev with hev; injection hev with e1 e2
          have hv := opd_c hx he hc
          refine key 0 ?_ e1.symm e2.symm
          generalize a.eval x = va at hv
          cases hv <;> simp [Builtin.len_, run_underlying ht, goInt]
    · -- cap
      split at hs <;> try (cases hs; done)
      rename_i _ _ t x h1 h2
      obtain rfl : argTypes = #[t] := Array.ext' (by simpa using h1)
      obtain rfl : args = #[x] := Array.ext' (by simpa using h2)
      split at hs <;> try (cases hs; done)
      rename_i _ _ q y ht hx
      obtain rfl := ofSome hs
      simp only [AOp.reads] at he
      simp only [ev] at hev
      have none_ : ∀ base n, a.eval x = .slice base n 0 → v = .c (.int .i64 0) → H' = H → OpTo P B m H w (do let d ← resolve a.eval { callee := .builtin .cap, args := #[x], argTypes := #[t] } o.type; invoke d.target d.args) v H' := by
        intro base n h1 h2 h3
        subst h2; subst h3
        have hrun : (Builtin.cap_ #[t] o.type #[a.eval x]).run P w = .ok (.int .i64 0) w := by
          rw [h1]
          simp [Builtin.cap_, run_underlying ht, goInt]
        have h4 := OpTo.same (s := Builtin.cap_ #[t] o.type #[a.eval x]) r hrun (.c (.int _ _))
        simpa [resolve, invoke, builtin] using h4
      split at hev <;> try (cases hev; done)
      · rename_i _ hc
        injection hev with hev; injection hev with e1 e2
        have hv := opd_c hx he hc
        generalize hva : a.eval x = va at hv none_
        cases hv
        exact none_ _ _ rfl e1.symm e2.symm
      · rename_i _ _ hc
        injection hev with hev; injection hev with e1 e2
        have hv := opd_c hx he hc
        generalize hva : a.eval x = va at hv none_
        cases hv <;> exact none_ _ _ rfl e1.symm e2.symm
      · rename_i _ _ _ _ _ hc
        injection hev with hev; injection hev with e1 e2
        have hv := opd_c hx he hc
        generalize hva : a.eval x = va at hv none_
        cases hv with
        | slc h1 h2 h3 h4 =>
          have := h2 rfl
          subst this
          exact none_ _ _ rfl e1.symm e2.symm
    · -- append
      split at hs <;> try (cases hs; done)
      rename_i _ _ t u x y h1 h2
      obtain rfl : argTypes = #[t, u] := Array.ext' (by simpa using h1)
      obtain rfl : args = #[x, y] := Array.ext' (by simpa using h2)
      split at hs <;> try (cases hs; done)
      rename_i _ _ _ _ q d x' y' ht hu hx hy
      split at hs <;> try (cases hs; done)
      rename_i _ _ _ n b z hn hb hz
      split at hs <;> try (cases hs; done)
      rename_i hcond
      split at hs
      rotate_left
      · split at hs <;> try (cases hs; done)
        rename_i _ ik
        obtain rfl := ofSome hs
        simp only [AOp.reads] at he
        simp only [ev] at hev
        split at hev <;> try (cases hev; done)
        rename_i _ _ k' l hcx hcy
        split at hev <;> try (cases hev; done)
        rename_i hl
        injection hev with hev; injection hev with e1 e2; subst e1; subst e2
        have h1 := opd_c hx he.left hcx
        have h2 := (opd_c hy he.right hcy).inv_int
        have := appM_sound (P := P) (ty := o.type) (k' := k') r ht hu hn hb hz hcond.1 hcond.2.1 hcond.2.2 hl.1 hl.2.1 hl.2.2
        rw [← h2] at this
        generalize hva : a.eval x = va at h1
        cases h1
        rw [← hva] at this
        have h4 := OpTo.made this
        simpa [resolve, invoke, builtin] using h4
      rename_i hsrc
      obtain rfl := ofSome hs
      simp only [AOp.reads] at he
      simp only [ev] at hev
      split at hev <;> try (cases hev; done)
      rename_i _ _ cx cy hcx hcy
      have := app_sound (ty := o.type) r ht hu hsrc hn hb hz hcond.1 hcond.2.1 hcond.2.2 (opd_c hx he.left hcx) (opd_c hy he.right hcy) hev
      have h4 := OpTo.made this
      simpa [resolve, invoke, builtin] using h4
    · -- copy
      split at hs <;> try (cases hs; done)
      rename_i _ _ t u x y h1 h2
      obtain rfl : argTypes = #[t, u] := Array.ext' (by simpa using h1)
      obtain rfl : args = #[x, y] := Array.ext' (by simpa using h2)
      split at hs <;> try (cases hs; done)
      rename_i _ _ _ q x' y' ht hx hy
      split at hs <;> try (cases hs; done)
      rename_i _ n hn
      split at hs <;> try (cases hs; done)
      rename_i hcond
      obtain rfl := ofSome hs
      simp only [AOp.reads] at he
      simp only [ev] at hev
      split at hev <;> try (cases hev; done)
      rename_i _ _ cx cy hcx hcy
      have := cpy_sound (u := u) (ty := o.type) r ht hn hcond (opd_c hx he.left hcx) (opd_c hy he.right hcy) hev
      have h4 := OpTo.made this
      simpa [resolve, invoke, builtin] using h4
    · -- clear
      split at hs <;> try (cases hs; done)
      rename_i _ _ t x h1 h2
      obtain rfl : argTypes = #[t] := Array.ext' (by simpa using h1)
      obtain rfl : args = #[x] := Array.ext' (by simpa using h2)
      split at hs <;> try (cases hs; done)
      rename_i _ _ q x' ht hx
      split at hs <;> try (cases hs; done)
      rename_i _ _ n z hn hz
      split at hs <;> try (cases hs; done)
      rename_i hcond
      obtain rfl := ofSome hs
      simp only [AOp.reads] at he
      simp only [ev] at hev
      split at hev <;> try (cases hev; done)
      rename_i _ cx hcx
      have := clr_sound (ty := o.type) r ht hn hz hcond.1 hcond.2 (opd_c hx he hcx) hev
      have h4 := OpTo.made this
      simpa [resolve, invoke, builtin] using h4
    · -- max
      split at hs <;> try (cases hs; done)
      rename_i _ ys hys
      obtain rfl := ofSome hs
      simp only [AOp.reads] at he
      have hall := opds_sound hys he
      cases ys with
      | nil => simp only [ev] at hev; cases hev
      | cons y ys =>
        simp only [ev] at hev
        split at hev <;> try (cases hev; done)
        rename_i _ cx hcx
        split at hev <;> try (cases hev; done)
        rename_i _ c hc
        injection hev with hev; injection hev with e1 e2; subst e1; subst e2
        cases hl : args.toList with
        | nil => rw [hl] at hall; cases hall
        | cons z zs =>
          rw [hl] at hall
          cases hall with
          | cons hd htl =>
            rw [hcx] at hd
            obtain ⟨u, h3, h4⟩ := fold_sound (P := P) (w := w) (F := Builtin.max2) (fun h => max2_sound h) htl hd.inv_c hc
            have hm : (args.map a.eval).toList = a.eval z :: zs.map a.eval := by simp [hl]
            refine (?_ : OpTo P B m H w _ _ _)
            have h5 := OpTo.same (s := Builtin.max_ argTypes o.type (args.map a.eval)) r (by simp only [Builtin.max_, hm]; exact h3) (.c h4)
            simpa [resolve, invoke, builtin] using h5
    · -- min
      split at hs <;> try (cases hs; done)
      rename_i _ ys hys
      obtain rfl := ofSome hs
      simp only [AOp.reads] at he
      have hall := opds_sound hys he
      cases ys with
      | nil => simp only [ev] at hev; cases hev
      | cons y ys =>
        simp only [ev] at hev
        split at hev <;> try (cases hev; done)
        rename_i _ cx hcx
        split at hev <;> try (cases hev; done)
        rename_i _ c hc
        injection hev with hev; injection hev with e1 e2; subst e1; subst e2
        cases hl : args.toList with
        | nil => rw [hl] at hall; cases hall
        | cons z zs =>
          rw [hl] at hall
          cases hall with
          | cons hd htl =>
            rw [hcx] at hd
            obtain ⟨u, h3, h4⟩ := fold_sound (P := P) (w := w) (F := Builtin.min2) (fun h => min2_sound h) htl hd.inv_c hc
            have hm : (args.map a.eval).toList = a.eval z :: zs.map a.eval := by simp [hl]
            have h5 := OpTo.same (s := Builtin.min_ argTypes o.type (args.map a.eval)) r (by simp only [Builtin.min_, hm]; exact h3) (.c h4)
            simpa [resolve, invoke, builtin] using h5
  | _ => simp only [cmpOp', ho] at hs; cases hs

end Go.Proofs.YtpjbjdicdjlmeaaGreatDoor.Eng

/- The engine, part F: blocks that nobody writes any more. No statement of the seat is proved here. -/
namespace Go.Proofs.YtpjbjdicdjlmeaaGreatDoor.Eng
open Go
set_option linter.unusedVariables false
set_option linter.unusedSimpArgs false

variable {P : Program} {B : Nat} {m : LMap} {H : Heap} {w : World}

/-! ### Closed cells hang on what nobody writes, and on nothing else -/
theorem closedCs_get : ∀ {cs : List Cell}, closedCs cs = true → ∀ {i : Nat} {c : Cell}, cs[i]? = some c → closedC c = true
  | [], _, i, c, h => by simp at h
  | x :: r, hp, i, c, h => by
    simp only [closedCs, Bool.and_eq_true] at hp
    cases i with
    | zero => simp at h; subst h; exact hp.1
    | succ i => exact closedCs_get hp.2 (by simpa using h)
theorem closedR_get : ∀ {cs : List (List Cell)}, closedR cs = true → ∀ {i : Nat} {c : List Cell}, cs[i]? = some c → closedCs c = true
  | [], _, i, c, h => by simp at h
  | x :: r, hp, i, c, h => by
    simp only [closedR, Bool.and_eq_true] at hp
    cases i with
    | zero => simp at h; subst h; exact hp.1
    | succ i => exact closedR_get hp.2 (by simpa using h)
theorem closedAs_get : ∀ {cs : List AVal}, closedAs cs = true → ∀ {i : Nat} {c : AVal}, cs[i]? = some c → closedA c = true
  | [], _, i, c, h => by simp at h
  | x :: r, hp, i, c, h => by
    simp only [closedAs, Bool.and_eq_true] at hp
    cases i with
    | zero => simp at h; subst h; exact hp.1
    | succ i => exact closedAs_get hp.2 (by simpa using h)

theorem VR.closed {m m' : LMap} {σ : Mem} (hz : ∀ g, m.z g → m'.z g) {c : Cell} {v : Value} (h : VR m σ c v) : closedC c = true → VR m' σ c v := by
  induction h with
  | int => intro _; exact .int _ _
  | bool => intro _; exact .bool _
  | str => intro _; exact .str _
  | nilI => intro _; exact .nilI
  | nilF => intro _; exact .nilF
  | nilS => intro _; exact .nilS
  | nilP => intro _; exact .nilP
  | ptr => intro hp; simp [closedC] at hp
  | slc => intro hp; simp [closedC] at hp
  | fn hl _ ih =>
    intro hp
    simp only [closedC] at hp
    exact .fn hl fun i c v hc hv => ih i c v hc hv (closedCs_get hp hc)
  | ifaceC _ ih =>
    intro hp
    simp only [closedC, closedCs, Bool.and_true] at hp
    exact .ifaceC (ih hp)
  | ifaceA hl _ ih =>
    intro hp
    simp only [closedC] at hp
    exact .ifaceA hl fun i c v hc hv => ih i c v hc hv (closedCs_get hp hc)
  | zerN => intro _; exact .zerN
  | zerS => intro _; exact .zerS
  | emp h => intro _; exact .emp h
  | lstN => intro _; exact .lstN
  | lst h1 h2 h3 h4 h5 _ ih =>
    intro hp
    simp only [closedC] at hp
    exact .lst h1 h2 (fun hr => ⟨(h3 hr).1, hz _ (h3 hr).2⟩) h4 h5 fun i r f x e1 e2 => ih i r f x e1 e2 (closedCs_get (closedR_get hp e1) e2)
  | fp h1 h2 _ ih =>
    intro hp
    simp only [closedC] at hp
    exact .fp (hz _ h1) h2 fun j x e => ih j x e (closedCs_get hp e)

theorem all2_closed {m m' : LMap} {σ : Mem} (hz : ∀ g, m.z g → m'.z g) : ∀ {cs : List Cell} {vs : List Value}, All2 (VR m σ) cs vs → closedCs cs = true → All2 (VR m' σ) cs vs
  | [], _, h, _ => by cases h; exact .nil
  | c :: cs, _, h, hp => by
    simp only [closedCs, Bool.and_eq_true] at hp
    cases h with
    | cons a b => exact .cons (a.closed hz hp.1) (all2_closed hz b hp.2)

theorem VRA.closed {m m' : LMap} {σ : Mem} (hz : ∀ g, m.z g → m'.z g) {x : AVal} {v : Value} (h : VRA m σ x v) : closedA x = true → VRA m' σ x v := by
  induction h with
  | c h => intro hp; exact .c (h.closed hz (by simpa [closedA] using hp))
  | agg h => intro hp; exact .agg (all2_closed hz h (by simpa [closedA] using hp))
  | tup hl _ ih =>
    intro hp
    simp only [closedA] at hp
    exact .tup hl fun i c v hc hv => ih i c v hc hv (closedAs_get hp hc)

theorem all2_closedA {m m' : LMap} {σ : Mem} (hz : ∀ g, m.z g → m'.z g) : ∀ {cs : List AVal} {vs : List Value}, All2 (VRA m σ) cs vs → closedAs cs = true → All2 (VRA m' σ) cs vs
  | [], _, h, _ => by cases h; exact .nil
  | c :: cs, _, h, hp => by
    simp only [closedAs, Bool.and_eq_true] at hp
    cases h with
    | cons a b => exact .cons (a.closed hz hp.1) (all2_closedA hz b hp.2)

/-! ### A block is frozen -/
def LMap.froze (m : LMap) (g : Nat) : LMap := ⟨m.f, fun x => m.z x ∨ x = g⟩
theorem LMap.le_froze (m : LMap) (g : Nat) : m.Le (m.froze g) := ⟨fun _ _ h => h, fun _ h => .inl h⟩

/-- The rows of a block, as a slice that nobody writes. -/
theorem BlkAt.lst {L : Loc} {k : Blk} (h : BlkAt B m w L k) (hl : k.live = true) {m' : LMap} (hm : m.Le m') (hz : m'.z L.g) {s n c : Nat} {A : Addr} (hs : s + n ≤ k.rows.length) (hc : n ≤ c) (hc2 : c ≤ maxLen) (ha : c ≠ 0 → A = ⟨L.g, L.o + s * L.sz, none⟩) :
    VR m' (cellsIn w) (.lst L.sz ((k.rows.drop s).take n)) (.slice (some A) n c) := by
  have hget : ∀ (i : Nat) r, ((k.rows.drop s).take n)[i]? = some r → k.rows[s + i]? = some r := fun i r e => by
    rw [List.getElem?_take] at e
    split at e
    · rw [List.getElem?_drop] at e; exact e
    · cases e
  refine VR.lst' (g := L.g) (o := L.o + s * L.sz) (vs := fun i f => (w.cell? ⟨L.g, L.o + s * L.sz + i * L.sz + f, none⟩).getD undef) (by simp; omega) hc hc2 (fun hr => ⟨ha ?_, hz⟩) (fun i r e => (h.rows hl _ r (hget i r e)).1) (fun i r f x e1 e2 => ?_) (fun i r f x e1 e2 => ?_)
  · intro h0; apply hr; simp; omega
  · obtain ⟨v, k1, _⟩ := (h.rows hl _ r (hget i r e1)).2 f x e2
    rw [Nat.add_mul, ← Nat.add_assoc] at k1
    rw [cellsIn_cell]
    simp [k1]
  · obtain ⟨v, k1, k2⟩ := (h.rows hl _ r (hget i r e1)).2 f x e2
    rw [Nat.add_mul, ← Nat.add_assoc] at k1
    simp only [k1, Option.getD_some]
    exact k2.mono (hm.mle _)

theorem BlkAt.fp {L : Loc} {k : Blk} (h : BlkAt B m w L k) (hl : k.live = true) {m' : LMap} (hm : m.Le m') (hz : m'.z L.g) {i f : Nat} {r : List Cell} (hr : k.rows[i]? = some r) :
    VR m' (cellsIn w) (.fp r f) (.pointer (some ⟨L.g, L.o + i * L.sz + f, none⟩)) := by
  refine VR.fp (g := L.g) (o := L.o + i * L.sz) (vs := fun j => (w.cell? ⟨L.g, L.o + i * L.sz + j, none⟩).getD undef) hz (fun j x e => ?_) (fun j x e => ?_)
  · obtain ⟨v, k1, _⟩ := (h.rows hl _ r hr).2 j x e
    rw [cellsIn_cell]
    simp [k1]
  · obtain ⟨v, k1, k2⟩ := (h.rows hl _ r hr).2 j x e
    simp only [k1, Option.getD_some]
    exact k2.mono (hm.mle _)

theorem frzs_get {b : Nat} {k : Blk} : ∀ {cs : List Cell} {i : Nat} {c : Cell}, (frzs b k cs)[i]? = some c → ∃ d, cs[i]? = some d ∧ c = d.frz b k
  | [], i, c, h => by simp [frzs] at h
  | x :: r, i, c, h => by
    cases i with
    | zero => simp [frzs] at h; exact ⟨x, rfl, h.symm⟩
    | succ i => simp [frzs] at h; simpa using frzs_get h
theorem frzs_length {b : Nat} {k : Blk} : ∀ {cs : List Cell}, (frzs b k cs).length = cs.length
  | [] => rfl
  | x :: r => by simp [frzs, frzs_length]
theorem frzAs_get {b : Nat} {k : Blk} : ∀ {cs : List AVal} {i : Nat} {c : AVal}, (frzAs b k cs)[i]? = some c → ∃ d, cs[i]? = some d ∧ c = d.frz b k
  | [], i, c, h => by simp [frzAs] at h
  | x :: r, i, c, h => by
    cases i with
    | zero => simp [frzAs] at h; exact ⟨x, rfl, h.symm⟩
    | succ i => simp [frzAs] at h; simpa using frzAs_get h
theorem frzAs_length {b : Nat} {k : Blk} : ∀ {cs : List AVal}, (frzAs b k cs).length = cs.length
  | [] => rfl
  | x :: r => by simp [frzAs, frzAs_length]

theorem VR.frz (r : Rel B m H w) {b : Nat} {L : Loc} {k : Blk} (hb : m b = some L) (hk : H[b]? = some k) (hl : k.live = true) {c : Cell} {v : Value} (h : VR m (cellsIn w) c v) : VR (m.froze L.g) (cellsIn w) (c.frz b k) v := by
  have hm := m.le_froze L.g
  obtain ⟨k', hk', hat⟩ := r.blk b L hb
  rw [hk] at hk'; injection hk' with hk'; subst hk'
  have hz : (m.froze L.g).z L.g := .inr rfl
  generalize hσ : cellsIn w = σ at h
  induction h with
  | int => exact .int _ _
  | bool => exact .bool _
  | str => exact .str _
  | nilI => exact .nilI
  | nilF => exact .nilF
  | nilS => exact .nilS
  | nilP => exact .nilP
  | @ptr b' i f L' e =>
    simp only [Cell.frz]
    have e0 : (m.froze L.g) b' = some L' := e
    split
    · rename_i hbb
      subst hbb
      have hL : L = L' := by have := hb.symm.trans e; injection this
      subst hL
      split
      · rename_i row hr
        rw [← hσ]
        exact hat.fp hl hm hz hr
      · exact .ptr e0
    · exact .ptr e0
  | @slc b' s n sz z A c h1 h2 h3 h4 =>
    simp only [Cell.frz]
    obtain ⟨L', e, ez, h5⟩ := h4
    split
    · rename_i hbb
      obtain ⟨hbb, hs⟩ := hbb
      subst hbb
      have hL : L = L' := by have := hb.symm.trans e; injection this
      subst hL
      subst ez
      rw [← hσ]
      split
      · rename_i hzz
        have hc := h2 hzz
        subst hc
        have hn : n = 0 := by omega
        subst hn
        exact .zerS
      · exact hat.lst hl hm hz hs h1 h3 (fun hc => (h5 hc).1)
    · exact .slc h1 h2 h3 ⟨L', e, ez, h5⟩
  | @fn f cs vs hlen _ ih =>
    simp only [Cell.frz]
    refine .fn (by rw [frzs_length]; exact hlen) fun i c v hc hv => ?_
    obtain ⟨d, hd, rfl⟩ := frzs_get hc
    exact ih i d v hd hv
  | ifaceC _ ih =>
    simp only [Cell.frz, frzs]
    exact .ifaceC ih
  | @ifaceA t cs vs hlen _ ih =>
    simp only [Cell.frz]
    refine .ifaceA (by rw [frzs_length]; exact hlen) fun i c v hc hv => ?_
    obtain ⟨d, hd, rfl⟩ := frzs_get hc
    exact ih i d v hd hv
  | zerN => exact .zerN
  | zerS => exact .zerS
  | emp h => exact .emp h
  | lstN => exact .lstN
  | lst h1 h2 h3 h4 h5 h6 _ => exact (VR.lst h1 h2 h3 h4 h5 h6).mono (hm.mle _)
  | fp h1 h2 h3 _ => exact (VR.fp h1 h2 h3).mono (hm.mle _)

theorem all2_frz (r : Rel B m H w) {b : Nat} {L : Loc} {k : Blk} (hb : m b = some L) (hk : H[b]? = some k) (hl : k.live = true) : ∀ {cs : List Cell} {vs : List Value}, All2 (VR m (cellsIn w)) cs vs → All2 (VR (m.froze L.g) (cellsIn w)) (frzs b k cs) vs
  | [], _, h => by cases h; exact .nil
  | c :: cs, _, h => by
    cases h with
    | cons x y => exact .cons (x.frz r hb hk hl) (all2_frz r hb hk hl y)

theorem VRA.frz (r : Rel B m H w) {b : Nat} {L : Loc} {k : Blk} (hb : m b = some L) (hk : H[b]? = some k) (hl : k.live = true) {c : AVal} {v : Value} (h : VRA m (cellsIn w) c v) : VRA (m.froze L.g) (cellsIn w) (c.frz b k) v := by
  generalize hσ : cellsIn w = σ at h
  induction h with
  | c h => subst hσ; exact .c (h.frz r hb hk hl)
  | agg h => subst hσ; exact .agg (all2_frz r hb hk hl h)
  | @tup xs vs hlen _ ih =>
    refine .tup (by rw [frzAs_length]; exact hlen) fun i c v hc hv => ?_
    obtain ⟨d, hd, rfl⟩ := frzAs_get hc
    exact ih i d v hd hv

/-- A block that lies nowhere: its values are frozen by nothing. -/
theorem VR.frz0 {σ : Mem} {b : Nat} {k : Blk} (hb : m b = none) {c : Cell} {v : Value} (h : VR m σ c v) : VR m σ (c.frz b k) v := by
  induction h with
  | int => exact .int _ _
  | bool => exact .bool _
  | str => exact .str _
  | nilI => exact .nilI
  | nilF => exact .nilF
  | nilS => exact .nilS
  | nilP => exact .nilP
  | @ptr b' i f L' e =>
    simp only [Cell.frz]
    rw [if_neg (by intro h; subst h; rw [hb] at e; cases e)]
    exact .ptr e
  | @slc b' s n sz z A c h1 h2 h3 h4 =>
    simp only [Cell.frz]
    obtain ⟨L', e, ez, h5⟩ := h4
    rw [if_neg (by rintro ⟨h, _⟩; subst h; rw [hb] at e; cases e)]
    exact .slc h1 h2 h3 ⟨L', e, ez, h5⟩
  | @fn f cs vs hlen _ ih =>
    simp only [Cell.frz]
    refine .fn (by rw [frzs_length]; exact hlen) fun i c v hc hv => ?_
    obtain ⟨d, hd, rfl⟩ := frzs_get hc
    exact ih i d v hd hv
  | ifaceC _ ih =>
    simp only [Cell.frz, frzs]
    exact .ifaceC ih
  | @ifaceA t cs vs hlen _ ih =>
    simp only [Cell.frz]
    refine .ifaceA (by rw [frzs_length]; exact hlen) fun i c v hc hv => ?_
    obtain ⟨d, hd, rfl⟩ := frzs_get hc
    exact ih i d v hd hv
  | zerN => exact .zerN
  | zerS => exact .zerS
  | emp h => exact .emp h
  | lstN => exact .lstN
  | lst h1 h2 h3 h4 h5 h6 _ => exact .lst h1 h2 h3 h4 h5 h6
  | fp h1 h2 h3 _ => exact .fp h1 h2 h3
theorem VRA.frz0 {σ : Mem} {b : Nat} {k : Blk} (hb : m b = none) {c : AVal} {v : Value} (h : VRA m σ c v) : VRA m σ (c.frz b k) v := by
  induction h with
  | c h => exact .c (h.frz0 hb)
  | agg h =>
    refine .agg ?_
    generalize hvs : Array.toList _ = l at h
    clear hvs
    induction h with
    | nil => exact .nil
    | cons x _ ih => exact .cons (x.frz0 hb) ih
  | @tup xs vs hlen _ ih =>
    refine .tup (by rw [frzAs_length]; exact hlen) fun i c v hc hv => ?_
    obtain ⟨d, hd, rfl⟩ := frzAs_get hc
    exact ih i d v hd hv

/-- A block is frozen: it is given up, its memory stays as it is from now on. -/
theorem St.freeze (r : Rel B m H w) {b : Nat} {L : Loc} {k : Blk} (hb : m b = some L) (hk : H[b]? = some k) (ho : k.own = true) (hl : k.live = true) : St B H m w (H.set b { k with live := false }) (m.froze L.g) w := by
  obtain ⟨k', hk', hat⟩ := r.blk b L hb
  rw [hk] at hk'; injection hk' with hk'; subst hk'
  have hoL : L.own = true := by rw [← hat.own]; exact ho
  have s := St.drop r hk
  have hm := m.le_froze L.g
  refine ⟨fun _ _ h => h, (fun _ _ h h' => by rw [show m _ = _ from h'] at h; cases h), ⟨r.base, fun b' L' h => ?_, fun g h => ?_, fun b' L' q h ho' e hl' hz => ?_, s.rel.inj, r.lib.up (hm.mle _)⟩, s.frame, (fun _ _ h h' => by rw [show m _ = _ from h'] at h; cases h), s.size, s.szs, s.os, s.tape, s.output, s.hle, fun _ h => .inl h, fun g h => ?_, s.drawn⟩
  · obtain ⟨q, eq, hq⟩ := s.rel.blk b' L' h
    exact ⟨q, eq, hq.carry (hm.mle _) (Nat.le_refl _) fun _ => rfl⟩
  · rcases h with h | rfl
    · exact r.zlt g h
    · exact hat.lt (.inl hoL)
  · rcases hz with hz | hz
    · exact s.rel.zown b' L' q h ho' e hl' hz
    · by_cases hbb : b = b'
      · subst hbb
        have hlt : b < H.length := (List.getElem?_eq_some_iff.1 hk).1
        simp [hlt] at e
        subst e
        cases hl'
      · rw [List.getElem?_set_ne hbb] at e
        exact hbb (r.inj b b' L L' k q hb h hoL ho' hk e hl hl' hz.symm)
  · rcases h with h | rfl
    · exact .inl h
    · exact .inr (.inr ⟨b, L, k, hb, hoL, rfl, hk, hl⟩)

theorem St.freeze0 (r : Rel B m H w) {b : Nat} {k : Blk} (hk : H[b]? = some k) : St B H m w (H.set b { k with live := false }) m w := St.drop r hk

theorem frzH_get {H : Heap} {b i : Nat} {k q : Blk} (h : (H.frzH b k)[i]? = some q) : ∃ q0, (H.set b { k with live := false })[i]? = some q0 ∧ q = { q0 with rows := q0.rows.map (frzs b k) } := by
  unfold Heap.frzH at h
  rw [List.getElem?_map] at h
  cases h0 : (H.set b { k with live := false })[i]? with
  | none => rw [h0] at h; cases h
  | some q0 => rw [h0] at h; exact ⟨q0, rfl, by injection h with h; exact h.symm⟩
theorem frzH_at {H : Heap} {b i : Nat} {k q0 : Blk} (h : (H.set b { k with live := false })[i]? = some q0) : (H.frzH b k)[i]? = some { q0 with rows := q0.rows.map (frzs b k) } := by
  unfold Heap.frzH
  rw [List.getElem?_map, h]
  rfl

theorem St.frzH_of (r : Rel B m H w) {b : Nat} {k : Blk} (hk : H[b]? = some k) {m1 : LMap} (s : St B H m w (H.set b { k with live := false }) m1 w)
    (hm1 : ∀ b L, m1 b = some L → m b = some L) (hv : ∀ {c : Cell} {v : Value}, VR m (cellsIn w) c v → VR m1 (cellsIn w) (c.frz b k) v) : St B H m w (H.frzH b k) m1 w := by
  refine { s with hle := ⟨by unfold Heap.frzH; rw [List.length_map]; exact s.hle.len, fun b' k' hb' e => by
      obtain ⟨q0, e0, rfl⟩ := frzH_get e
      exact s.hle.blk b' q0 hb' e0⟩, rel := ⟨s.rel.base, fun b' L' h => ?_, s.rel.zlt, fun b' L' q h ho' e hl' => ?_, fun b1 b2 L1 L2 k1 k2 h1 h2 o1 o2 e1 e2 l1 l2 => ?_, s.rel.lib⟩ }
  · obtain ⟨q, eq, hq⟩ := s.rel.blk b' L' h
    refine ⟨_, frzH_at eq, ⟨hq.sz, hq.own, hq.lt, hq.ours, hq.foreign, fun hl' i row hrow => ?_, hq.row⟩⟩
    have hl0 : q.live = true := hl'
    by_cases hbb : b = b'
    · subst hbb
      have hlt : b < H.length := (List.getElem?_eq_some_iff.1 hk).1
      simp [hlt] at eq
      subst eq
      cases hl0
    · obtain ⟨q2, eq2, hq2⟩ := r.blk b' L' (hm1 _ _ h)
      rw [List.getElem?_set_ne hbb, eq2] at eq
      injection eq with eq
      subst eq
      simp only [List.getElem?_map] at hrow
      cases h0 : q2.rows[i]? with
      | none => rw [h0] at hrow; cases hrow
      | some r0 =>
        rw [h0] at hrow
        injection hrow with hrow
        subst hrow
        obtain ⟨g1, g2⟩ := hq2.rows hl0 i r0 h0
        refine ⟨by rw [frzs_length]; exact g1, fun f c hc => ?_⟩
        obtain ⟨d, hd, rfl⟩ := frzs_get hc
        obtain ⟨v, e1, e2⟩ := g2 f d hd
        exact ⟨v, e1, hv e2⟩
  · obtain ⟨q0, e0, rfl⟩ := frzH_get e
    exact s.rel.zown b' L' q0 h ho' e0 hl'
  · obtain ⟨q1, e1', rfl⟩ := frzH_get e1
    obtain ⟨q2, e2', rfl⟩ := frzH_get e2
    exact s.rel.inj b1 b2 L1 L2 q1 q2 h1 h2 o1 o2 e1' e2' l1 l2
theorem St.freezeH (r : Rel B m H w) {b : Nat} {L : Loc} {k : Blk} (hb : m b = some L) (hk : H[b]? = some k) (ho : k.own = true) (hl : k.live = true) : St B H m w (H.frzH b k) (m.froze L.g) w :=
  St.frzH_of r hk (St.freeze r hb hk ho hl) (fun _ _ h => h) fun h => h.frz r hb hk hl
theorem St.freezeH0 (r : Rel B m H w) {b : Nat} {k : Blk} (hb : m b = none) (hk : H[b]? = some k) : St B H m w (H.frzH b k) m w :=
  St.frzH_of r hk (St.freeze0 r hk) (fun _ _ h => h) fun h => h.frz0 hb

/-! ### A block that an operation has just made, and that nobody writes -/
/-- The map without a block. -/
def LMap.without (m : LMap) (n : Nat) : LMap := ⟨fun x => if x = n then none else m x, m.z⟩

theorem St.shed {n : Nat} {k : Blk} {m' : LMap} {w' : World} (r : Rel B m H w) (hn : n = H.length) (s : St B H m w (H ++ [k]) m' w') : St B H m w H (m'.without n) w' := by
  subst hn
  have hmem : ∀ b L, (m'.without H.length) b = some L → m' b = some L ∧ b ≠ H.length := fun b L h => by
    simp only [LMap.without] at h
    split at h
    · cases h
    · rename_i hne; exact ⟨h, hne⟩
  have hlt : ∀ b L, (m'.without H.length) b = some L → b < H.length := fun b L h => by
    obtain ⟨h1, h2⟩ := hmem b L h
    have := s.rel.lt h1
    simp at this; omega
  have hget : ∀ b, b < H.length → (H ++ [k])[b]? = H[b]? := fun b h => List.getElem?_append_left h
  refine ⟨fun b L h => ?_, fun b L h h' => s.dom b L h (hmem b L h').1, ⟨s.rel.base, fun b L h => ?_, s.rel.zlt, fun b L q h ho e hl => ?_, fun b b' L L' q q' h h' ho ho' e e' hl hl' hg => ?_, s.rel.lib⟩, s.frame, fun b L h h' => s.fresh b L h (hmem b L h').1, s.size, s.szs, s.os, s.tape, s.output,
    HLe.refl _, s.zext, s.zfresh, s.drawn⟩
  · have := r.lt h
    simp only [LMap.without]
    rw [if_neg (by omega)]
    exact s.ext b L h
  · obtain ⟨q, eq, hq⟩ := s.rel.blk b L (hmem b L h).1
    rw [hget b (hlt b L h)] at eq
    refine ⟨q, eq, hq.sz, hq.own, hq.lt, hq.ours, hq.foreign, fun hl i row e => ?_, hq.row⟩
    -- the rows of what was there name nothing new
    obtain ⟨h1, h2⟩ := hq.rows hl i row e
    refine ⟨h1, fun f c ec => ?_⟩
    obtain ⟨v, e1, e2⟩ := h2 f c ec
    refine ⟨v, e1, ?_⟩
    cases hm : m b with
    | none => exact absurd (s.dom b L hm (hmem b L h).1) (by have := hlt b L h; omega)
    | some L0 =>
      have hL : L0 = L := by
        have := (s.ext b L0 hm).symm.trans (hmem b L h).1
        injection this
      subst hL
      obtain ⟨q0, eq0, hq0⟩ := r.blk b L0 hm
      rw [eq] at eq0; injection eq0 with eq0; subst eq0
      obtain ⟨_, h2'⟩ := hq0.rows hl i row e
      obtain ⟨v0, _, e20⟩ := h2' f c ec
      -- the cell names blocks of the old map alone
      have key : ∀ {c : Cell} {v v0 : Value} {σ σ0 : Mem}, VR m' σ c v → VR m σ0 c v0 → VR (m'.without H.length) σ c v := by
        intro c v v0 σ σ0 hv
        revert v0
        have old : ∀ b L, m b = some L → (m'.without H.length) b = m' b := fun b L h => by
          have := r.lt h
          simp only [LMap.without]
          rw [if_neg (by omega)]
        induction hv with
        | int => intro _ _; exact .int _ _
        | bool => intro _ _; exact .bool _
        | str => intro _ _; exact .str _
        | nilI => intro _ _; exact .nilI
        | nilF => intro _ _; exact .nilF
        | nilS => intro _ _; exact .nilS
        | nilP => intro _ _; exact .nilP
        | ptr e => intro _ h'; cases h' with | ptr e' => exact .ptr (by rw [old _ _ e']; exact e)
        | slc h1 h2 h3 h4 =>
          intro _ h'
          cases h' with
          | slc _ _ _ h4' =>
            obtain ⟨L, e, h5⟩ := h4
            obtain ⟨L', e', _⟩ := h4'
            exact .slc h1 h2 h3 ⟨L, by rw [old _ _ e']; exact e, h5⟩
        | fn hl _ ih =>
          intro _ h'
          cases h' with
          | @fn _ _ vs' hl' hk' =>
            refine .fn hl fun i c v hc hv => ?_
            have hi : i < _ := (List.getElem?_eq_some_iff.1 hc).1
            obtain ⟨v', hv'⟩ : ∃ v', vs'[i]? = some v' := ⟨vs'[i]'(by omega), by simp [show i < vs'.size by omega]⟩
            exact ih i c v hc hv (hk' i c v' hc hv')
        | ifaceC _ ih =>
          intro _ h'
          cases h' with
          | ifaceC h' => exact .ifaceC (ih h')
        | ifaceA hl _ ih =>
          intro _ h'
          cases h' with
          | @ifaceA _ _ vs' hl' hk' =>
            refine .ifaceA hl fun i c v hc hv => ?_
            have hi : i < _ := (List.getElem?_eq_some_iff.1 hc).1
            obtain ⟨v', hv'⟩ : ∃ v', vs'[i]? = some v' := ⟨vs'[i]'(by omega), by simp [show i < vs'.size by omega]⟩
            exact ih i c v hc hv (hk' i c v' hc hv')
        | zerN => intro _ _; exact .zerN
        | zerS => intro _ _; exact .zerS
        | emp h => intro _ _; exact .emp h
        | lstN => intro _ _; exact .lstN
        | lst h1 h2 h3 h4 h5 _ ih =>
          intro _ h'
          refine .lst h1 h2 h3 h4 h5 fun i r f x e1 e2 => ?_
          cases h' with
          | lstN => simp at e1
          | lst _ _ _ _ _ k6 => exact ih i r f x e1 e2 (k6 i r f x e1 e2)
        | fp h1 h2 _ ih =>
          intro _ h'
          cases h' with
          | fp _ _ k3 => exact .fp h1 h2 fun j x e => ih j x e (k3 j x e)
      exact key e2 e20
  · rw [← hget b (hlt b L h)] at e
    exact s.rel.zown b L q (hmem b L h).1 ho e hl
  · rw [← hget b (hlt b L h)] at e
    rw [← hget b' (hlt b' L' h')] at e'
    exact s.rel.inj b b' L L' q q' (hmem b L h).1 (hmem b' L' h').1 ho ho' e e' hl hl' hg

theorem weak_sound {σ : Mem} {c c' : Cell} {v : Value} (h : weakC c = some c') (hv : VR m σ c v) : VR m σ c' v := by
  cases hv <;> simp only [weakC] at h <;> try (cases h; done)
  case zerN => injection h with h; subst h; exact .lstN
  case zerS => injection h with h; subst h; exact VR.lst' (A := _) (g := 0) (o := 0) (vs := fun _ _ => undef) rfl (Nat.le_refl _) (Nat.zero_le _) (fun h => absurd rfl h) (fun i r e => by simp at e) (fun i r f x e => by simp at e) (fun i r f x e => by simp at e)
  case emp hc => injection h with h; subst h; exact VR.lst' (A := _) (g := 0) (o := 0) (vs := fun _ _ => undef) rfl (Nat.zero_le _) hc (fun h => absurd rfl h) (fun i r e => by simp at e) (fun i r f x e => by simp at e) (fun i r f x e => by simp at e)
  case slc b s n sz z A c h1 h2 h3 h4 =>
    cases n with
    | succ n => simp at h
    | zero =>
      simp at h; subst h
      exact VR.lst' (A := _) (g := 0) (o := 0) (vs := fun _ _ => undef) rfl h1 h3 (fun h => absurd rfl h) (fun i r e => by simp at e) (fun i r f x e => by simp at e) (fun i r f x e => by simp at e)

/-- What an operation made is frozen at once. -/
theorem frzE_sound (r : Rel B m H w) {E : List Blk} {v v' : AVal} {m1 : LMap} {w1 : World} {u : Value} (s : St B H m w (H ++ E) m1 w1) (hv : VRA m1 (cellsIn w1) v u) (h : frzE H.length E v = some v') :
    ∃ m2, St B H m w H m2 w1 ∧ VRA m2 (cellsIn w1) v' u := by
  unfold frzE at h
  split at h
  · rw [List.append_nil] at s
    split at h <;> try (cases h; done)
    rename_i c
    cases hc : weakC c with
    | none => rw [hc] at h; cases h
    | some c' =>
      rw [hc] at h
      simp at h
      subst h
      cases hv with
      | c hv => exact ⟨m1, s, .c (weak_sound hc hv)⟩
  · rename_i k
    split at h <;> try (cases h; done)
    rename_i hk
    have hlast : (H ++ [k])[H.length]? = some k := by simp
    simp only [Bool.and_eq_true] at hk
    injection h with h
    subst h
    cases hm : m1 H.length with
    | none => exact ⟨_, s.shed r rfl, (hv.frz0 hm).closed (m := m1) (m' := m1.without H.length) (fun _ h => h) hk.2⟩
    | some L =>
      have sf := St.freeze s.rel hm hlast hk.1.1 hk.1.2
      have hset : (H ++ [k]).set H.length { k with live := false } = H ++ [{ k with live := false }] := by simp
      rw [hset] at sf
      exact ⟨_, (s.trans r sf).shed r rfl, (hv.frz s.rel hm hlast hk.1.2).closed (m := m1.froze L.g) (m' := (m1.froze L.g).without H.length) (fun _ h => h) hk.2⟩
  · cases h

end Go.Proofs.YtpjbjdicdjlmeaaGreatDoor.Eng

/- The engine, part 11: one operation in its frame; a list of operations in the text's order. No statement of the seat is proved here. -/
namespace Go.Proofs.YtpjbjdicdjlmeaaGreatDoor.Eng
open Go
set_option linter.unusedVariables false
set_option linter.unusedSimpArgs false

variable {P : Program} {B : Nat} {m : LMap} {H : Heap} {w : World}

def EnvAll (m : LMap) (σ : Mem) (e : Env) (a : Act) : Prop := ∀ t, VRA m σ (e t) (a.tmps.getD t undef)
theorem EnvAll.on {σ : Mem} {e : Env} {a : Act} (h : EnvAll m σ e a) (ts : List Nat) : EnvOn m σ ts e a := fun t _ => h t
theorem EnvAll.mono {σ m' σ'} {e : Env} {a : Act} (h : EnvAll m σ e a) (hm : MLe m σ m' σ') : EnvAll m' σ' e a := fun t => (h t).mono hm

theorem put_tmps (a : Act) (d : Option Nat) (u : Value) : (a.put d u).defers = a.defers ∧ (a.put d u).tmps.size = a.tmps.size := by
  cases d <;> simp [Act.put]

theorem put_getD {a : Act} {N : Nat} (hN : N ≤ a.tmps.size) {d : Option Nat} (hd : dstOk N d = true) (u : Value) (t : Nat) : (a.put d u).tmps.getD t undef = if d = some t then u else a.tmps.getD t undef := by
  cases d with
  | none => simp [Act.put]
  | some d =>
    have hd' : d < a.tmps.size := by simp [dstOk] at hd; omega
    simp only [Act.put, Array.getD_eq_getD_getElem?, Array.getElem?_setIfInBounds, Option.some.injEq]
    by_cases h : d = t
    · subst h; simp [hd']
    · simp [h]

theorem EnvAll.put {σ : Mem} {e : Env} {a : Act} {N : Nat} (h : EnvAll m σ e a) (hN : N ≤ a.tmps.size) {d : Option Nat} (hd : dstOk N d = true) {v : AVal} {u : Value} (hv : VRA m σ v u) : EnvAll m σ (updO e d v) (a.put d u) := by
  intro t
  rw [put_getD hN hd]
  cases d with
  | none => simpa [updO] using h t
  | some d =>
    simp only [updO, upd, Option.some.injEq]
    by_cases hdt : d = t
    · subst hdt; simpa using hv
    · rw [if_neg hdt, if_neg (fun h => hdt h.symm)]; exact h t

/-- What a call of a function comes to, whatever memory the abstract heap stands for. -/
structure CallSound (P : Program) (f : Nat) (args : List AVal) (H : Heap) (v : AVal) (H' : Heap) : Prop where
  there : ∃ fn, P.funcs[f]? = some fn ∧ fn.body.isSome = true ∧ (fn.name == "runtime.NumGoroutine") = false
  calls : ∀ (B : Nat) (m : LMap) (w : World) (vs : Array Value), Rel B m H w → All2 (VRA m (cellsIn w)) args vs.toList →
    Calls P f vs w fun e w' => ∃ u m', e = .returned u ∧ St B H m w H' m' w' ∧ VRA m' (cellsIn w') v u

/-- What one operation does: by itself, or by a call. -/
inductive SOp (P : Program) (d : Bool) (x : AInstr) (e : Env) (H : Heap) (v : AVal) (H1 : Heap) : Prop where
  | ev : ev x.op e H = some (v, H1) → SOp P d x e H v H1
  | evF {v0 E} : ev x.op e H = some (v0, H ++ E) → frzE H.length E v0 = some v → H1 = H → SOp P d x e H v H1
  | call {fo args f caps} : x.op = .call fo args → Opd.ev e fo = .c (.fn f caps) → CallSound P f (args.map (Opd.ev e) ++ caps.map .c) H v H1 → (d = true → H <+: H1) → SOp P d x e H v H1

theorem all2_map {R : AVal → Value → Prop} {e : Env} : ∀ {ys : List Opd} {vs : List Value}, All2 (fun y v => R (y.ev e) v) ys vs → All2 R (ys.map (Opd.ev e)) vs
  | [], _, h => by cases h; exact .nil
  | y :: ys, _, h => by cases h with | cons a b => exact .cons a (all2_map b)

theorem all2_c {σ : Mem} : ∀ {cs : List Cell} {vs : List Value}, All2 (VR m σ) cs vs → All2 (VRA m σ) (cs.map .c) vs
  | [], _, h => by cases h; exact .nil
  | c :: cs, _, h => by cases h with | cons a b => exact .cons (.c a) (all2_c b)

theorem cmpInstr_ok {N : Nat} {ops : Array Oper} {o : Oper} {x : AInstr} (hx : cmpInstr P N ops o = x) (hb : x.op ≠ .bad) : dstOk N o.dst = true ∧ x.dst = o.dst ∧ x.op = upOp ops (cmpOp P o) ∧ cmpGuard ops o.guard = some x.guard := by
  subst hx
  cases hg : cmpGuard ops o.guard with
  | none => exact absurd (by simp [cmpInstr, hg]) hb
  | some g =>
    by_cases hd : dstOk N o.dst = true
    · have : cmpInstr P N ops o = { dst := o.dst, op := upOp ops (cmpOp P o), guard := g } := by simp [cmpInstr, hg, hd]
      rw [this]
      exact ⟨hd, rfl, rfl, rfl⟩
    · exact absurd (by simp [cmpInstr, hg, hd]) hb

theorem cmpInstr_dst {N : Nat} {ops : Array Oper} {o : Oper} : (cmpInstr P N ops o).dst = o.dst := by
  unfold cmpInstr
  split
  · split <;> rfl
  · rfl

theorem SOp.notBad {d : Bool} {x : AInstr} {e : Env} {H1 : Heap} {v : AVal} (h : SOp P d x e H v H1) : x.op ≠ .bad := by
  cases h with
  | ev h => intro hb; rw [hb] at h; simp [Eng.ev] at h
  | evF h => intro hb; rw [hb] at h; simp [Eng.ev] at h
  | call h => intro hb; rw [hb] at h; cases h

/-- A guard is met in the machine just if it is met here. -/
theorem guard_sound {σ : Mem} {ops : Array Oper} {o : Oper} {g : Option (Nat × Bool)} (hg : cmpGuard ops o.guard = some g) {e : Env} {a : Act} (he : ∀ t b, g = some (t, b) → VRA m σ (e t) (a.tmps.getD t undef)) :
    Region.wanted o (yielded ops a.tmps) = goes g e := by
  unfold cmpGuard at hg
  split at hg
  · rename_i hn
    injection hg with hg; subst hg
    simp [Region.wanted, hn, goes]
  · rename_i j b hj
    split at hg
    · rename_i t ht
      injection hg with hg; subst hg
      have hv := he t b rfl
      simp only [Region.wanted, hj, goes]
      have hy : yielded ops a.tmps j = match a.tmps.getD t undef with | .bool b => some b | _ => none := by
        simp only [yielded, ht, Option.bind_some, Array.getD_eq_getD_getElem?]
        cases a.tmps[t]? with
        | none => rfl
        | some q => cases q <;> rfl
      rw [hy]
      generalize a.tmps.getD t undef = q at hv
      generalize e t = et at hv
      cases hv with
      | c hv => cases hv <;> simp
      | agg => simp
      | tup => simp
    · cases hg

/-- One operation that goes. -/
theorem step_go (r : Rel B m H w) {N : Nat} {ops : Array Oper} {o : Oper} {d : Bool} {e : Env} {v : AVal} {H1 : Heap} {a : Act} (hs : SOp P d (cmpInstr P N ops o) e H v H1) (he : EnvOn m (cellsIn w) (cmpInstr P N ops o).reads e a)
    (hg : goes (cmpInstr P N ops o).guard e = true) {K : Act → World → Prop} {Q : Exit → Act → World → Prop} (hK : ∀ m' w' u, St B H m w H1 m' w' → VRA m' (cellsIn w') v u → K (a.put o.dst u) w') :
    Region.wanted o (yielded ops a.tmps) = true ∧ o.wp P a w K Q := by
  obtain ⟨hd, h1, h2, h3⟩ := cmpInstr_ok rfl hs.notBad
  have hguard := guard_sound (m := m) (σ := cellsIn w) h3 (e := e) (a := a) (fun t b ht => he t (by simp [AInstr.reads, ht]))
  refine ⟨by rw [hguard]; exact hg, ?_⟩
  have he' : EnvOn m (cellsIn w) (cmpOp P o).reads e a := by
    rw [← upOp_reads ops, ← h2]
    intro t ht
    exact he t (by simp [AInstr.reads, ht])
  unfold Oper.wp
  cases hs with
  | ev hev =>
    rw [h2] at hev
    replace hev := ev_up hev
    obtain ⟨n, u, w', m', k1, k2, k3, k4⟩ := ev_sound (P := P) r hev he'
    rw [k1]
    rcases k2 with rfl | ⟨rfl, rfl⟩
    · exact hK m' w' u k3 k4
    · exact hK m' w' undef k3 k4
  | evF hev hf hH =>
    subst hH
    rw [h2] at hev
    replace hev := ev_up hev
    obtain ⟨n, u, w', m', k1, k2, k3, k4⟩ := ev_sound (P := P) r hev he'
    obtain ⟨m2, k5, k6⟩ := frzE_sound r k3 k4 hf
    rw [k1]
    rcases k2 with rfl | ⟨rfl, rfl⟩
    · exact hK m2 w' u k5 k6
    · exact hK m2 w' undef k5 k6
  | call hop hfo hcs hpre =>
    rename_i fo args f caps
    rw [h2] at hop
    replace hop := upOp_call hop
    -- the machine's own call
    obtain ⟨s, hs', hcs'⟩ : ∃ s, cmpOp' P o = some s ∧ cmpOp P o = s := by
      cases hq : cmpOp' P o with
      | none => simp [cmpOp, hq] at hop
      | some s => exact ⟨s, rfl, by simp [cmpOp, hq]⟩
    rw [hcs'] at hop
    subst hop
    have hcall : ∃ c g, o.op = .call c ∧ c.callee = .value g ∧ cmpOpd g = some fo ∧ cmpOpds c.args.toList = some args := by
      cases ho : o.op <;> simp only [cmpOp', ho] at hs' <;> try (cases hs'; done)
      case call c =>
        refine ⟨c, ?_⟩
        unfold cmpCall at hs'
        cases hcal : c.callee with
        | value g =>
          simp only [hcal] at hs'
          split at hs' <;> try (cases hs'; done)
          rename_i f' xs hf' hxs
          injection hs' with hs'
          injection hs' with e1 e2
          subst e1; subst e2
          exact ⟨g, rfl, rfl, hf', hxs⟩
        | invoke _ _ => simp only [hcal] at hs'; cases hs'
        | builtin b =>
          simp only [hcal] at hs'
          cases b <;> simp only [] at hs' <;> try (cases hs'; done)
          all_goals
            exfalso
            repeat' (first
              | contradiction
              | (cases hs'; done)
              | (injection hs' with hs'; cases hs'; done)
              | split at hs')
      case binOp op t x y yt =>
        exfalso
        unfold cmpBin at hs'
        repeat' (first
              | contradiction
              | (cases hs'; done)
              | (injection hs' with hs'; cases hs'; done)
              | split at hs')
      all_goals
        exfalso
        repeat' (first
              | contradiction
              | (cases hs'; done)
              | (injection hs' with hs'; cases hs'; done)
              | split at hs')
    obtain ⟨c, g, ho, hcal, hg', hargs⟩ := hcall
    rw [hcs'] at he'
    simp only [AOp.reads] at he'
    have vf := opd_c hg' he'.left hfo
    have hall := opds_sound hargs he'.right
    generalize hgf : a.eval g = gv at vf
    cases vf with
    | fn hl hk =>
      rename_i vs
      have hcaps : All2 (VR m (cellsIn w)) caps vs.toList := All2.of_get (by simpa using hl) (fun i x y hx hy => hk i x y hx (by simpa using hy))
      obtain ⟨fn, hfn, hbody, hname⟩ := hcs.there
      have hbody' : fn.body.isNone = false := by cases h : fn.body <;> simp_all
      have hrun : (execOp a.eval o).run P w = .ok (.enter f (c.args.map a.eval ++ vs)) w := by
        obtain ⟨callee, cargs, argTypes⟩ := c
        simp only at hcal
        subst hcal
        have hname' : ¬ fn.name = "runtime.NumGoroutine" := by simpa using hname
        have hbody2 : ¬ fn.body = none := by intro h; rw [h] at hbody'; simp at hbody'
        unfold execOp
        simp only [ho]
        simp [resolve, Deferred.ofValue, hgf, invoke, callFunc, hfn, hname', hbody2]
      rw [hrun]
      simp only [Oper.upon]
      have hvs : All2 (VRA m (cellsIn w)) (args.map (Opd.ev e) ++ caps.map .c) (c.args.map a.eval ++ vs).toList := by
        simp only [Array.toList_append, Array.toList_map]
        exact (all2_map hall).append (all2_c hcaps)
      refine (hcs.calls B m w _ r hvs).mono ?_
      rintro e' w' ⟨u, m', rfl, k1, k2⟩
      exact hK m' w' u k1 k2

theorem wpOps_at {ops : Array Oper} {Q : Exit → Act → World → Prop} {i : Nat} {rest : List Nat} {a : Act} {w : World} {o : Oper} (ho : ops[i]? = some o) (h : (Region.wanted o (yielded ops a.tmps) = true ∧ o.wp P a w (wpOps P ops Q rest) Q) ∨ (Region.wanted o (yielded ops a.tmps) = false ∧ wpOps P ops Q rest (a.put o.dst undef) w)) :
    wpOps P ops Q (i :: rest) a w := by
  simp only [wpOps, ho]
  rcases h with ⟨h1, h2⟩ | ⟨h1, h2⟩
  · rw [if_pos h1]; exact .inl h2
  · rw [h1]; simpa using h2

/-- A list of operations that is gone through. -/
inductive Trace (P : Program) (d : Bool) : List AInstr → Env → Heap → Env → Heap → Prop where
  | nil {e H} : Trace P d [] e H e H
  | go {x l e H v H1 e' H'} : goes x.guard e = true → SOp P d x e H v H1 → Trace P d l (updO e x.dst v) H1 e' H' → Trace P d (x :: l) e H e' H'
  | off {x l e H e' H'} : x.op ≠ .bad → goes x.guard e = false → Trace P d l (updO e x.dst undefA) H e' H' → Trace P d (x :: l) e H e' H'

theorem range_cons {i n : Nat} (h : i < n) : List.range' i (n - i) = i :: List.range' (i + 1) (n - (i + 1)) := by
  rw [show n - i = (n - (i + 1)) + 1 by omega]
  rfl

/-- In the text's order. -/
theorem trace_text {N : Nat} {ops : Array Oper} {d : Bool} {l : List AInstr} {e e' : Env} {H H' : Heap} (ht : Trace P d l e H e' H') :
    ∀ (i : Nat), l = (ops.toList.drop i).map (cmpInstr P N ops) → ∀ (B : Nat) (m : LMap) (w : World) (a : Act) (Q : Exit → Act → World → Prop), Rel B m H w → EnvAll m (cellsIn w) e a → N ≤ a.tmps.size →
      (∀ m' w' a', St B H m w H' m' w' → EnvAll m' (cellsIn w') e' a' → a'.defers = a.defers → a'.tmps.size = a.tmps.size → Q .normal a' w') → wpOps P ops Q (List.range' i (ops.size - i)) a w := by
  induction ht with
  | nil =>
    intro i hl B m w a Q r he hN hQ
    have hi : ops.size ≤ i := by
      cases hd : ops.toList.drop i with
      | nil => simpa using hd
      | cons x xs => rw [hd] at hl; simp at hl
    rw [show ops.size - i = 0 by omega]
    exact hQ m w a (St.refl r) he rfl rfl
  | @go x l e H v H1 e' H' hg hs _ ih =>
    intro i hl B m w a Q r he hN hQ
    cases hd : ops.toList.drop i with
    | nil => rw [hd] at hl; simp at hl
    | cons o os =>
      have hi : i < ops.size := by
        have : (ops.toList.drop i).length ≠ 0 := by rw [hd]; simp
        simp at this; omega
      rw [hd] at hl
      simp only [List.map_cons, List.cons.injEq] at hl
      obtain ⟨hx, hl⟩ := hl
      have ho : ops[i]? = some o := by
        have : ops.toList[i]? = some o := by rw [List.getElem?_eq_getElem (by simpa using hi)]; rw [List.drop_eq_getElem_cons (by simpa using hi)] at hd; injection hd with hd1 hd2; rw [hd1]
        simpa using this
      have hos : os = ops.toList.drop (i + 1) := by
        rw [List.drop_eq_getElem_cons (by simpa using hi)] at hd; injection hd with hd1 hd2; exact hd2.symm
      subst hx
      have hdst := (cmpInstr_ok rfl hs.notBad).1
      rw [range_cons hi]
      refine wpOps_at ho (.inl (step_go r hs (he.on _) hg fun m' w' u hst hv => ?_))
      have he2 : EnvAll m' (cellsIn w') (updO e (cmpInstr P N ops o).dst v) (a.put o.dst u) := by
        rw [cmpInstr_dst]
        exact (he.mono (hst.mle r)).put hN hdst hv
      have hp := put_tmps a o.dst u
      exact ih (i + 1) (by rw [hl, hos]) B m' w' _ Q hst.rel he2 (by rw [hp.2]; exact hN) fun m2 w2 a2 s2 e2 d2 z2 => hQ m2 w2 a2 (hst.trans r s2) e2 (by rw [d2, hp.1]) (by rw [z2, hp.2])
  | @off x l e H e' H' hnb hg _ ih =>
    intro i hl B m w a Q r he hN hQ
    cases hd : ops.toList.drop i with
    | nil => rw [hd] at hl; simp at hl
    | cons o os =>
      have hi : i < ops.size := by
        have : (ops.toList.drop i).length ≠ 0 := by rw [hd]; simp
        simp at this; omega
      rw [hd] at hl
      simp only [List.map_cons, List.cons.injEq] at hl
      obtain ⟨hx, hl⟩ := hl
      have ho : ops[i]? = some o := by
        have : ops.toList[i]? = some o := by rw [List.getElem?_eq_getElem (by simpa using hi)]; rw [List.drop_eq_getElem_cons (by simpa using hi)] at hd; injection hd with hd1 hd2; rw [hd1]
        simpa using this
      have hos : os = ops.toList.drop (i + 1) := by
        rw [List.drop_eq_getElem_cons (by simpa using hi)] at hd; injection hd with hd1 hd2; exact hd2.symm
      subst hx
      obtain ⟨hdst, _, _, hgd⟩ := cmpInstr_ok (P := P) (N := N) (ops := ops) (o := o) rfl hnb
      have hguard := guard_sound (m := m) (σ := cellsIn w) hgd (e := e) (a := a) (fun t b ht => he t)
      rw [range_cons hi]
      refine wpOps_at ho (.inr ⟨by rw [hguard]; exact hg, ?_⟩)
      have he2 : EnvAll m (cellsIn w) (updO e (cmpInstr P N ops o).dst undefA) (a.put o.dst undef) := by
        rw [cmpInstr_dst]
        exact he.put hN hdst VRA.undef
      have hp := put_tmps a o.dst undef
      exact ih (i + 1) (by rw [hl, hos]) B m w _ Q r he2 (by rw [hp.2]; exact hN) fun m2 w2 a2 s2 e2 d2 z2 => hQ m2 w2 a2 s2 e2 (by rw [d2, hp.1]) (by rw [z2, hp.2])

end Go.Proofs.YtpjbjdicdjlmeaaGreatDoor.Eng

/- The engine, part 12: what is needed where operations go in any order: a heap seen from an earlier place. No statement of the seat is proved here. -/
namespace Go.Proofs.YtpjbjdicdjlmeaaGreatDoor.Eng
open Go
set_option linter.unusedVariables false
set_option linter.unusedSimpArgs false

variable {P : Program} {B : Nat} {m : LMap} {H : Heap} {w : World}

theorem prefix_get {H H' : Heap} (h : H <+: H') {b : Nat} (hb : b < H.length) : H'[b]? = H[b]? := by
  obtain ⟨E, rfl⟩ := h
  exact List.getElem?_append_left hb

/-- Blocks that nobody speaks of change nothing. -/
theorem Rel.more (r : Rel B m H w) {H' : Heap} (h : H <+: H') : Rel B m H' w := by
  refine ⟨r.base, fun b L hb => ?_, r.zlt, fun b L k hb ho e => ?_, fun b b' L L' k k' hb hb' ho ho' e e' => ?_, r.lib⟩
  · obtain ⟨k, e, hk⟩ := r.blk b L hb
    exact ⟨k, by rw [prefix_get h (r.lt hb)]; exact e, hk⟩
  · rw [prefix_get h (r.lt hb)] at e
    exact r.zown b L k hb ho e
  · rw [prefix_get h (r.lt hb)] at e
    rw [prefix_get h (r.lt hb')] at e'
    exact r.inj b b' L L' k k' hb hb' ho ho' e e'

theorem St.more {H' H'' : Heap} {m' w'} (s : St B H m w H' m' w') (h : H' <+: H'') : St B H m w H'' m' w' :=
  ⟨s.ext, s.dom, s.rel.more h, s.frame, s.fresh, s.size, s.szs, s.os, s.tape, s.output, s.hle.trans (HLe.of_prefix h), s.zext, s.zfresh, s.drawn⟩

/-- The blocks that another map knows too. -/
def LMap.cut (m mi : LMap) : LMap := ⟨fun b => if (mi b).isSome then m b else none, m.z⟩

theorem LMap.cut_some {m mi : LMap} {b : Nat} {L : Loc} : m.cut mi b = some L ↔ (m b = some L ∧ ∃ L', mi b = some L') := by
  unfold LMap.cut
  cases h : mi b <;> simp [h]

theorem VR.inter {mi : LMap} {σ σi : Mem} {c : Cell} {v : Value} (h : VR m σ c v) : ∀ {v' : Value}, VR mi σi c v' → VR (m.cut mi) σ c v := by
  induction h with
  | int => intro _ _; exact .int _ _
  | bool => intro _ _; exact .bool _
  | str => intro _ _; exact .str _
  | nilI => intro _ _; exact .nilI
  | nilF => intro _ _; exact .nilF
  | nilS => intro _ _; exact .nilS
  | nilP => intro _ _; exact .nilP
  | ptr e =>
    intro _ h'
    cases h' with
    | ptr e' => exact .ptr (LMap.cut_some.2 ⟨e, _, e'⟩)
  | slc h1 h2 h3 h4 =>
    intro _ h'
    cases h' with
    | slc _ _ _ h4' =>
      obtain ⟨L, e, h5⟩ := h4
      obtain ⟨L', e', _⟩ := h4'
      exact .slc h1 h2 h3 ⟨L, LMap.cut_some.2 ⟨e, _, e'⟩, h5⟩
  | fn hl _ ih =>
    intro _ h'
    cases h' with
    | @fn _ _ vs' hl' hk' =>
      refine .fn hl fun i c v hc hv => ?_
      have hi : i < _ := (List.getElem?_eq_some_iff.1 hc).1
      obtain ⟨v', hv'⟩ : ∃ v', vs'[i]? = some v' := ⟨vs'[i]'(by omega), by simp [show i < vs'.size by omega]⟩
      exact ih i c v hc hv (hk' i c v' hc hv')
  | ifaceC _ ih =>
    intro _ h'
    cases h' with
    | ifaceC h' => exact .ifaceC (ih h')
  | ifaceA hl _ ih =>
    intro _ h'
    cases h' with
    | @ifaceA _ _ vs' hl' hk' =>
      refine .ifaceA hl fun i c v hc hv => ?_
      have hi : i < _ := (List.getElem?_eq_some_iff.1 hc).1
      obtain ⟨v', hv'⟩ : ∃ v', vs'[i]? = some v' := ⟨vs'[i]'(by omega), by simp [show i < vs'.size by omega]⟩
      exact ih i c v hc hv (hk' i c v' hc hv')
  | zerN => intro _ _; exact .zerN
  | zerS => intro _ _; exact .zerS
  | emp h => intro _ _; exact .emp h
  | lstN => intro _ _; exact .lstN
  | lst h1 h2 h3 h4 h5 _ ih =>
    intro _ h'
    refine .lst h1 h2 h3 h4 h5 fun i r f x e1 e2 => ?_
    cases h' with
    | lstN => simp at e1
    | lst _ _ _ _ _ k6 => exact ih i r f x e1 e2 (k6 i r f x e1 e2)
  | fp h1 h2 _ ih =>
    intro _ h'
    cases h' with
    | fp _ _ k3 => exact .fp h1 h2 fun j x e => ih j x e (k3 j x e)

theorem all2_inter {mi : LMap} {σ σi : Mem} : ∀ {cs : List Cell} {vs vs' : List Value}, All2 (VR m σ) cs vs → All2 (VR mi σi) cs vs' → All2 (VR (m.cut mi) σ) cs vs
  | [], _, _, h, _ => by cases h; exact .nil
  | c :: cs, _, _, h, h' => by
    cases h with
    | cons a b => cases h' with
      | cons a' b' => exact .cons (a.inter a') (all2_inter b b')

theorem VRA.inter {mi : LMap} {σ σi : Mem} {x : AVal} {v : Value} (h : VRA m σ x v) : ∀ {v' : Value}, VRA mi σi x v' → VRA (m.cut mi) σ x v := by
  induction h with
  | c h =>
    intro _ h'
    cases h' with
    | c h' => exact .c (h.inter h')
  | agg h =>
    intro _ h'
    cases h' with
    | agg h' => exact .agg (all2_inter h h')
  | tup hl _ ih =>
    intro _ h'
    cases h' with
    | @tup _ vs' hl' hk' =>
      refine .tup hl fun i c v hc hv => ?_
      have hi : i < _ := (List.getElem?_eq_some_iff.1 hc).1
      obtain ⟨v', hv'⟩ : ∃ v', vs'[i]? = some v' := ⟨vs'[i]'(by omega), by simp [show i < vs'.size by omega]⟩
      exact ih i c v hc hv (hk' i c v' hc hv')

theorem VR.up {m' : LMap} {σ : Mem} {c : Cell} {v : Value} (h : VR m σ c v) (hm : m.Le m') : VR m' σ c v := h.mono (hm.mle σ)
theorem VRA.up {m' : LMap} {σ : Mem} {c : AVal} {v : Value} (h : VRA m σ c v) (hm : m.Le m') : VRA m' σ c v := h.mono (hm.mle σ)

theorem BlkAt.up {m' : LMap} {L : Loc} {k : Blk} (h : BlkAt B m w L k) (hm : m.Le m') : BlkAt B m' w L k :=
  h.carry (hm.mle _) (Nat.le_refl _) fun _ => rfl

/-- An earlier heap, as far as it was known there. -/
theorem Rel.cut {Hi : Heap} {mi : LMap} {wi : World} (r : Rel B m H w) (ri : Rel B mi Hi wi) (h : Hi <+: H) : Rel B (m.cut mi) Hi w := by
  refine ⟨r.base, fun b L hb => ?_, r.zlt, fun b L k hb ho e => ?_, fun b b' L L' k k' hb hb' ho ho' e e' => ?_, r.lib⟩
  rotate_left
  · obtain ⟨hb, L', hb'⟩ := LMap.cut_some.1 hb
    exact r.zown b L k hb ho (by rw [prefix_get h (ri.lt hb')]; exact e)
  rotate_left
  · obtain ⟨hb, L', hb'⟩ := LMap.cut_some.1 hb
    obtain ⟨k, e, hk⟩ := r.blk b L hb
    rw [prefix_get h (ri.lt hb')] at e
    obtain ⟨k', e', hk'⟩ := ri.blk b L' hb'
    rw [e] at e'; injection e' with e'; subst e'
    refine ⟨k, e, ⟨hk.sz, hk.own, hk.lt, hk.ours, hk.foreign, fun hl i q eq => ?_, hk.row⟩⟩
    obtain ⟨h1, h2⟩ := hk.rows hl i q eq
    obtain ⟨_, h2'⟩ := hk'.rows hl i q eq
    refine ⟨h1, fun f c ef => ?_⟩
    obtain ⟨v, e1, e2⟩ := h2 f c ef
    obtain ⟨v', e1', e2'⟩ := h2' f c ef
    exact ⟨v, e1, e2.inter e2'⟩
  · obtain ⟨hb, _, hc⟩ := LMap.cut_some.1 hb
    obtain ⟨hb', _, hc'⟩ := LMap.cut_some.1 hb'
    exact r.inj b b' L L' k k' hb hb' ho ho' (by rw [prefix_get h (ri.lt hc)]; exact e) (by rw [prefix_get h (ri.lt hc')]; exact e')

def LMap.join (m m' : LMap) : LMap := ⟨fun b => match m b with | some L => some L | none => m' b, fun g => m.z g ∨ m'.z g⟩
theorem LMap.join_left {m m' : LMap} {b : Nat} {L : Loc} (h : m b = some L) : m.join m' b = some L := by simp [LMap.join, h]
theorem LMap.join_none {m m' : LMap} {b : Nat} (h : m b = none) : m.join m' b = m' b := by simp [LMap.join, h]

/-- What was done as seen from an earlier heap 'Hi' holds as seen from the later 'Hq'. -/
theorem St.merge {H0 Hi Hi1 Hq : Heap} {m0 mi m m' : LMap} {w0 w w' : World} (r0 : Rel B m0 H0 w0) (s : St B H0 m0 w0 Hq m w) (hle : H0.length ≤ Hi.length) (hcut : ∀ b L, mi b = some L → m b = some L) (hcz : ∀ g, m.z g → mi.z g) (hzc : ∀ g, mi.z g → m.z g)
    (ri : Rel B mi Hi w) (t : St B Hi mi w Hi1 m' w') (h01 : Hi <+: Hi1) (h1q : Hi1 <+: Hq) (hdis : ∀ b L, m b = some L → Hi.length ≤ b → b < Hi1.length → False) :
    St B H0 m0 w0 Hq (m.join m') w' ∧ m'.Le (m.join m') ∧ MLe m (cellsIn w) (m.join m') (cellsIn w') := by
  have hiq : Hi <+: Hq := h01.trans h1q
  have hnew : ∀ b L, mi b = none → m' b = some L → m b = none := fun b L h h' => by
    cases hm : m b with
    | none => rfl
    | some L' => exact (hdis b L' hm (t.dom b L h h') (t.rel.lt h')).elim
  have hup : ∀ b L, m' b = some L → m.join m' b = some L := fun b L h => by
    cases hi : mi b with
    | some L' =>
      have := t.ext b L' hi
      rw [h] at this; injection this with this; subst this
      exact LMap.join_left (hcut b L hi)
    | none => rw [LMap.join_none (hnew b L hi h)]; exact h
  have hext : ∀ b L, m b = some L → m.join m' b = some L := fun b L h => LMap.join_left h
  have himg : ∀ g, ownImg mi Hi g → ownImg m Hq g := by
    rintro g ⟨b, L, k, e, ho, hg, ek, hl⟩
    exact ⟨b, L, k, hcut b L e, ho, hg, by rw [prefix_get hiq (ri.lt e)]; exact ek, hl⟩
  have hmle : MLe m (cellsIn w) (m.join m') (cellsIn w') := ⟨hext, fun b L h o => by obtain ⟨_, _, hk⟩ := s.rel.blk b L h; exact t.szs _ (hk.lt (.inl o)), fun g h => .inl h, fun g o h => (t.mle ri).cell g o (hcz g h)⟩
  have hupL : m'.Le (m.join m') := ⟨hup, fun g h => .inr h⟩
  have hfar : ∀ b L k, m b = some L → mi b = none → Hq[b]? = some k → k.live = true → BlkAt B m w L k → ¬ ownImg mi Hi L.g := by
    rintro b L k hb hn ek hl hk ⟨b', L', k', e, ho, hg, ek', hl'⟩
    have e2 : Hq[b']? = some k' := by rw [prefix_get hiq (ri.lt e)]; exact ek'
    obtain ⟨k2, e2', hk2⟩ := s.rel.blk b' L' (hcut b' L' e)
    cases hoL : L.own with
    | true =>
      have := s.rel.inj b b' L L' k k' hb (hcut _ _ e) hoL ho ek e2 hl hl' hg.symm
      subst this
      rw [hn] at e; cases e
    | false =>
      have h1 := hk.foreign hoL hl
      have h2 := (hk2.ours ho).1
      omega
  refine ⟨⟨fun b L h => hext b L (s.ext b L h), fun b L h h' => ?_, ⟨Nat.le_trans s.rel.base t.size, fun b L h => ?_, fun g h => h.elim (fun h => Nat.lt_of_lt_of_le (s.rel.zlt g h) t.size) (t.rel.zlt g), ?_, ?_, t.rel.lib.up (hupL.mle _)⟩, fun g hg hn => ?_, fun b L h h' => ?_, Nat.le_trans s.size t.size, fun g hg => (t.szs g (Nat.lt_of_lt_of_le hg s.size)).trans (s.szs g hg), t.os.trans s.os, t.tape.trans s.tape, t.output.trans s.output, s.hle, fun g h => .inl (s.zext g h), fun g h => ?_, s.drawn.trans t.drawn⟩, hupL, hmle⟩
  · cases hm : m b with
    | some L' => exact s.dom b L' h hm
    | none =>
      rw [LMap.join_none hm] at h'
      cases hi : mi b with
      | some L' => rw [hcut b L' hi] at hm; cases hm
      | none => exact Nat.le_trans hle (t.dom b L hi h')
  · cases hm : m b with
    | some L' =>
      rw [LMap.join_left hm] at h; injection h with h; subst h
      obtain ⟨k, ek, hk⟩ := s.rel.blk b L' hm
      refine ⟨k, ek, ?_⟩
      cases hi : mi b with
      | some L2 =>
        have := hcut b L2 hi
        rw [hm] at this; injection this with this; subst this
        obtain ⟨k', ek', hk'⟩ := t.rel.blk b L' (t.ext b L' hi)
        have : Hq[b]? = some k' := by rw [prefix_get h1q (t.rel.lt (t.ext b L' hi))]; exact ek'
        rw [ek] at this; injection this with this; subst this
        exact hk'.up hupL
      | none => exact hk.carry hmle t.size fun hl => t.frame _ (hk.lt (.inr hl)) (hfar b L' k hm hi ek hl hk)
    | none =>
      rw [LMap.join_none hm] at h
      obtain ⟨k', ek', hk'⟩ := t.rel.blk b L h
      exact ⟨k', by rw [prefix_get h1q (t.rel.lt h)]; exact ek', hk'.up hupL⟩
  · intro b L k h ho e hl hz
    cases hm : m b with
    | some L1 =>
      rw [LMap.join_left hm] at h; injection h with h; subst h
      obtain ⟨k2, ek2, hk⟩ := s.rel.blk b L1 hm
      rw [e] at ek2; injection ek2 with ek2; subst ek2
      rcases hz with hz | hz
      · exact s.rel.zown b L1 k hm ho e hl hz
      · rcases t.zfresh _ hz with h1 | h1 | h1
        · exact s.rel.zown b L1 k hm ho e hl (hzc _ h1)
        · have := hk.lt (.inl ho); omega
        · cases hi : mi b with
          | none => exact hfar b L1 k hm hi e hl hk h1
          | some L2 =>
            have hx := hcut b L2 hi
            rw [hm] at hx; injection hx with hx; subst hx
            have hb1 := t.ext b L1 hi
            rw [prefix_get h1q (t.rel.lt hb1)] at e
            exact t.rel.zown b L1 k hb1 ho e hl hz
    | none =>
      rw [LMap.join_none hm] at h
      rw [prefix_get h1q (t.rel.lt h)] at e
      have hi : mi b = none := by
        cases hx : mi b with
        | none => rfl
        | some L2 => rw [hcut _ _ hx] at hm; cases hm
      have hnz : ¬ m'.z L.g := t.rel.zown b L k h ho e hl
      rcases hz with hz | hz
      · exact hnz (t.zext _ (hcz _ hz))
      · exact hnz hz
  · -- a block of the old map that the earlier heap did not know, and a new one
    have key : ∀ b b' L L' k, m b = some L → mi b = none → m b' = none → m' b' = some L' → L.own = true → L'.own = true → Hq[b]? = some k → k.live = true → L.g = L'.g → False := by
      intro b b' L L' k hb hi hb' h' ho ho' ek hl hg
      obtain ⟨k2, ek2, hk⟩ := s.rel.blk b L hb
      rw [ek] at ek2; injection ek2 with ek2; subst ek2
      have hi' : mi b' = none := by
        cases hx : mi b' with
        | none => rfl
        | some L2 => rw [hcut _ _ hx] at hb'; cases hb'
      rcases t.fresh b' L' hi' h' with h1 | h1
      · have := hk.lt (.inl ho); omega
      · rw [← hg] at h1; exact hfar b L k hb hi ek hl hk h1
    intro b b' L L' k k' h h' ho ho' e e' hl hl' hg
    cases hm : m b with
    | some L1 =>
      rw [LMap.join_left hm] at h; injection h with h; subst h
      cases hm' : m b' with
      | some L2 =>
        rw [LMap.join_left hm'] at h'; injection h' with h'; subst h'
        exact s.rel.inj b b' L1 L2 k k' hm hm' ho ho' e e' hl hl' hg
      | none =>
        rw [LMap.join_none hm'] at h'
        cases hi : mi b with
        | none => exact (key b b' L1 L' k hm hi hm' h' ho ho' e hl hg).elim
        | some L2 =>
          have hx := hcut b L2 hi
          rw [hm] at hx; injection hx with hx; subst hx
          have hb1 := t.ext b L1 hi
          rw [prefix_get h1q (t.rel.lt hb1)] at e
          rw [prefix_get h1q (t.rel.lt h')] at e'
          exact t.rel.inj b b' L1 L' k k' hb1 h' ho ho' e e' hl hl' hg
    | none =>
      rw [LMap.join_none hm] at h
      cases hm' : m b' with
      | some L2 =>
        rw [LMap.join_left hm'] at h'; injection h' with h'; subst h'
        cases hi : mi b' with
        | none => exact (key b' b L2 L k' hm' hi hm h ho' ho e' hl' hg.symm).elim
        | some L3 =>
          have hx := hcut b' L3 hi
          rw [hm'] at hx; injection hx with hx; subst hx
          have hb1 := t.ext b' L2 hi
          rw [prefix_get h1q (t.rel.lt h)] at e
          rw [prefix_get h1q (t.rel.lt hb1)] at e'
          exact t.rel.inj b b' L L2 k k' h hb1 ho ho' e e' hl hl' hg
      | none =>
        rw [LMap.join_none hm'] at h'
        rw [prefix_get h1q (t.rel.lt h)] at e
        rw [prefix_get h1q (t.rel.lt h')] at e'
        exact t.rel.inj b b' L L' k k' h h' ho ho' e e' hl hl' hg
  · rw [t.frame g (Nat.lt_of_lt_of_le hg s.size) (fun hi => hn (s.img r0 hg (himg g hi)))]
    exact s.frame g hg hn
  · cases hm : m b with
    | some L' =>
      rw [LMap.join_left hm] at h'; injection h' with h'; subst h'
      exact s.fresh b L' h hm
    | none =>
      rw [LMap.join_none hm] at h'
      have hi : mi b = none := by
        cases hx : mi b with
        | none => rfl
        | some L2 => rw [hcut _ _ hx] at hm; cases hm
      rcases t.fresh b L hi h' with h1 | h1
      · exact .inl (Nat.le_trans s.size h1)
      · by_cases hg : L.g < w0.heap.size
        · exact .inr (s.img r0 hg (himg _ h1))
        · exact .inl (by omega)
  · rcases h with h | h
    · exact s.zfresh g h
    · rcases t.zfresh g h with h1 | h1 | h1
      · exact s.zfresh g (hzc g h1)
      · exact .inr (.inl (Nat.le_trans s.size h1))
      · by_cases hg : g < w0.heap.size
        · exact .inr (.inr (s.img r0 hg (himg _ h1)))
        · exact .inr (.inl (by omega))

/-! ### What an operation's class says -/
theorem ev_quiet {o : AOp} {e : Env} {H H' : Heap} {v : AVal} (hc : o.cls = .quiet) (h : ev o e H = some (v, H')) : H' = H ∧ ∀ H2, ev o e H2 = some (v, H2) := by
  cases o <;> try (exfalso; revert hc; simp [AOp.cls]; done)
  case max xs =>
    cases xs with
    | nil => simp [ev] at h
    | cons x xs =>
      simp only [ev] at h ⊢
      split at h <;> try (cases h; done)
      split at h <;> try (cases h; done)
      injection h with h; injection h with h1 h2; subst h1; subst h2; exact ⟨rfl, fun _ => rfl⟩
  case min xs =>
    cases xs with
    | nil => simp [ev] at h
    | cons x xs =>
      simp only [ev] at h ⊢
      split at h <;> try (cases h; done)
      split at h <;> try (cases h; done)
      injection h with h; injection h with h1 h2; subst h1; subst h2; exact ⟨rfl, fun _ => rfl⟩
  all_goals
    simp only [ev] at h ⊢
    repeat' (split at h)
    all_goals first
      | contradiction
      | (cases h; done)
      | (injection h with h; injection h with h1 h2; subst h1; subst h2; refine ⟨rfl, fun H2 => ?_⟩; simp_all)

theorem evApp_zero {H H' : Heap} {sz bytes : Nat} {x y : Cell} {v : AVal} (hx : x = .nilS ∨ (∃ s, x = .zer s) ∨ ∃ b s n sz', x = .slc b s n sz' true) (h : evApp H sz bytes x y = some (v, H')) : H <+: H' := by
  unfold evApp at h
  rcases hx with rfl | ⟨s, rfl⟩ | ⟨b, s, n, sz', rfl⟩
  all_goals
    simp only [if_true] at h
    repeat' (split at h)
    all_goals first
      | (cases h; done)
      | (injection h with h; injection h with h1 h2; subst h2; first | exact List.prefix_refl _ | exact List.prefix_append _ _)

theorem ev_reads {o : AOp} {e : Env} {H H' : Heap} {v : AVal} (hc : o.cls = .reads) (h : ev o e H = some (v, H')) : H <+: H' := by
  cases o <;> try (exfalso; revert hc; simp [AOp.cls]; done)
  case appZ sz bytes x y =>
    simp only [ev] at h
    split at h <;> try (cases h; done)
    · exact evApp_zero (.inl rfl) h
    · exact evApp_zero (.inr (.inl ⟨_, rfl⟩)) h
    · exact evApp_zero (.inr (.inr ⟨_, _, _, _, rfl⟩)) h
  all_goals
    simp only [ev] at h
    repeat' (split at h)
    all_goals first
      | (cases h; done)
      | (injection h with h; injection h with h1 h2; subst h2; first | exact List.prefix_refl _ | exact List.prefix_append _ _)

theorem evF_some {o : AOp} {e : Env} {H : Heap} {v : AVal} (h : evF o e H = some v) : ∃ v0 E, ev o e H = some (v0, H ++ E) ∧ frzE H.length E v0 = some v := by
  have key : ∀ {o : AOp}, o.cls = .reads → mkF H (ev o e H) = some v → ∃ v0 E, ev o e H = some (v0, H ++ E) ∧ frzE H.length E v0 = some v := by
    intro o hc h
    unfold mkF at h
    split at h <;> try (cases h; done)
    rename_i v0 H1 hev
    obtain ⟨E, rfl⟩ := ev_reads hc hev
    rw [List.drop_left] at h
    exact ⟨v0, E, hev, h⟩
  unfold evF at h
  split at h
  · exact key rfl h
  · exact key rfl h
  · exact key rfl h
  · exact key rfl h
  · exact key rfl h
  · rename_i n b x y
    obtain ⟨v0, E, h1, h2⟩ := key rfl h
    refine ⟨v0, E, ?_, h2⟩
    simp only [ev] at h1 ⊢
    split at h1 <;> first
      | (cases h1; done)
      | (rename_i k1 k2; simp only [k1, k2]; exact h1)
  · cases h

end Go.Proofs.YtpjbjdicdjlmeaaGreatDoor.Eng

/- The engine, part 13: a region that draws its order. No statement of the seat is proved here. -/
namespace Go.Proofs.YtpjbjdicdjlmeaaGreatDoor.Eng
open Go
set_option linter.unusedVariables false
set_option linter.unusedSimpArgs false

variable {P : Program}

/-! ### Who stands ahead of whom -/
theorem ancs_snoc (l : List Oper) (o : Oper) : ancs (l ++ [o]) = ancs l ++ [ancOf (ancs l) o] := by simp [ancs, List.foldl_append]

theorem testBit_fold {acc : List Nat} {i : Nat} : ∀ (es : List Edge) (s : Nat),
    (es.foldl (fun s e => if Region.binds .any e then s ||| (2 ^ e.on ||| acc.getD e.on 0) else s) s).testBit i = true →
    s.testBit i = true ∨ ∃ e ∈ es, Region.binds .any e = true ∧ (e.on = i ∨ (acc.getD e.on 0).testBit i = true)
  | [], s, h => .inl h
  | e :: es, s, h => by
    simp only [List.foldl_cons] at h
    rcases testBit_fold es _ h with h | ⟨e', he', h⟩
    · split at h
      · rename_i hb
        simp only [Nat.testBit_or, Bool.or_eq_true, Nat.testBit_two_pow, decide_eq_true_eq] at h
        rcases h with h | h | h
        · exact .inl h
        · exact .inr ⟨e, by simp, hb, .inl h⟩
        · exact .inr ⟨e, by simp, hb, .inr h⟩
      · exact .inl h
    · exact .inr ⟨e', by simp [he'], h⟩

theorem getD_testBit_snoc {acc : List Nat} {x i y : Nat} (h : (acc.getD x 0).testBit i = true) : ((acc ++ [y]).getD x 0).testBit i = true := by
  by_cases hx : x < acc.length
  · simpa [List.getD_eq_getElem?_getD, List.getElem?_append_left hx] using h
  · simp [List.getD_eq_getElem?_getD, List.getElem?_eq_none (Nat.le_of_not_lt hx)] at h

theorem ancs_spec_take (l : List Oper) : ∀ (k : Nat), k ≤ l.length → (ancs (l.take k)).length = k ∧ ∀ j i, ((ancs (l.take k)).getD j 0).testBit i = true →
    ∃ o, l[j]? = some o ∧ ∃ e ∈ o.after.toList, Region.binds .any e = true ∧ (e.on = i ∨ ((ancs (l.take k)).getD e.on 0).testBit i = true)
  | 0, _ => by refine ⟨by simp [ancs], fun j i h => by simp [ancs] at h⟩
  | k + 1, hk => by
    obtain ⟨hlen, ih⟩ := ancs_spec_take l k (by omega)
    have ht : l.take (k + 1) = l.take k ++ [l[k]] := by simp
    rw [ht, ancs_snoc]
    refine ⟨by simp [hlen], fun j i h => ?_⟩
    by_cases hj : j < k
    · have : (ancs (List.take k l) ++ [ancOf (ancs (List.take k l)) l[k]]).getD j 0 = (ancs (List.take k l)).getD j 0 := by
        simp [List.getD_eq_getElem?_getD, List.getElem?_append_left (show j < (ancs (List.take k l)).length by omega)]
      rw [this] at h
      obtain ⟨o, ho, e, he, hb, h⟩ := ih j i h
      exact ⟨o, ho, e, he, hb, h.imp id getD_testBit_snoc⟩
    · by_cases hjk : j = k
      · subst hjk
        have : (ancs (List.take j l) ++ [ancOf (ancs (List.take j l)) l[j]]).getD j 0 = ancOf (ancs (List.take j l)) l[j] := by
          simp [List.getD_eq_getElem?_getD, List.getElem?_append_right (show (ancs (List.take j l)).length ≤ j by omega), hlen]
        rw [this] at h
        rcases testBit_fold _ _ h with h | ⟨e, he, hb, h⟩
        · simp at h
        · exact ⟨l[j], by simp, e, he, hb, h.imp id getD_testBit_snoc⟩
      · simp [List.getD_eq_getElem?_getD, List.getElem?_eq_none (show (ancs (List.take k l) ++ [ancOf (ancs (List.take k l)) l[k]]).length ≤ j by simp [hlen]; omega)] at h

theorem ancs_spec (l : List Oper) {j i : Nat} (h : ((ancs l).getD j 0).testBit i = true) :
    ∃ o, l[j]? = some o ∧ ∃ e ∈ o.after.toList, Region.binds .any e = true ∧ (e.on = i ∨ ((ancs l).getD e.on 0).testBit i = true) := by
  have := (ancs_spec_take l l.length (Nat.le_refl _)).2 j i
  simp only [List.take_length] at this
  exact this h

/-- What must be listed ahead of an operation is. -/
def Fit (ops : Array Oper) (L : Array Bool) (j : Nat) : Prop := ∀ o, ops[j]? = some o → ∀ e ∈ o.after, Region.binds .any e = true → L.getD e.on false = true

structure Ordered (ops : Array Oper) (l : List AInstr) : Prop where
  back : ∀ j o, ops[j]? = some o → ∀ e ∈ o.after, Region.binds .any e = true → e.on < j
  pair : ∀ i j x y, i < j → l[i]? = some x → l[j]? = some y → pairOk x y = true ∨ (((ancs ops.toList).getD j 0).testBit i = true ∧ ∀ d, x.dst = some d → y.dst ≠ some d)

theorem Ordered.of {ops : Array Oper} {l : List AInstr} (hl : l.length = ops.size) (h : drawOk ops l = true) : Ordered ops l := by
  unfold drawOk at h
  simp only [List.all_eq_true, List.mem_range, Bool.and_eq_true] at h
  refine ⟨fun j o ho e he hb => ?_, fun i j x y hij hx hy => ?_⟩
  · have hj : j < l.length := by rw [hl]; exact (Array.getElem?_eq_some_iff.1 ho).1
    have := (h j hj).1
    rw [ho] at this
    simp only [List.all_eq_true] at this
    have := this e (by simpa using he)
    simpa [hb] using this
  · have hj : j < l.length := (List.getElem?_eq_some_iff.1 hy).1
    have := (h j hj).2 i hij
    rw [hx, hy] at this
    simp only [Bool.or_eq_true, Bool.and_eq_true] at this
    rcases this with h1 | ⟨h1, h2⟩
    · exact .inl h1
    · refine .inr ⟨h1, fun d hd => ?_⟩
      rw [hd] at h2
      simpa using h2

theorem anc_listed {ops : Array Oper} {l : List AInstr} (ho : Ordered ops l) {L : Array Bool} (hc : ∀ j, L.getD j false = true → Fit ops L j) {i : Nat} :
    ∀ (j : Nat), Fit ops L j → ((ancs ops.toList).getD j 0).testBit i = true → L.getD i false = true := by
  intro j
  induction j using Nat.strongRecOn with
  | _ j ih =>
    intro hf h
    obtain ⟨o, hj, e, he, hb, h⟩ := ancs_spec _ h
    have hj' : ops[j]? = some o := by simpa using hj
    have he' : e ∈ o.after := by simpa using he
    have hl := hf o hj' e he' hb
    rcases h with h | h
    · rw [← h]; exact hl
    · exact ih e.on (ho.back j o hj' e he' hb) (hc _ hl) h

/-- Two that are not ordered are apart. -/
theorem Ordered.apart {ops : Array Oper} {l : List AInstr} (ho : Ordered ops l) {L : Array Bool} (hc : ∀ j, L.getD j false = true → Fit ops L j) {i j : Nat} {x y : AInstr} (hij : i < j) (hx : l[i]? = some x) (hy : l[j]? = some y)
    (hf : Fit ops L j) (hi : L.getD i false = false) : pairOk x y = true := by
  rcases ho.pair i j x y hij hx hy with h | ⟨h, _⟩
  · exact h
  · rw [anc_listed ho hc j hf h] at hi; cases hi

theorem Ordered.uniq {ops : Array Oper} {l : List AInstr} (ho : Ordered ops l) {i j : Nat} {x y : AInstr} (hij : i ≠ j) (hx : l[i]? = some x) (hy : l[j]? = some y) {d : Nat} (hd : x.dst = some d) : y.dst ≠ some d := by
  rcases Nat.lt_or_gt_of_ne hij with h | h
  · rcases ho.pair i j x y h hx hy with h | ⟨_, h⟩
    · intro hyd
      simp [pairOk, hd, hyd] at h
    · exact h d hd
  · intro hyd
    rcases ho.pair j i y x h hy hx with h | ⟨_, h⟩
    · simp [pairOk, hd, hyd] at h
    · exact h d hyd hd

theorem pairOk_reads {x y : AInstr} (h : pairOk x y = true) : (∀ d, x.dst = some d → d ∉ y.reads) ∧ (∀ d, y.dst = some d → d ∉ x.reads) := by
  unfold pairOk at h
  simp only [Bool.and_eq_true] at h
  obtain ⟨⟨h1, h2⟩, _⟩ := h
  refine ⟨fun d hd => ?_, fun d hd => ?_⟩
  · rw [hd] at h1; simp at h1; exact h1.1
  · rw [hd] at h2; simpa using h2

theorem pairOk_cls {x y : AInstr} (h : pairOk x y = true) : ¬ (x.op.cls = .turns ∧ y.op.cls = .reads) ∧ ¬ (x.op.cls = .turns ∧ y.op.cls = .turns) ∧ ¬ (x.op.cls = .reads ∧ y.op.cls = .turns) := by
  unfold pairOk at h
  simp only [Bool.and_eq_true] at h
  obtain ⟨_, h⟩ := h
  refine ⟨fun ⟨a, b⟩ => ?_, fun ⟨a, b⟩ => ?_, fun ⟨a, b⟩ => ?_⟩ <;> (rw [a, b] at h; simp at h)

/-! ### The operations one by one, in the text's order -/
/-- One operation from one place to the next. -/
inductive StepAt (P : Program) (x : AInstr) (e : Env) (H : Heap) (v : AVal) (H1 : Heap) : Prop where
  | go : goes x.guard e = true → SOp P true x e H v H1 → StepAt P x e H v H1
  | off : x.op ≠ .bad → goes x.guard e = false → v = undefA → H1 = H → StepAt P x e H v H1

structure Seqs (P : Program) (l : List AInstr) (es : Nat → Env) (Hs : Nat → Heap) (vs : Nat → AVal) : Prop where
  env : ∀ i x, l[i]? = some x → es (i + 1) = updO (es i) x.dst (vs i)
  step : ∀ i x, l[i]? = some x → StepAt P x (es i) (Hs i) (vs i) (Hs (i + 1))

theorem trace_seqs {l : List AInstr} {e e' : Env} {H H' : Heap} (h : Trace P true l e H e' H') :
    ∃ es Hs vs, es 0 = e ∧ Hs 0 = H ∧ es l.length = e' ∧ Hs l.length = H' ∧ Seqs P l es Hs vs := by
  induction h with
  | @nil e H => exact ⟨fun _ => e, fun _ => H, fun _ => undefA, rfl, rfl, rfl, rfl, fun _ _ h => by simp at h, fun _ _ h => by simp at h⟩
  | @go x l e H v H1 e' H' hg hs _ ih =>
    obtain ⟨es, Hs, vs, h1, h2, h3, h4, h5⟩ := ih
    refine ⟨fun i => match i with | 0 => e | i + 1 => es i, fun i => match i with | 0 => H | i + 1 => Hs i, fun i => match i with | 0 => v | i + 1 => vs i, rfl, rfl, h3, h4, fun i y hy => ?_, fun i y hy => ?_⟩
    · cases i with
      | zero => simp at hy; subst hy; exact h1
      | succ i => exact h5.env i y (by simpa using hy)
    · cases i with
      | zero => simp at hy; subst hy; simp only [h2]; exact .go hg hs
      | succ i => exact h5.step i y (by simpa using hy)
  | @off x l e H e' H' hb hg _ ih =>
    obtain ⟨es, Hs, vs, h1, h2, h3, h4, h5⟩ := ih
    refine ⟨fun i => match i with | 0 => e | i + 1 => es i, fun i => match i with | 0 => H | i + 1 => Hs i, fun i => match i with | 0 => undefA | i + 1 => vs i, rfl, rfl, h3, h4, fun i y hy => ?_, fun i y hy => ?_⟩
    · cases i with
      | zero => simp at hy; subst hy; exact h1
      | succ i => exact h5.env i y (by simpa using hy)
    · cases i with
      | zero => simp at hy; subst hy; simp only [h2]; exact .off hb hg rfl rfl
      | succ i => exact h5.step i y (by simpa using hy)

theorem wp_const {o : Oper} {a : Act} {w : World} {F : Prop} (h : o.wp P a w (fun _ _ => F) (fun _ _ _ => F)) : F := by
  unfold Oper.wp at h
  generalize (execOp a.eval o).run P w = r at h
  cases r with
  | ok n w' =>
    cases n <;> simp only [Oper.upon] at h
    case enter f args =>
      obtain ⟨e, w2, fr, he, _⟩ := h []
      cases e with
      | returned => exact he
      | panicked => exact he
      | outgrown => obtain ⟨_, _, h⟩ := he; exact h
    case row r args =>
      obtain ⟨_, _, h, _⟩ := h default []
      exact h
    all_goals exact h
  | halt x w' => cases x <;> simp only [Oper.upon] at h; exact h

section
variable {B : Nat} {N : Nat} {ops : Array Oper} {l : List AInstr} {es : Nat → Env} {Hs : Nat → Heap} {vs : Nat → AVal}

/-- A place in the text's order can be reached. -/
def Seen (B N : Nat) (e : Env) (H : Heap) : Prop := ∃ m w a, Rel B m H w ∧ EnvAll m (cellsIn w) e a ∧ N ≤ a.tmps.size

theorem Seen.next {o : Oper} {e : Env} {H H1 : Heap} {v : AVal} (h : Seen B N e H) (hs : StepAt P (cmpInstr P N ops o) e H v H1) : Seen B N (updO e (cmpInstr P N ops o).dst v) H1 ∧ HLe H H1 := by
  obtain ⟨m, w, a, r, he, hN⟩ := h
  cases hs with
  | go hg hs =>
    have hdst := (cmpInstr_ok rfl hs.notBad).1
    refine wp_const (step_go (Q := fun _ _ _ => _) r hs (he.on _) hg fun m' w' u hst hv => ⟨⟨m', w', a.put o.dst u, hst.rel, ?_, ?_⟩, hst.hle⟩).2
    · rw [cmpInstr_dst]
      exact (he.mono (hst.mle r)).put hN hdst hv
    · rw [(put_tmps a o.dst u).2]; exact hN
  | off hb hg hv hH =>
    subst hv; subst hH
    have hdst := (cmpInstr_ok (P := P) (N := N) (ops := ops) (o := o) rfl hb).1
    refine ⟨⟨m, w, a.put o.dst undef, r, ?_, ?_⟩, HLe.refl _⟩
    · rw [cmpInstr_dst]
      exact he.put hN hdst VRA.undef
    · rw [(put_tmps a o.dst undef).2]; exact hN

theorem Seqs.seen (hl : l = ops.toList.map (cmpInstr P N ops)) (hs : Seqs P l es Hs vs) (h0 : Seen B N (es 0) (Hs 0)) : ∀ i, i ≤ l.length → Seen B N (es i) (Hs i) ∧ (i < l.length → HLe (Hs i) (Hs (i + 1))) := by
  have key : ∀ i, i < l.length → Seen B N (es i) (Hs i) → Seen B N (es (i + 1)) (Hs (i + 1)) ∧ HLe (Hs i) (Hs (i + 1)) := fun i hi h => by
    have hi' : i < ops.size := by rw [hl] at hi; simpa using hi
    have hx : l[i]? = some (cmpInstr P N ops ops[i]) := by rw [hl]; simp [hi']
    have := h.next (P := P) (ops := ops) (o := ops[i]) (hs.step i _ hx)
    rw [← hs.env i _ hx] at this
    exact this
  intro i
  induction i with
  | zero => intro _; exact ⟨h0, fun hi => (key 0 hi h0).2⟩
  | succ i ih =>
    intro hi
    have h := (key i (by omega) (ih (by omega)).1).1
    exact ⟨h, fun hi' => (key (i + 1) hi' h).2⟩

theorem Seqs.prefix1 (hs : Seqs P l es Hs vs) {i : Nat} {x : AInstr} (hx : l[i]? = some x) (hc : x.op.cls ≠ .turns) : Hs i <+: Hs (i + 1) := by
  cases hs.step i x hx with
  | off _ _ _ h => rw [h]; exact List.prefix_refl _
  | go _ h =>
    cases h with
    | ev h =>
      cases hcl : x.op.cls with
      | quiet => rw [(ev_quiet hcl h).1]; exact List.prefix_refl _
      | reads => exact ev_reads hcl h
      | turns => exact absurd hcl hc
    | evF _ _ h => rw [h]; exact List.prefix_refl _
    | call _ _ _ h => exact h rfl

theorem Seqs.prefixes (hs : Seqs P l es Hs vs) {i : Nat} : ∀ (j : Nat), i ≤ j → j ≤ l.length → (∀ k x, i ≤ k → k < j → l[k]? = some x → x.op.cls ≠ .turns) → Hs i <+: Hs j := by
  intro j
  induction j with
  | zero => intro h _ _; rw [show i = 0 by omega]; exact List.prefix_refl _
  | succ j ih =>
    intro h hj hk
    by_cases hij : i = j + 1
    · rw [hij]; exact List.prefix_refl _
    · have hx : l[j]? = some l[j] := by simp
      exact (ih (by omega) (by omega) fun k x h1 h2 => hk k x h1 (by omega)).trans (hs.prefix1 hx (hk j _ (by omega) (by omega) hx))

theorem Seqs.hle (hl : l = ops.toList.map (cmpInstr P N ops)) (hs : Seqs P l es Hs vs) (h0 : Seen B N (es 0) (Hs 0)) {i : Nat} : ∀ (j : Nat), i ≤ j → j ≤ l.length → HLe (Hs i) (Hs j) := by
  intro j
  induction j with
  | zero => intro h _; rw [show i = 0 by omega]; exact HLe.refl _
  | succ j ih =>
    intro h hj
    by_cases hij : i = j + 1
    · rw [hij]; exact HLe.refl _
    · exact (ih (by omega) (by omega)).trans ((hs.seen hl h0 j (by omega)).2 (by omega))

theorem Seqs.keep (hs : Seqs P l es Hs vs) {i t : Nat} : ∀ (j : Nat), i ≤ j → j ≤ l.length → (∀ k x, i ≤ k → k < j → l[k]? = some x → x.dst ≠ some t) → es j t = es i t := by
  intro j
  induction j with
  | zero => intro h _ _; rw [show i = 0 by omega]
  | succ j ih =>
    intro h hj hk
    by_cases hij : i = j + 1
    · rw [hij]
    · have hx : l[j]? = some l[j] := by simp
      rw [hs.env j _ hx]
      have hd := hk j _ (by omega) (by omega) hx
      have : updO (es j) l[j].dst (vs j) t = es j t := by
        cases hdd : l[j].dst with
        | none => rfl
        | some d =>
          have : t ≠ d := fun h => hd (by rw [hdd, h])
          simp [updO, upd, this]
      rw [this]
      exact ih (by omega) (by omega) fun k x h1 h2 => hk k x h1 (by omega)

theorem Seqs.last (hs : Seqs P l es Hs vs) (ho : Ordered ops l) {i t : Nat} {x : AInstr} (hx : l[i]? = some x) (hd : x.dst = some t) : es l.length t = vs i := by
  have hi : i < l.length := (List.getElem?_eq_some_iff.1 hx).1
  rw [hs.keep (i := i + 1) l.length (by omega) (Nat.le_refl _) fun k y h1 _ hy => ho.uniq (by omega) hx hy hd, hs.env i x hx, hd]
  simp [updO, upd]

/-- The next operation that turns the heap. -/
theorem next_turn (l : List AInstr) : ∀ (n q : Nat), l.length - q = n → q ≤ l.length → ∃ q', q ≤ q' ∧ q' ≤ l.length ∧ (∀ k x, q ≤ k → k < q' → l[k]? = some x → x.op.cls ≠ .turns) ∧ (q' < l.length → ∃ x, l[q']? = some x ∧ x.op.cls = .turns)
  | 0, q, hn, hq => ⟨q, Nat.le_refl _, hq, fun k x h1 h2 => by omega, fun h => by omega⟩
  | n + 1, q, hn, hq => by
    have hx : l[q]? = some (l[q]'(by omega)) := by simp [show q < l.length by omega]
    by_cases hc : (l[q]'(by omega)).op.cls = .turns
    · exact ⟨q, Nat.le_refl _, hq, fun k x h1 h2 => by omega, fun _ => ⟨_, hx, hc⟩⟩
    · obtain ⟨q', h1, h2, h3, h4⟩ := next_turn l n (q + 1) (by omega) (by omega)
      refine ⟨q', by omega, h2, fun k x k1 k2 k3 => ?_, h4⟩
      by_cases hk : k = q
      · subst hk; rw [hx] at k3; injection k3 with k3; subst k3; exact hc
      · exact h3 k x (by omega) k2 k3

end
end Go.Proofs.YtpjbjdicdjlmeaaGreatDoor.Eng

/- The engine, part 14: a region that draws its order, the end. No statement of the seat is proved here. -/
namespace Go.Proofs.YtpjbjdicdjlmeaaGreatDoor.Eng
open Go
set_option linter.unusedVariables false
set_option linter.unusedSimpArgs false

variable {P : Program}

/-- What is given, all through a region that draws its order. -/
structure Given (P : Program) (B N : Nat) (ops : Array Oper) (l : List AInstr) (es : Nat → Env) (Hs : Nat → Heap) (vs : Nat → AVal) (m0 : LMap) (w0 : World) : Prop where
  hl : l = ops.toList.map (cmpInstr P N ops)
  ord : Ordered ops l
  seqs : Seqs P l es Hs vs
  seen : Seen B N (es 0) (Hs 0)
  rel : Rel B m0 (Hs 0) w0

section
variable {B : Nat} {N : Nat} {ops : Array Oper} {l : List AInstr} {es : Nat → Env} {Hs : Nat → Heap} {vs : Nat → AVal} {m0 : LMap} {w0 : World}

theorem Given.len (g : Given P B N ops l es Hs vs m0 w0) : l.length = ops.size := by rw [g.hl]; simp
theorem Given.at (g : Given P B N ops l es Hs vs m0 w0) {i : Nat} {o : Oper} (h : ops[i]? = some o) : l[i]? = some (cmpInstr P N ops o) := by
  rw [g.hl]; simp [h]

/-- Frames, where some are listed. -/
structure EnvL (l : List AInstr) (es : Nat → Env) (L : Array Bool) (m : LMap) (σ : Mem) (a : Act) : Prop where
  on : ∀ k x t, l[k]? = some x → x.dst = some t → L.getD k false = true → VRA m σ (es l.length t) (a.tmps.getD t undef)
  off : ∀ t, (∀ k x, l[k]? = some x → x.dst = some t → L.getD k false = false) → VRA m σ (es 0 t) (a.tmps.getD t undef)

theorem EnvL.mono {L : Array Bool} {m m' : LMap} {σ σ' : Mem} {a : Act} (h : EnvL l es L m σ a) (hm : MLe m σ m' σ') : EnvL l es L m' σ' a :=
  ⟨fun k x t h1 h2 h3 => (h.on k x t h1 h2 h3).mono hm, fun t ht => (h.off t ht).mono hm⟩

/-- Where listed operations have brought memory: 'q' is the first that is not listed and turns the heap. -/
structure Mid (B : Nat) (l : List AInstr) (es : Nat → Env) (Hs : Nat → Heap) (m0 : LMap) (w0 : World) (L : Array Bool) (a : Act) (w : World) (q : Nat) (m : LMap) : Prop where
  le : q ≤ l.length
  low : ∀ k x, k < q → l[k]? = some x → x.op.cls = .turns → L.getD k false = true
  first : q < l.length → L.getD q false = false ∧ ∃ x, l[q]? = some x ∧ x.op.cls = .turns
  st : St B (Hs 0) m0 w0 (Hs q) m w
  there : ∀ b L', m b = some L' → (Hs 0).length ≤ b → ∃ j, j < l.length ∧ L.getD j false = true ∧ (Hs j).length ≤ b ∧ b < (Hs (j + 1)).length
  env : EnvL l es L m (cellsIn w) a

structure Inv (B N : Nat) (ops : Array Oper) (l : List AInstr) (es : Nat → Env) (Hs : Nat → Heap) (m0 : LMap) (w0 : World) (a0 : Act) (L : Array Bool) (a : Act) (w : World) : Prop where
  size : L.size = ops.size
  closed : ∀ j, L.getD j false = true → Fit ops L j
  mid : ∃ q m, Mid B l es Hs m0 w0 L a w q m
  defers : a.defers = a0.defers
  tsize : a.tmps.size = a0.tmps.size

theorem getD_set {L : Array Bool} {i j : Nat} (h : (L.setIfInBounds i true).getD j false = true) : L.getD j false = true ∨ j = i := by
  by_cases hij : i = j
  · exact .inr hij.symm
  · rw [getD_set_ne false hij] at h; exact .inl h

theorem getD_set_false {L : Array Bool} {i j : Nat} (h : (L.setIfInBounds i true).getD j false = false) : L.getD j false = false := by
  cases hL : L.getD j false with
  | false => rfl
  | true => rw [getD_set_true hL] at h; exact h

/-- What a ready operation reads is as in the text's order. -/
theorem env_reads (g : Given P B N ops l es Hs vs m0 w0) {L : Array Bool} (hc : ∀ j, L.getD j false = true → Fit ops L j) {m : LMap} {σ : Mem} {a : Act} (he : EnvL l es L m σ a)
    {i : Nat} {x : AInstr} (hx : l[i]? = some x) (hf : Fit ops L i) (hi : L.getD i false = false) : EnvOn m σ x.reads (es i) a := by
  intro t ht
  have hil : i < l.length := (List.getElem?_eq_some_iff.1 hx).1
  by_cases hw : ∃ (k : Nat) (y : AInstr), l[k]? = some y ∧ y.dst = some t
  · obtain ⟨k, y, hk, hd⟩ := hw
    have hkl : k < l.length := (List.getElem?_eq_some_iff.1 hk).1
    rcases Nat.lt_or_ge k i with hki | hki
    · -- written ahead
      have hLk : L.getD k false = true := by
        cases hLk : L.getD k false with
        | true => rfl
        | false => exact absurd ht ((pairOk_reads (g.ord.apart hc hki hk hx hf hLk)).1 t hd)
      have : es i t = es l.length t := by
        rw [g.seqs.last g.ord hk hd, g.seqs.keep (i := k + 1) i (by omega) (by omega) fun k' y' h1 _ hy' => g.ord.uniq (by omega) hk hy' hd, g.seqs.env k y hk, hd]
        simp [updO, upd]
      rw [this]
      exact he.on k y t hk hd hLk
    · have h0 : es i t = es 0 t := g.seqs.keep i (Nat.zero_le _) (by omega) fun k' y' _ h2 hy' => g.ord.uniq (by omega) hk hy' hd
      rw [h0]
      refine he.off t fun k' y' hk' hd' => ?_
      have hkk : k' = k := by
        by_cases hkk : k' = k
        · exact hkk
        · exact absurd hd' (g.ord.uniq (fun h => hkk h.symm) hk hk' hd)
      subst hkk
      by_cases hki' : k' = i
      · rw [hki']; exact hi
      · cases hLk : L.getD k' false with
        | false => rfl
        | true => exact absurd ht ((pairOk_reads (g.ord.apart hc (by omega) hx hk (hc _ hLk) hi)).2 t hd)
  · have h0 : es i t = es 0 t := g.seqs.keep i (Nat.zero_le _) (by omega) fun k' y' _ _ hy' hd' => hw ⟨k', y', hy', hd'⟩
    rw [h0]
    exact he.off t fun k' y' hk' hd' => absurd ⟨k', y', hk', hd'⟩ hw

theorem env_put (g : Given P B N ops l es Hs vs m0 w0) {L : Array Bool} {m : LMap} {σ : Mem} {a : Act} (hN : N ≤ a.tmps.size) (hLs : L.size = ops.size) (he : EnvL l es L m σ a)
    {i : Nat} {x : AInstr} (hx : l[i]? = some x) (hd : dstOk N x.dst = true) {u : Value} (hv : VRA m σ (vs i) u) : EnvL l es (L.setIfInBounds i true) m σ (a.put x.dst u) := by
  have hil : i < l.length := (List.getElem?_eq_some_iff.1 hx).1
  refine ⟨fun k y t hk hkd hL => ?_, fun t ht => ?_⟩
  · rw [put_getD hN hd]
    by_cases hki : k = i
    · subst hki
      rw [hx] at hk; injection hk with hk; subst hk
      rw [if_pos hkd, g.seqs.last g.ord hx hkd]
      exact hv
    · rw [if_neg (g.ord.uniq hki hk hx hkd)]
      rcases getD_set hL with h | h
      · exact he.on k y t hk hkd h
      · exact absurd h hki
  · rw [put_getD hN hd, if_neg ?_]
    · exact he.off t fun k y hk hkd => getD_set_false (ht k y hk hkd)
    · intro hxd
      have h1 := ht i x hx hxd
      have hi : i < L.size := by rw [hLs, ← g.len]; exact hil
      simp [hi] at h1

/-- A listed operation that turns the heap lies below. -/
theorem turns_below (g : Given P B N ops l es Hs vs m0 w0) {L : Array Bool} (hc : ∀ j, L.getD j false = true → Fit ops L j) {a : Act} {w : World} {q : Nat} {m : LMap} (M : Mid B l es Hs m0 w0 L a w q m)
    {k : Nat} {x : AInstr} (hk : l[k]? = some x) (hx : x.op.cls = .turns) (hf : Fit ops L k) (hqk : q < k) : False := by
  have hkl : k < l.length := (List.getElem?_eq_some_iff.1 hk).1
  obtain ⟨h1, y, hy, hyc⟩ := M.first (by omega)
  exact (pairOk_cls (g.ord.apart hc hqk hy hk hf h1)).2.1 ⟨hyc, hx⟩

theorem there_mono {L : Array Bool} {m : LMap} {i : Nat} (h : ∀ b L', m b = some L' → (Hs 0).length ≤ b → ∃ j, j < l.length ∧ L.getD j false = true ∧ (Hs j).length ≤ b ∧ b < (Hs (j + 1)).length) :
    ∀ b L', m b = some L' → (Hs 0).length ≤ b → ∃ j, j < l.length ∧ (L.setIfInBounds i true).getD j false = true ∧ (Hs j).length ≤ b ∧ b < (Hs (j + 1)).length := fun b L' h1 h2 => by
  obtain ⟨j, h3, h4, h5⟩ := h b L' h1 h2
  exact ⟨j, h3, getD_set_true h4, h5⟩

/-- A ready operation that does not turn the heap: the place stays. -/
theorem Mid.stay {L : Array Bool} {a a' : Act} {w w' : World} {q : Nat} {m m' : LMap} (M : Mid B l es Hs m0 w0 L a w q m) {i : Nat} {x : AInstr} (hx : l[i]? = some x) (hxc : x.op.cls ≠ .turns)
    (hst : St B (Hs 0) m0 w0 (Hs q) m' w') (hth : ∀ b L', m' b = some L' → (Hs 0).length ≤ b → ∃ j, j < l.length ∧ (L.setIfInBounds i true).getD j false = true ∧ (Hs j).length ≤ b ∧ b < (Hs (j + 1)).length)
    (he : EnvL l es (L.setIfInBounds i true) m' (cellsIn w') a') : Mid B l es Hs m0 w0 (L.setIfInBounds i true) a' w' q m' where
  le := M.le
  low := fun k y h1 h2 h3 => getD_set_true (M.low k y h1 h2 h3)
  first := fun hq => by
    obtain ⟨h1, y, h2, h3⟩ := M.first hq
    have hiq : i ≠ q := fun h => by subst h; rw [hx] at h2; injection h2 with h2; subst h2; exact hxc h3
    exact ⟨by rw [getD_set_ne false hiq]; exact h1, y, h2, h3⟩
  st := hst
  there := hth
  env := he

/-- The operation that turns the heap: on to the next. -/
theorem Mid.turn (g : Given P B N ops l es Hs vs m0 w0) {L : Array Bool} (hc : ∀ j, L.getD j false = true → Fit ops L j) {a a' : Act} {w w' : World} {q : Nat} {m m' : LMap} (M : Mid B l es Hs m0 w0 L a w q m) {x : AInstr} (hx : l[q]? = some x) (hxc : x.op.cls = .turns)
    (hst : St B (Hs 0) m0 w0 (Hs (q + 1)) m' w') (hth : ∀ b L', m' b = some L' → (Hs 0).length ≤ b → ∃ j, j < l.length ∧ (L.setIfInBounds q true).getD j false = true ∧ (Hs j).length ≤ b ∧ b < (Hs (j + 1)).length)
    (he : EnvL l es (L.setIfInBounds q true) m' (cellsIn w') a') (hLs : L.size = ops.size) : ∃ q', Mid B l es Hs m0 w0 (L.setIfInBounds q true) a' w' q' m' := by
  have hql : q < l.length := (List.getElem?_eq_some_iff.1 hx).1
  obtain ⟨q', h1, h2, h3, h4⟩ := next_turn l _ (q + 1) rfl (by omega)
  refine ⟨q', h2, fun k y k1 k2 k3 => ?_, fun hq' => ?_, hst.more (g.seqs.prefixes q' h1 h2 h3), hth, he⟩
  · rcases Nat.lt_trichotomy k q with hk | hk | hk
    · exact getD_set_true (M.low k y hk k2 k3)
    · subst hk
      have : k < L.size := by rw [hLs, ← g.len]; exact hql
      simp [this]
    · exact absurd k3 (h3 k y (by omega) k1 k2)
  · obtain ⟨y, hy, hyc⟩ := h4 hq'
    refine ⟨?_, y, hy, hyc⟩
    rw [getD_set_ne false (by omega)]
    cases hL : L.getD q' false with
    | false => rfl
    | true => exact (turns_below g hc M hy hyc (hc _ hL) (by omega)).elim

theorem Inv.step (g : Given P B N ops l es Hs vs m0 w0) {a0 : Act} (hN : N ≤ a0.tmps.size) {L : Array Bool} {a : Act} {w : World} (I : Inv B N ops l es Hs m0 w0 a0 L a w) {i : Nat} (hi : i ∈ Region.ready .any ops L)
    {K : Act → World → Prop} {Q : Exit → Act → World → Prop} (hK : ∀ a' w', Inv B N ops l es Hs m0 w0 a0 (L.setIfInBounds i true) a' w' → K a' w') : wpOp P ops Q i K a w := by
  obtain ⟨hLi, o, ho, hfit⟩ := mem_ready.1 hi
  have hx := g.at ho
  have hios : i < ops.size := (Array.getElem?_eq_some_iff.1 ho).1
  have hil : i < l.length := by rw [g.len]; exact hios
  have hLi : L.getD i false = false := by
    have : i < L.size := by rw [I.size]; exact hios
    simpa [this] using hLi
  have hf : Fit ops L i := fun o' ho' => by rw [ho] at ho'; injection ho' with ho'; subst ho'; exact hfit
  have hc' : ∀ j, (L.setIfInBounds i true).getD j false = true → Fit ops (L.setIfInBounds i true) j := fun j hj o' ho' e he hb => by
    rcases getD_set hj with h | h
    · exact getD_set_true (I.closed j h o' ho' e he hb)
    · subst h; exact getD_set_true (hf o' ho' e he hb)
  have hNa : N ≤ a.tmps.size := by rw [I.tsize]; exact hN
  have hLi' : (L.setIfInBounds i true).getD i false = true := by
    have : i < L.size := by rw [I.size]; exact hios
    simp [this]
  obtain ⟨q, m, M⟩ := I.mid
  have hreads := env_reads g I.closed M.env hx hf hLi
  -- how to end
  have fin : ∀ (u : Value) (w' : World), dstOk N o.dst = true → (∃ q' m', Mid B l es Hs m0 w0 (L.setIfInBounds i true) (a.put o.dst u) w' q' m') → K (a.put o.dst u) w' := fun u w' hd hm =>
    hK _ _ ⟨by rw [Array.size_setIfInBounds]; exact I.size, hc', hm, by rw [(put_tmps a o.dst u).1]; exact I.defers, by rw [(put_tmps a o.dst u).2]; exact I.tsize⟩
  have hdd : (cmpInstr P N ops o).dst = o.dst := cmpInstr_dst
  -- which of the operations that turn the heap it is
  have hiq : (cmpInstr P N ops o).op.cls = .turns → i = q := fun hcl => by
    rcases Nat.lt_trichotomy i q with h | h | h
    · rw [M.low i _ h hx hcl] at hLi; cases hLi
    · exact h
    · exact (turns_below g I.closed M hx hcl hf h).elim
  unfold wpOp
  rw [ho]
  simp only []
  cases hstep : g.seqs.step i _ hx with
  | off hb hg hv hH =>
    obtain ⟨hd, _, _, hgd⟩ := cmpInstr_ok (P := P) (N := N) (ops := ops) (o := o) rfl hb
    have hguard := guard_sound (m := m) (σ := cellsIn w) hgd (e := es i) (a := a) (fun t b ht => hreads t (by simp [AInstr.reads, ht]))
    rw [hguard, hg]
    simp only [Bool.false_eq_true, if_false]
    have hv' : VRA m (cellsIn w) (vs i) undef := by rw [hv]; exact VRA.undef
    have henv := env_put g hNa I.size M.env hx (by rw [hdd]; exact hd) hv'
    rw [hdd] at henv
    refine fin _ _ hd ?_
    by_cases hcl : (cmpInstr P N ops o).op.cls = .turns
    · have := hiq hcl; subst this
      obtain ⟨q', hq'⟩ := Mid.turn g I.closed M hx hcl (by rw [hH]; exact M.st) (there_mono M.there) henv I.size
      exact ⟨q', m, hq'⟩
    · exact ⟨q, m, M.stay hx hcl M.st (there_mono M.there) henv⟩
  | go hg hs =>
    have hd : dstOk N o.dst = true := (cmpInstr_ok rfl hs.notBad).1
    have main : Region.wanted o (yielded ops a.tmps) = true ∧ o.wp P a w K Q := by
      cases hcl : (cmpInstr P N ops o).op.cls with
      | turns =>
        have := hiq hcl; subst this
        refine step_go M.st.rel hs hreads hg fun m' w' u hst hv => fin u w' hd ?_
        have hm := hst.mle M.st.rel
        have henv := env_put g hNa I.size (M.env.mono hm) hx (by rw [hdd]; exact hd) hv
        rw [hdd] at henv
        obtain ⟨q', hq'⟩ := Mid.turn g I.closed M hx hcl (M.st.trans g.rel hst) (fun b L' hb h0 => by
          cases hmb : m b with
          | some L2 => exact there_mono M.there b L2 hmb h0
          | none => exact ⟨i, hil, hLi', hst.dom b L' hmb hb, hst.rel.lt hb⟩) henv I.size
        exact ⟨q', m', hq'⟩
      | quiet =>
        have hs' : SOp P true (cmpInstr P N ops o) (es i) (Hs q) (vs i) (Hs q) := by
          cases hs with
          | ev h => exact .ev ((ev_quiet hcl h).2 _)
          | @evF v0 E h hf hH =>
            obtain ⟨h1, h2⟩ := ev_quiet hcl h
            have hE : E = [] := by
              have := congrArg List.length h1
              simp at this
              exact this
            subst hE
            exact .evF (E := []) (by rw [List.append_nil]; exact h2 _) hf rfl
          | call h => rw [h] at hcl; cases hcl
        refine step_go M.st.rel hs' hreads hg fun m' w' u hst hv => fin u w' hd ?_
        have hm := hst.mle M.st.rel
        have henv := env_put g hNa I.size (M.env.mono hm) hx (by rw [hdd]; exact hd) hv
        rw [hdd] at henv
        refine ⟨q, m', M.stay hx (by rw [hcl]; intro h; cases h) (M.st.trans g.rel hst) (fun b L' hb h0 => ?_) henv⟩
        cases hmb : m b with
        | some L2 => exact there_mono M.there b L2 hmb h0
        | none =>
          have h1 := hst.dom b L' hmb hb
          have h2 := hst.rel.lt hb
          omega
      | reads =>
        have hiq' : i < q := by
          rcases Nat.lt_trichotomy i q with h | h | h
          · exact h
          · subst h
            obtain ⟨_, y, hy, hyc⟩ := M.first hil
            rw [hx] at hy; injection hy with hy; subst hy
            rw [hcl] at hyc; cases hyc
          · obtain ⟨h1, y, hy, hyc⟩ := M.first (by omega)
            exact ((pairOk_cls (g.ord.apart I.closed h hy hx hf h1)).1 ⟨hyc, hcl⟩).elim
        have hno : ∀ k y, i ≤ k → k < q → l[k]? = some y → y.op.cls ≠ .turns := fun k y h1 h2 hy hyc => by
          by_cases hik : k = i
          · subst hik; rw [hx] at hy; injection hy with hy; subst hy; rw [hcl] at hyc; cases hyc
          · exact (pairOk_cls (g.ord.apart I.closed (by omega) hx hy (I.closed _ (M.low k y h2 hy hyc)) hLi)).2.2 ⟨hcl, hyc⟩
        have hp1 : Hs i <+: Hs (i + 1) := g.seqs.prefix1 hx (by rw [hcl]; intro h; cases h)
        have hp2 : Hs (i + 1) <+: Hs q := g.seqs.prefixes q (by omega) M.le fun k y h1 h2 => hno k y (by omega) h2
        obtain ⟨mi, wi, ai, ri, hei, _⟩ := (g.seqs.seen g.hl g.seen i (by omega)).1
        have rc := M.st.rel.cut ri (hp1.trans hp2)
        have hreads' : EnvOn (m.cut mi) (cellsIn w) (cmpInstr P N ops o).reads (es i) a := fun t ht => (hreads t ht).inter (hei t)
        refine step_go rc hs hreads' hg fun m' w' u hst hv => fin u w' hd ?_
        have hlen : ∀ j k, j ≤ k → k ≤ l.length → (Hs j).length ≤ (Hs k).length := fun j k h1 h2 => (g.seqs.hle g.hl g.seen k h1 h2).len
        obtain ⟨hst', hup, hm⟩ := St.merge g.rel M.st (hlen 0 i (Nat.zero_le _) (by omega)) (fun b L' h => (LMap.cut_some.1 h).1) (fun _ h => h) (fun _ h => h) rc hst hp1 hp2 (fun b L' hb h1 h2 => by
          obtain ⟨j, j1, j2, j3, j4⟩ := M.there b L' hb (Nat.le_trans (hlen 0 i (Nat.zero_le _) (by omega)) h1)
          rcases Nat.lt_trichotomy j i with h | h | h
          · have := hlen (j + 1) i (by omega) (by omega); omega
          · subst h; rw [hLi] at j2; cases j2
          · have := hlen (i + 1) j (by omega) (by omega); omega)
        have henv := env_put g hNa I.size (M.env.mono hm) hx (by rw [hdd]; exact hd) (hv.up hup)
        rw [hdd] at henv
        refine ⟨q, _, M.stay hx (by rw [hcl]; intro h; cases h) hst' (fun b L' hb h0 => ?_) henv⟩
        cases hmb : m b with
        | some L2 => exact there_mono M.there b L2 hmb h0
        | none =>
          rw [LMap.join_none hmb] at hb
          refine ⟨i, hil, hLi', hst.dom b L' ?_ hb, hst.rel.lt hb⟩
          cases hcb : m.cut mi b with
          | none => rfl
          | some L3 => rw [(LMap.cut_some.1 hcb).1] at hmb; cases hmb
    rw [if_pos main.1]
    exact .inl main.2

/-- How many are not listed. -/
def unl (L : Array Bool) : Nat → Nat
  | 0 => 0
  | n + 1 => unl L n + if L.getD n false then 0 else 1

theorem unl_zero {L : Array Bool} : ∀ {n : Nat}, unl L n = 0 → ∀ i, i < n → L.getD i false = true
  | n + 1, h, i, hi => by
    simp only [unl] at h
    by_cases hn : i = n
    · subst hn
      cases hL : L.getD i false with
      | true => rfl
      | false => rw [hL] at h; simp at h
    · exact unl_zero (n := n) (by omega) i (by omega)

theorem unl_set {L : Array Bool} {i : Nat} (hL : L.getD i false = false) (hi : i < L.size) : ∀ {n : Nat}, (n ≤ i → unl (L.setIfInBounds i true) n = unl L n) ∧ (i < n → unl (L.setIfInBounds i true) n + 1 = unl L n)
  | 0 => ⟨fun _ => rfl, fun h => by omega⟩
  | n + 1 => by
    have ih := unl_set hL hi (n := n)
    refine ⟨fun h => ?_, fun h => ?_⟩
    · simp only [unl]
      rw [ih.1 (by omega), getD_set_ne false (by omega)]
    · simp only [unl]
      by_cases hn : n = i
      · subst hn
        rw [ih.1 (Nat.le_refl _), hL]
        simp [hi]
      · have := ih.2 (by omega)
        rw [getD_set_ne false (by omega)]
        omega

theorem unl_all (n k : Nat) (h : k ≤ n) : unl (Array.replicate n false) k = k := by
  induction k with
  | zero => rfl
  | succ k ih => simp only [unl]; rw [ih (by omega)]; simp [show k < n by omega]

theorem ready_unl {L : Array Bool} (hs : L.size = ops.size) {i : Nat} (hi : i ∈ Region.ready .any ops L) : unl (L.setIfInBounds i true) ops.size + 1 = unl L ops.size := by
  obtain ⟨h1, o, ho, _⟩ := mem_ready.1 hi
  have hios : i < ops.size := (Array.getElem?_eq_some_iff.1 ho).1
  have : L.getD i false = false := by
    have : i < L.size := by rw [hs]; exact hios
    simpa [this] using h1
  exact (unl_set this (by rw [hs]; exact hios)).2 hios

theorem ready_nil (ho : Ordered ops l) {L : Array Bool} (hs : L.size = ops.size) (h : Region.ready .any ops L = []) : ∀ i, i < ops.size → L.getD i false = true := by
  intro i
  induction i using Nat.strongRecOn with
  | _ i ih =>
    intro hi
    cases hL : L.getD i false with
    | true => rfl
    | false =>
      exfalso
      have : i ∈ Region.ready .any ops L := by
        refine mem_ready.2 ⟨?_, ops[i], by simp [hi], fun e he hb => ?_⟩
        · have : i < L.size := by rw [hs]; exact hi
          simpa [this] using hL
        · have hlt := ho.back i ops[i] (by simp [hi]) e he hb
          exact ih e.on hlt (by omega)
      rw [h] at this
      cases this

theorem Inv.all (g : Given P B N ops l es Hs vs m0 w0) {a0 : Act} (hN : N ≤ a0.tmps.size) {Q : Exit → Act → World → Prop}
    (hQ : ∀ m' w' a', St B (Hs 0) m0 w0 (Hs l.length) m' w' → EnvAll m' (cellsIn w') (es l.length) a' → a'.defers = a0.defers → a'.tmps.size = a0.tmps.size → Q .normal a' w') :
    ∀ (fuel : Nat) (L : Array Bool) (a : Act) (w : World), unl L ops.size ≤ fuel → Inv B N ops l es Hs m0 w0 a0 L a w → wpAny P .any ops Q fuel L a w := by
  have done : ∀ (L : Array Bool) (a : Act) (w : World), (∀ i, i < ops.size → L.getD i false = true) → Inv B N ops l es Hs m0 w0 a0 L a w → Q .normal a w := by
    intro L a w hall I
    obtain ⟨q, m, M⟩ := I.mid
    have hq : q = l.length := by
      by_cases h : q < l.length
      · have := (M.first h).1
        rw [hall q (by rw [← g.len]; exact h)] at this
        cases this
      · have := M.le; omega
    subst hq
    refine hQ m w a M.st (fun t => ?_) I.defers I.tsize
    by_cases hw : ∃ (k : Nat) (y : AInstr), l[k]? = some y ∧ y.dst = some t
    · obtain ⟨k, y, hk, hd⟩ := hw
      exact M.env.on k y t hk hd (hall k (by rw [← g.len]; exact (List.getElem?_eq_some_iff.1 hk).1))
    · rw [g.seqs.keep (i := 0) l.length (Nat.zero_le _) (Nat.le_refl _) fun k' y' _ _ hy' hd' => hw ⟨k', y', hy', hd'⟩]
      exact M.env.off t fun k' y' hk' hd' => absurd ⟨k', y', hk', hd'⟩ hw
  intro fuel
  induction fuel with
  | zero =>
    intro L a w hu I
    have hall := unl_zero (Nat.le_zero.1 hu)
    refine ⟨?_, done L a w hall I⟩
    cases hr : Region.ready .any ops L with
    | nil => rfl
    | cons i r =>
      have := ready_unl I.size (i := i) (by rw [hr]; simp)
      omega
  | succ fuel ih =>
    intro L a w hu I
    refine ⟨fun hr => done L a w (ready_nil g.ord I.size hr) I, fun i hi => ?_⟩
    refine I.step g hN hi fun a' w' I' => ih _ a' w' ?_ I'
    have := ready_unl I.size hi
    omega
end

/-- A region that draws its order does what its text's order does. -/
theorem draw_sound {N : Nat} {ops : Array Oper} {l : List AInstr} {e e' : Env} {H H' : Heap} (ht : Trace P true l e H e' H') (hl : l = ops.toList.map (cmpInstr P N ops)) (hd : drawOk ops l = true)
    {B : Nat} {m0 : LMap} {w0 : World} {a0 : Act} {Q : Exit → Act → World → Prop} (r : Rel B m0 H w0) (he : EnvAll m0 (cellsIn w0) e a0) (hN : N ≤ a0.tmps.size)
    (hQ : ∀ m' w' a', St B H m0 w0 H' m' w' → EnvAll m' (cellsIn w') e' a' → a'.defers = a0.defers → a'.tmps.size = a0.tmps.size → Q .normal a' w') :
    wpAny P .any ops Q ops.size (Array.replicate ops.size false) a0 w0 := by
  obtain ⟨es, Hs, vs, h1, h2, h3, h4, hs⟩ := trace_seqs ht
  subst h1; subst h2; subst h3; subst h4
  have ho : Ordered ops l := Ordered.of (by rw [hl]; simp) hd
  have g : Given P B N ops l es Hs vs m0 w0 := ⟨hl, ho, hs, ⟨m0, w0, a0, r, he, hN⟩, r⟩
  have hnone : ∀ k, (Array.replicate ops.size false).getD k false = false := fun k => by
    by_cases hk : k < ops.size <;> simp [hk]
  refine Inv.all g hN hQ _ _ _ _ (Nat.le_of_eq (unl_all _ _ (Nat.le_refl _))) ⟨by simp, fun j hj => (by rw [hnone] at hj; cases hj), ?_, rfl, rfl⟩
  obtain ⟨q, q1, q2, q3, q4⟩ := next_turn l _ 0 rfl (Nat.zero_le _)
  exact ⟨q, m0, q2, fun k x k1 k2 k3 => absurd k3 (q3 k x (Nat.zero_le _) k1 k2), fun h => ⟨hnone _, q4 h⟩, (St.refl r).more (hs.prefixes q q1 q2 q3), fun b L hb h0 => absurd (r.lt hb) (by omega),
    ⟨fun k x t _ _ hL => (by rw [hnone] at hL; cases hL), fun t _ => he t⟩⟩

end Go.Proofs.YtpjbjdicdjlmeaaGreatDoor.Eng

/- The engine, part 15: code and calls: the whole of it. No statement of the seat is proved here. -/
namespace Go.Proofs.YtpjbjdicdjlmeaaGreatDoor.Eng
open Go
set_option linter.unusedVariables false
set_option linter.unusedSimpArgs false

variable {P : Program}

def AExit.go : AExit → Exit
  | .normal => .normal
  | .exit id => .exit id
  | .ret => .ret

/-- A loop that stands in its body. -/
def InLoop (P : Program) (c : Code) (Q : Exit → Act → World → Prop) (a : Act) (w : World) : Prop :=
  ∀ (b : Frame) (k : List Item) (cs : List Frame), ∃ e a' w', Q e a' w' ∧ Arrives P (lone (b.at a (.code c :: .inLoop c :: k)) cs w) b k cs e a' w'

theorem InLoop.loop {c : Code} {Q : Exit → Act → World → Prop} {a : Act} {w : World} (h : InLoop P c Q a w) : (Code.loop c).wp P Q a w := fun b k cs => by
  obtain ⟨e, a', w', hq, harr⟩ := h b k cs
  exact ⟨e, a', w', hq, .of_steps (.one step_loop) harr⟩

theorem InLoop.step {c : Code} {Q : Exit → Act → World → Prop} {a : Act} {w : World} (h : c.wp P (Exit.then (InLoop P c Q) Q) a w) : InLoop P c Q a w := fun b k cs => by
  obtain ⟨e, a₁, w₁, hq, harr⟩ := h b (.inLoop c :: k) cs
  cases e with
  | normal =>
    obtain ⟨e₂, a₂, w₂, hq₂, harr₂⟩ := hq b k cs
    exact ⟨e₂, a₂, w₂, hq₂, .of_steps (Steps.trans harr (.one step_inLoop)) harr₂⟩
  | exit id => exact ⟨_, a₁, w₁, hq, .pass (x := .inLoop c) rfl (fun _ _ => .inl (by simp)) harr⟩
  | goto l => exact ⟨_, a₁, w₁, hq, .pass (x := .inLoop c) rfl (fun _ _ => .inl (by simp)) harr⟩
  | ret => exact ⟨_, a₁, w₁, hq, .pass (x := .inLoop c) rfl (fun _ _ => .inl (by simp)) harr⟩
  | panic ch => exact ⟨_, a₁, w₁, hq, .pass (x := .inLoop c) rfl (fun _ _ => .inl (by simp)) harr⟩
  | outgrown => exact ⟨_, a₁, w₁, hq, .pass (x := .inLoop c) rfl (fun _ _ => .inl (by simp)) harr⟩

def CodeSound (P : Program) (c : ACode) (e : Env) (H : Heap) (x : AExit) (e' : Env) (H' : Heap) : Prop :=
  ∀ (N : Nat) (code : Code), cmpCode P N code = c.erase → ∀ (B : Nat) (m : LMap) (w : World) (a : Act) (Q : Exit → Act → World → Prop), Rel B m H w → EnvAll m (cellsIn w) e a → N ≤ a.tmps.size →
    (∀ m' w' a', St B H m w H' m' w' → EnvAll m' (cellsIn w') e' a' → a'.defers = a.defers → a'.tmps.size = a.tmps.size → Q x.go a' w') →
    code.wp P Q a w ∧ (∀ body, code = .loop body → InLoop P body Q a w)

def JSound (P : Program) : J → Prop
  | .ops d l e H e' H' => Trace P d (l.map AInstr.erase) e H e' H'
  | .code c e H x e' H' => CodeSound P c e H x e' H'
  | .call f args H v H' => CallSound P f args H v H'

/-- What is known of the slim functions. -/
structure GOk (P : Program) (G : Prog) : Prop where
  fn : ∀ f a, G.fn f = some a → cmpFun P f = some a.erase
  prim : ∀ f args H v H', G.prim f args H v H' → CallSound P f args H v H'
  mixed : P.follows .mixedOrders = true

theorem cmp_region {N : Nat} {code : Code} {l : List AInstr} {d : Bool} (h : cmpCode P N code = .region l d) : ∃ id ops, code = .region id ops d ∧ l = ops.toList.map (cmpInstr P N ops) ∧ (d = true → drawOk ops l = true) := by
  cases code <;> simp only [cmpCode] at h <;> try (cases h; done)
  case region id ops draw =>
    unfold cmpRegion at h
    simp only at h
    split at h
    · rename_i hd
      split at h
      · rename_i hk
        injection h with h1 h2
        subst h1; subst h2
        exact ⟨id, ops, by rw [hd], rfl, fun _ => hk⟩
      · cases h
    · rename_i hd
      injection h with h1 h2
      subst h1; subst h2
      exact ⟨id, ops, by simp at hd; rw [hd], rfl, fun h => by cases h⟩
  case cond c x y =>
    split at h <;> cases h

theorem cmp_seq {N : Nat} {code : Code} {x y : ACode} (h : cmpCode P N code = .seq x y) : ∃ a b, code = .seq a b ∧ cmpCode P N a = x ∧ cmpCode P N b = y := by
  cases code <;> simp only [cmpCode] at h <;> try (cases h; done)
  case seq a b => injection h with h1 h2; exact ⟨a, b, rfl, h1, h2⟩
  case region id ops draw => unfold cmpRegion at h; simp only at h; split at h <;> (try split at h) <;> cases h
  case cond c x y => split at h <;> cases h

theorem cmp_cond {N : Nat} {code : Code} {c : Opd} {x y : ACode} (h : cmpCode P N code = .cond c x y) : ∃ o a b, code = .cond o a b ∧ cmpOpd o = some c ∧ cmpCode P N a = x ∧ cmpCode P N b = y := by
  cases code <;> simp only [cmpCode] at h <;> try (cases h; done)
  case region id ops draw => unfold cmpRegion at h; simp only at h; split at h <;> (try split at h) <;> cases h
  case cond o a b =>
    split at h
    · rename_i ho
      injection h with h0 h1 h2
      subst h0
      exact ⟨o, a, b, rfl, ho, h1, h2⟩
    · cases h

theorem cmp_block {N : Nat} {code : Code} {id : Nat} {x : ACode} (h : cmpCode P N code = .block id x) : ∃ a, code = .block id a ∧ cmpCode P N a = x := by
  cases code <;> simp only [cmpCode] at h <;> try (cases h; done)
  case region id ops draw => unfold cmpRegion at h; simp only at h; split at h <;> (try split at h) <;> cases h
  case cond o a b => split at h <;> cases h
  case block id a => injection h with h1 h2; subst h1; exact ⟨a, rfl, h2⟩

theorem cmp_loop {N : Nat} {code : Code} {x : ACode} (h : cmpCode P N code = .loop x) : ∃ a, code = .loop a ∧ cmpCode P N a = x := by
  cases code <;> simp only [cmpCode] at h <;> try (cases h; done)
  case region id ops draw => unfold cmpRegion at h; simp only at h; split at h <;> (try split at h) <;> cases h
  case cond o a b => split at h <;> cases h
  case loop a => injection h with h; exact ⟨a, rfl, h⟩

theorem cmp_skip {N : Nat} {code : Code} (h : cmpCode P N code = .skip) : code = .skip := by
  cases code <;> simp only [cmpCode] at h <;> try (cases h; done)
  case skip => rfl
  case region id ops draw => unfold cmpRegion at h; simp only at h; split at h <;> (try split at h) <;> cases h
  case cond o a b => split at h <;> cases h

theorem cmp_exit {N : Nat} {code : Code} {id : Nat} (h : cmpCode P N code = .exit id) : code = .exit id := by
  cases code <;> simp only [cmpCode] at h <;> try (cases h; done)
  case region id ops draw => unfold cmpRegion at h; simp only at h; split at h <;> (try split at h) <;> cases h
  case cond o a b => split at h <;> cases h
  case exit id => injection h with h; subst h; rfl

theorem cmp_ret {N : Nat} {code : Code} (h : cmpCode P N code = .ret) : code = .ret := by
  cases code <;> simp only [cmpCode] at h <;> try (cases h; done)
  case region id ops draw => unfold cmpRegion at h; simp only at h; split at h <;> (try split at h) <;> cases h
  case cond o a b => split at h <;> cases h
  case ret => rfl

/-! ### Results -/
def resOf (tmps : Array Value) : ResultVar → Sem Value
  | .tmp t => pure (tmps.getD t undef)
  | .cell a t => do loadVar t (← asAddr (tmps.getD a undef))

theorem results_eq (fn : Func) (tmps : Array Value) : results fn tmps = (do let vs ← fn.results.mapM (resOf tmps); pure (if h : vs.size = 1 then vs[0] else .tuple vs)) := by
  have : (fun | .tmp t => pure (tmps.getD t undef) | .cell a t => do loadVar t (← asAddr (tmps.getD a undef)) : ResultVar → Sem Value) = resOf tmps := by
    funext x; cases x <;> rfl
  rw [← this]; rfl

theorem res1_sound {B : Nat} {m : LMap} {H : Heap} {w : World} (r : Rel B m H w) {e : Env} {a : Act} (he : EnvAll m (cellsIn w) e a) {x : ResultVar} {rs : List ARes} {l : List ResultVar} (hx : cmpRes P (x :: l) = some rs) :
    ∃ y rest, rs = y :: rest ∧ cmpRes P l = some rest ∧ ∀ v, evRes1 e H y = some v → ∃ u, (resOf a.tmps x).run P w = .ok u w ∧ VRA m (cellsIn w) v u := by
  cases x with
  | tmp t =>
    simp only [cmpRes] at hx
    split at hx
    · rename_i rest' hr
      injection hx with hx
      refine ⟨_, _, hx.symm, hr, fun v hv => ?_⟩
      simp only [evRes1, Option.some.injEq] at hv
      subst hv
      exact ⟨_, rfl, he t⟩
    · cases hx
  | cell c t =>
    simp only [cmpRes] at hx
    split at hx
    · rename_i g n rest' hg hn hr
      split at hx
      · injection hx with hx
        refine ⟨_, _, hx.symm, hr, fun v hv => ?_⟩
        simp only [evRes1, ev, Opd.ev] at hv
        generalize hec : e c = ec at hv
        have hc := he c
        rw [hec] at hc
        split at hv <;> try (cases hv; done)
        rename_i v0 H0 hv0
        injection hv with hv; subst hv
        have got : ∃ u, (Instr.loadAt t (a.tmps.getD c undef)).run P w = .ok u w ∧ VRA m (cellsIn w) v0 u := by
          split at hv0 <;> try (cases hv0; done)
          · rename_i b i f
            split at hv0 <;> try (cases hv0; done)
            rename_i q hq
            split at hv0 <;> try (cases hv0; done)
            rename_i hf
            split at hv0 <;> try (cases hv0; done)
            rename_i v1 hv1
            injection hv0 with hv0
            injection hv0 with h1 h2
            subst h1
            exact load_sound r hg hn hc hq hf hv1
          · rename_i q f
            split at hv0 <;> try (cases hv0; done)
            rename_i hf
            split at hv0 <;> try (cases hv0; done)
            rename_i v1 hv1
            injection hv0 with hv0
            injection hv0 with h1 h2
            subst h1
            exact loadF_sound hg hn hc.inv_c hf hv1
        have isPtr : ∃ A, a.tmps.getD c undef = .pointer (some A) := by
          have hva : ∃ va, va = a.tmps.getD c undef := ⟨_, rfl⟩
          obtain ⟨va, hva⟩ := hva
          rw [← hva] at hc ⊢
          clear hva
          split at hv0 <;> try (cases hv0; done)
          · cases hc with
            | c hc => cases hc; exact ⟨_, rfl⟩
          · cases hc with
            | c hc => cases hc; exact ⟨_, rfl⟩
        obtain ⟨u, k1, k2⟩ := got
        refine ⟨u, ?_, k2⟩
        obtain ⟨A, hA⟩ := isPtr
        show (do loadVar t (← asAddr (a.tmps.getD c undef)) : Sem Value).run P w = _
        rw [hA] at k1 ⊢
        simp only [Instr.loadAt, Instr.sureAddr, asAddr] at k1 ⊢
        exact k1
      · cases hx
    · cases hx


theorem resL_sound {B : Nat} {m : LMap} {H : Heap} {w : World} (r : Rel B m H w) {e : Env} {a : Act} (he : EnvAll m (cellsIn w) e a) : ∀ {l : List ResultVar} {rs : List ARes}, cmpRes P l = some rs → ∀ {vs : List AVal}, rs.mapM (evRes1 e H) = some vs →
    ∃ us, (l.mapM (resOf a.tmps)).run P w = .ok us w ∧ All2 (VRA m (cellsIn w)) vs us
  | [], rs, h, vs, hv => by
    simp only [cmpRes, Option.some.injEq] at h
    subst h
    simp at hv
    subst hv
    exact ⟨[], by simp, .nil⟩
  | x :: l, rs, h, vs, hv => by
    obtain ⟨y, rest, rfl, hr, h1⟩ := res1_sound r he h
    simp only [List.mapM_cons, Option.bind_eq_bind, Option.pure_def] at hv
    cases hy : evRes1 e H y with
    | none => simp [hy] at hv
    | some v =>
      cases hm : rest.mapM (evRes1 e H) with
      | none => simp [hy, hm] at hv
      | some vs' =>
        simp [hy, hm] at hv
        subst hv
        obtain ⟨u, k1, k2⟩ := h1 v hy
        obtain ⟨us, k3, k4⟩ := resL_sound r he hr hm
        refine ⟨u :: us, ?_, .cons k2 k4⟩
        simp [List.mapM_cons, k1, k3]

theorem results_sound {B : Nat} {m : LMap} {H : Heap} {w : World} (r : Rel B m H w) {e : Env} {a : Act} (he : EnvAll m (cellsIn w) e a) {fn : Func} {rs : List ARes} (h : cmpRes P fn.results.toList = some rs) {v : AVal} (hv : evRes e H rs = some v) :
    ∃ u, (results fn a.tmps).run P w = .ok u w ∧ VRA m (cellsIn w) v u := by
  have hall : ∃ vs, rs.mapM (evRes1 e H) = some vs ∧ (v = .tup vs ∧ vs.length ≠ 1 ∨ vs = [v]) := by
    unfold evRes at hv
    split at hv
    · rename_i x
      exact ⟨[v], by simp [hv], .inr rfl⟩
    · rename_i hne
      split at hv
      · rename_i vs hvs
        injection hv with hv
        subst hv
        refine ⟨vs, hvs, .inl ⟨rfl, fun hl => ?_⟩⟩
        have hlen : rs.length = vs.length := by
          clear h he hne hl
          induction rs generalizing vs with
          | nil => simp at hvs; subst hvs; rfl
          | cons y rest ih =>
            simp only [List.mapM_cons, Option.bind_eq_bind, Option.pure_def] at hvs
            cases hy : evRes1 e H y with
            | none => simp [hy] at hvs
            | some v =>
              cases hm : rest.mapM (evRes1 e H) with
              | none => simp [hy, hm] at hvs
              | some vs' =>
                simp [hy, hm] at hvs
                subst hvs
                simp [ih vs' hm]
        rw [hl] at hlen
        cases rs with
        | nil => simp at hlen
        | cons x t => cases t with
          | nil => exact hne x rfl
          | cons _ _ => simp at hlen
      · cases hv
  obtain ⟨vs, hvs, hv2⟩ := hall
  obtain ⟨us, k1, k2⟩ := resL_sound r he h hvs
  have hrun : (results fn a.tmps).run P w = .ok (if h : us.toArray.size = 1 then us.toArray[0] else .tuple us.toArray) w := by
    rw [results_eq]
    simp [Array.mapM_eq_mapM_toList, k1]
  refine ⟨_, hrun, ?_⟩
  have hl := k2.length
  rcases hv2 with ⟨rfl, hne⟩ | rfl
  · rw [dif_neg (by simpa [← hl] using hne)]
    refine .tup (by simpa using hl) fun i x u hx hu => ?_
    obtain ⟨u', hu', hr⟩ := k2.get hx
    simp at hu
    rw [hu] at hu'
    injection hu' with hu'
    subst hu'
    exact hr
  · obtain ⟨u, rfl, hu⟩ := k2.inv_single
    simpa using hu

/-! ### The whole -/
theorem exitThen {x : AExit} (hx : x ≠ .normal) {K : Act → World → Prop} {Q : Exit → Act → World → Prop} {a : Act} {w : World} (h : Q x.go a w) : Exit.then K Q x.go a w := by
  cases x with
  | normal => exact absurd rfl hx
  | exit => exact h
  | ret => exact h

theorem VRA.empty0 {m : LMap} {σ : Mem} {y : Cell} {v : Value} {sz : Nat} (h : VRA m σ (.c y) v) (h1 : y = .nilS ∨ y = .zer sz) : VRA m σ (.c (.lst sz [])) v := by
  rcases h1 with rfl | rfl
  · cases h with | c h => cases h; exact .c .lstN
  · cases h with | c h => exact .c (weak_sound rfl h)

theorem sound {G : Prog} (hG : GOk P G) {j : J} (h : Ev G j) : JSound P j := by
  induction h with
  | nil => exact .nil
  | op hg _ hev _ ih => exact .go hg (.ev hev) ih
  | opF hg _ hev _ ih =>
    obtain ⟨v0, E, h1, h2⟩ := evF_some hev
    exact .go hg (.evF h1 h2 rfl) ih
  | @fz t c e H x e' H' b k _ hk ho hl _ ih =>
    intro N code hc B m w a Q r he hN hQ
    have hkill : H.kill b = H.set b { k with live := false } := by simp [Heap.kill, hk]
    rw [hkill] at ih
    cases hm : m b with
    | some L =>
      have s := St.freeze r hm hk ho hl
      exact ih N code hc B _ w a Q s.rel (fun t => (he t).frz r hm hk hl) hN fun m' w' a' s' e2 d2 z2 => hQ m' w' a' (s.trans r s') e2 d2 z2
    | none =>
      have s := St.freeze0 r hk
      exact ih N code hc B _ w a Q s.rel (fun t => (he t).frz0 hm) hN fun m' w' a' s' e2 d2 z2 => hQ m' w' a' (s.trans r s') e2 d2 z2
  | @fzH t c e H x e' H' b k _ hk ho hl _ ih =>
    intro N code hc B m w a Q r he hN hQ
    cases hm : m b with
    | some L =>
      have s := St.freezeH r hm hk ho hl
      exact ih N code hc B _ w a Q s.rel (fun t => (he t).frz r hm hk hl) hN fun m' w' a' s' e2 d2 z2 => hQ m' w' a' (s.trans r s') e2 d2 z2
    | none =>
      have s := St.freezeH0 r hm hk
      exact ih N code hc B _ w a Q s.rel (fun t => (he t).frz0 hm) hN fun m' w' a' s' e2 d2 z2 => hQ m' w' a' (s.trans r s') e2 d2 z2
  | @fz0 t c e H x e' H' y z hy hz _ ih =>
    intro N code hc B m w a Q r he hN hQ
    refine ih N code hc B m w a Q r (fun s => ?_) hN hQ
    unfold upd
    split
    · rename_i hs
      subst hs
      have h2 := he s
      rw [hy] at h2
      rcases hz with rfl | ⟨sz, rfl, h1⟩
      · exact h2
      · exact h2.empty0 h1
    · exact he s
  | off hb hg _ ih => exact .off (by intro h; simp only [AInstr.erase] at h; rw [h] at hb; cases hb) hg ih
  | opCall hg hop hfo _ hpre _ ihc ih => exact .go hg (.call hop hfo ihc hpre) ih
  | skip =>
    intro N code hc B m w a Q r he hN hQ
    have := cmp_skip hc; subst this
    exact ⟨wp_skip (hQ m w a (St.refl r) he rfl rfl), fun _ h => by cases h⟩
  | @region l d e H e' H' _ ih =>
    intro N code hc B m w a Q r he hN hQ
    obtain ⟨id, ops, rfl, hl, hd⟩ := cmp_region hc
    refine ⟨?_, fun _ h => by cases h⟩
    cases d with
    | false =>
      refine wp_region ?_
      have := trace_text ih 0 (by simpa using hl) B m w a Q r he hN hQ
      rw [Nat.sub_zero] at this
      rw [List.range_eq_range']
      exact this
    | true =>
      refine wp_region_any hG.mixed ?_
      have s0 : St B H m w H m w.drew := St.drew r
      refine draw_sound (m0 := m) (w0 := w.drew) ih hl (hd rfl) s0.rel he hN fun m' w' a' hst => hQ m' w' a' (s0.trans r hst)
  | @seq x y e H e1 H1 ex e' H' _ _ ih1 ih2 =>
    intro N code hc B m w a Q r he hN hQ
    obtain ⟨c1, c2, rfl, h1, h2⟩ := cmp_seq hc
    refine ⟨wp_seq (ih1 N c1 h1 B m w a _ r he hN fun m1 w1 a1 s1 e1 d1 z1 => ?_).1, fun _ h => by cases h⟩
    exact (ih2 N c2 h2 B m1 w1 a1 Q s1.rel e1 (by rw [z1]; exact hN) fun m2 w2 a2 s2 e2 d2 z2 => hQ m2 w2 a2 (s1.trans r s2) e2 (d2.trans d1) (z2.trans z1)).1
  | @seqOut x y e H ex e' H' hx _ ih =>
    intro N code hc B m w a Q r he hN hQ
    obtain ⟨c1, c2, rfl, h1, h2⟩ := cmp_seq hc
    exact ⟨wp_seq (ih N c1 h1 B m w a _ r he hN fun m1 w1 a1 s1 e1 d1 z1 => exitThen hx (hQ m1 w1 a1 s1 e1 d1 z1)).1, fun _ h => by cases h⟩
  | @cond c x y t e H ex e' H' hcv _ ih =>
    intro N code hc B m w a Q r he hN hQ
    obtain ⟨o, c1, c2, rfl, ho, h1, h2⟩ := cmp_cond hc
    have hv := opd_c (m := m) (σ := cellsIn w) ho (he.on _) hcv
    refine ⟨wp_cond hv.inv_bool ?_, fun _ h => by cases h⟩
    cases t with
    | true => exact (ih N c1 (by simpa using h1) B m w a Q r he hN hQ).1
    | false => exact (ih N c2 (by simpa using h2) B m w a Q r he hN hQ).1
  | @block id x e H ex e' H' _ hne ih =>
    intro N code hc B m w a Q r he hN hQ
    obtain ⟨c1, rfl, h1⟩ := cmp_block hc
    refine ⟨wp_block (ih N c1 h1 B m w a _ r he hN fun m1 w1 a1 s1 e1 d1 z1 => ?_).1, fun _ h => by cases h⟩
    have := hQ m1 w1 a1 s1 e1 d1 z1
    cases ex with
    | normal => exact this
    | ret => exact this
    | exit id' =>
      simp only [AExit.go, Exit.inBlock]
      rw [if_neg (by intro h; subst h; exact hne rfl)]
      exact this
  | @blockExit id x e H e' H' _ ih =>
    intro N code hc B m w a Q r he hN hQ
    obtain ⟨c1, rfl, h1⟩ := cmp_block hc
    refine ⟨wp_block (ih N c1 h1 B m w a _ r he hN fun m1 w1 a1 s1 e1 d1 z1 => ?_).1, fun _ h => by cases h⟩
    simp only [AExit.go, Exit.inBlock, if_true]
    exact hQ m1 w1 a1 s1 e1 d1 z1
  | @loop x e H e1 H1 ex e' H' _ _ ih1 ih2 =>
    intro N code hc B m w a Q r he hN hQ
    obtain ⟨c1, rfl, h1⟩ := cmp_loop hc
    have hin : InLoop P c1 Q a w := by
      refine InLoop.step (ih1 N c1 h1 B m w a _ r he hN fun m1 w1 a1 s1 e1 d1 z1 => ?_).1
      exact (ih2 N (.loop c1) hc B m1 w1 a1 Q s1.rel e1 (by rw [z1]; exact hN) fun m2 w2 a2 s2 e2 d2 z2 => hQ m2 w2 a2 (s1.trans r s2) e2 (d2.trans d1) (z2.trans z1)).2 c1 rfl
    exact ⟨hin.loop, fun body hb => by injection hb with hb; subst hb; exact hin⟩
  | @loopOut x e H ex e' H' hx _ ih =>
    intro N code hc B m w a Q r he hN hQ
    obtain ⟨c1, rfl, h1⟩ := cmp_loop hc
    have hin : InLoop P c1 Q a w := by
      refine InLoop.step (ih N c1 h1 B m w a _ r he hN fun m1 w1 a1 s1 e1 d1 z1 => exitThen hx (hQ m1 w1 a1 s1 e1 d1 z1)).1
    exact ⟨hin.loop, fun body hb => by injection hb with hb; subst hb; exact hin⟩
  | @exit id e H =>
    intro N code hc B m w a Q r he hN hQ
    have := cmp_exit hc; subst this
    exact ⟨wp_exit (hQ m w a (St.refl r) he rfl rfl), fun _ h => by cases h⟩
  | ret =>
    intro N code hc B m w a Q r he hN hQ
    have := cmp_ret hc; subst this
    exact ⟨wp_ret (hQ m w a (St.refl r) he rfl rfl), fun _ h => by cases h⟩
  | @call f fn args H x e' H' v hf _ hx hv ih =>
    have hc := hG.fn f fn hf
    unfold cmpFun at hc
    split at hc <;> try (cases hc; done)
    rename_i gf hgf
    split at hc <;> try (cases hc; done)
    rename_i c rs hbody hrs
    split at hc <;> try (cases hc; done)
    rename_i hname
    injection hc with hc
    obtain ⟨fres, fbody⟩ := fn
    simp only [AFun.erase, AFun.mk.injEq] at hc
    obtain ⟨hres, hcode⟩ := hc
    subst hres
    refine ⟨⟨gf, hgf, by rw [hbody]; rfl, by simpa using hname⟩, fun B m w vs r hargs => ?_⟩
    refine calls_of_wp hgf hbody ?_
    have he : EnvAll m (cellsIn w) (initEnv args) { tmps := vs ++ Array.replicate (gf.ntmps - vs.size) undef, defers := [] } := fun t => by
      have hl := hargs.length
      simp only [initEnv, List.getD_eq_getElem?_getD, Array.getD_eq_getD_getElem?]
      cases hx : args[t]? with
      | some x =>
        obtain ⟨u, hu, hr⟩ := hargs.get hx
        have ht : t < vs.size := by
          have := (List.getElem?_eq_some_iff.1 hu).1
          simpa using this
        rw [Array.getElem?_append_left ht]
        simp only [Array.getElem?_toList] at hu
        rw [hu]
        exact hr
      | none =>
        have ht : vs.size ≤ t := by
          have := List.getElem?_eq_none_iff.1 hx
          have : args.length = vs.size := by simpa using hl
          omega
        rw [Array.getElem?_append_right ht]
        have : ((Array.replicate (gf.ntmps - vs.size) undef)[t - vs.size]?).getD undef = undef := by
          by_cases h : t - vs.size < gf.ntmps - vs.size <;> simp [h]
        rw [this]
        exact VRA.undef
    refine (ih gf.ntmps c hcode B m w _ _ r he (by simp; omega) fun m' w' a' hst he' hd' _ => ?_).1
    obtain ⟨u, k1, k2⟩ := results_sound hst.rel he' hrs hv
    have : a'.defers = [] ∧ ∃ v', (results gf a'.tmps).run P w' = .ok v' w' ∧ (∃ u m'', Ending.returned v' = .returned u ∧ St B H m w H' m'' w' ∧ VRA m'' (cellsIn w') v u) :=
      ⟨hd', u, k1, u, m', rfl, hst, k2⟩
    rcases hx with rfl | rfl
    · exact this
    · exact this
  | prim h => exact hG.prim _ _ _ _ _ h

end Go.Proofs.YtpjbjdicdjlmeaaGreatDoor.Eng
