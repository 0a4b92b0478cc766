/- The engine, part 23: arguments in memory, read as closed values. No statement of the seat is proved here. -/
import Derived.Test.YtpjbjdicdjlmeaaDoorZEng22
namespace Go.Proofs.YtpjbjdicdjlmeaaDoor.Eng
open Go
set_option linter.unusedVariables false
set_option linter.unusedSimpArgs false

variable {P : Program}

theorem mapM_get {α β : Type} {f : α → Option β} : ∀ {l : List α} {r : List β}, l.mapM f = some r → ∀ {i : Nat} {a : α}, l[i]? = some a → ∃ b, f a = some b
  | [], r, h, i, a, hi => by simp at hi
  | x :: l, r, h, i, a, hi => by
    simp only [List.mapM_cons, Option.bind_eq_bind, Option.pure_def] at h
    cases hx : f x with
    | none => simp [hx] at h
    | some y =>
      cases hl : l.mapM f with
      | none => simp [hx, hl] at h
      | some ys =>
        cases i with
        | zero => simp at hi; subst hi; exact ⟨y, hx⟩
        | succ i => exact mapM_get hl (by simpa using hi)

theorem cells_get {w : World} {base : Nat} {a : Addr} {n : Nat} {vs : List Value} (h : w.cells? base a n = some vs) : vs.length = n ∧ ∀ (j : Nat) v, vs[j]? = some v → w.cell? (a.add j) = some v := by
  unfold World.cells? at h
  split at h <;> try (cases h; done)
  have key : ∀ (l : List Nat) (vs : List Value), (l.mapM fun i => w.cell? (a.add i)) = some vs → vs.length = l.length ∧ ∀ (j : Nat) v i, vs[j]? = some v → l[j]? = some i → w.cell? (a.add i) = some v := by
    intro l
    induction l with
    | nil => intro vs h; simp at h; subst h; exact ⟨rfl, fun j v i h => by simp at h⟩
    | cons x l ih =>
      intro vs h
      simp only [List.mapM_cons, Option.bind_eq_bind, Option.pure_def] at h
      cases hx : w.cell? (a.add x) with
      | none => simp [hx] at h
      | some y =>
        cases hl : l.mapM fun i => w.cell? (a.add i) with
        | none => simp [hx, hl] at h
        | some ys =>
          simp [hx, hl] at h
          subst h
          obtain ⟨h1, h2⟩ := ih ys hl
          refine ⟨by simp [h1], fun j v i hv hi => ?_⟩
          cases j with
          | zero => simp at hv hi; subst hv; subst hi; exact hx
          | succ j => exact h2 j v i (by simpa using hv) (by simpa using hi)
  obtain ⟨h1, h2⟩ := key _ _ h
  refine ⟨by simpa using h1, fun j v hv => h2 j v j hv ?_⟩
  have : j < vs.length := (List.getElem?_eq_some_iff.1 hv).1
  rw [h1] at this
  simp at this
  simp [this]

theorem cell_spot {w : World} {a : Addr} {v : Value} (h : w.cell? a = some v) : a.spot = none ∧ a.block < w.heap.size := by
  unfold World.cell? at h
  split at h
  · rename_i c t z hc
    split at h
    · cases h
    · rename_i hs
      refine ⟨by simpa using hs, (Array.getElem?_eq_some_iff.1 hc).1⟩
  · cases h

/-- All memory, as what nobody writes. -/
abbrev allOf (w : World) : LMap := flat fun g => g < w.heap.size

/-- Fields one behind the other. -/
theorem entryFields {w : World} {X : Type} {tr : TypeId → List Value → Option (DataW X × List MemPlace)} {d : Nat}
    (one : ∀ (d' : Nat) (t : TypeId) (s : D), d' ≤ d → descOf P d' t = some s → ∀ (vs : List Value) x, tr t vs = some x → ∃ cs, All2 (VR (allOf w) (cellsIn w)) cs vs ∧ TyD s cs) :
    ∀ (d' : Nat) (fs : List Field) (off : Nat) (l : List D), d' ≤ d + 1 → descFs P d' off fs = some l → ∀ (vs : List Value) ys, vs.length = off + D.sizes l →
      (fs.mapM fun f => tr f.type ((vs.drop f.offset).take (P.cellsOf f.type))) = some ys → ∃ cs, All2 (VR (allOf w) (cellsIn w)) cs (vs.drop off) ∧ TyD (.st l) cs
  | d', [], off, l, hd', hl, vs, ys, hv, hm => by
    have : l = [] := by cases d' <;> (simp [descFs] at hl; exact hl)
    subst this
    refine ⟨[], ?_, .st0⟩
    rw [List.drop_eq_nil_of_le (by simp [hv, D.sizes])]
    exact .nil
  | 0, f :: fs, off, l, hd', hl, vs, ys, hv, hm => by simp [descFs] at hl
  | d' + 1, f :: fs, off, l, hd', hl, vs, ys, hv, hm => by
    unfold descFs at hl
    split at hl <;> try (cases hl; done)
    rename_i hoff
    split at hl <;> try (cases hl; done)
    rename_i x hx
    split at hl <;> try (cases hl; done)
    rename_i hsz
    split at hl <;> try (cases hl; done)
    rename_i l' hl'
    injection hl with hl; subst hl
    simp only [List.mapM_cons, Option.bind_eq_bind, Option.pure_def] at hm
    cases h1 : tr f.type ((vs.drop f.offset).take (P.cellsOf f.type)) with
    | none => simp [h1] at hm
    | some y =>
      cases h2 : fs.mapM fun f => tr f.type ((vs.drop f.offset).take (P.cellsOf f.type)) with
      | none => simp [h1, h2] at hm
      | some ys' =>
        obtain ⟨c1, a1, t1⟩ := one d' f.type x (by omega) hx _ y h1
        obtain ⟨c2, a2, t2⟩ := entryFields one d' fs (off + x.size) l' (by omega) hl' vs ys' (by simp only [D.sizes] at hv; omega) h2
        refine ⟨c1 ++ c2, ?_, .st t1 t2⟩
        have : vs.drop off = (vs.drop f.offset).take (P.cellsOf f.type) ++ vs.drop (off + x.size) := by
          rw [hoff, hsz, ← List.drop_drop, List.take_append_drop]
        rw [this]
        exact a1.append a2

/-- What an argument reads as in memory, as closed cells. -/
theorem entry {w : World} {X : Type} {enc : TypeId × Value → X} : ∀ (fuel d : Nat) (t : TypeId) (s : D), descOf P d t = some s → ∀ (vs : List Value) x, DataW.trod enc P w 0 (fun _ => true) true fuel t vs = some x →
      ∃ cs, All2 (VR (allOf w) (cellsIn w)) cs vs ∧ TyD s cs := by
  intro fuel
  induction fuel with
  | zero => intro d t s hd vs x h; simp [DataW.trod] at h
  | succ fuel ih =>
    intro d t s hd vs x h
    cases d with
    | zero => simp [descOf] at hd
    | succ d =>
      have keep : ∀ (c : Cell) (v : Value), VR (allOf w) (cellsIn w) c v → TyD s [c] → ∃ cs, All2 (VR (allOf w) (cellsIn w)) cs [v] ∧ TyD s cs :=
        fun c v hv ht => ⟨[c], .single hv, ht⟩
      unfold descOf at hd
      unfold DataW.trod at h
      cases hu : P.underlying t with
      | none => simp [hu] at hd
      | some u =>
        cases u <;> simp only [hu] at hd <;> try (cases hd; done)
        all_goals simp only [hu] at h
        case bool =>
          split at hd <;> try (cases hd; done)
          injection hd with hd; subst hd
          rcases vs with _ | ⟨v, _ | ⟨_, _⟩⟩ <;> try (simp at h; done)
          cases v <;> try (simp at h; done)
          exact keep _ _ (.bool _) (.bool _)
        case int k =>
          split at hd <;> try (cases hd; done)
          injection hd with hd; subst hd
          rcases vs with _ | ⟨v, _ | ⟨_, _⟩⟩ <;> try (simp at h; done)
          cases v <;> try (simp at h; done)
          rename_i k' n
          simp only at h
          split at h <;> try (cases h; done)
          rename_i hk
          obtain ⟨rfl, hw⟩ := hk
          have hb : k'.min ≤ n ∧ n ≤ k'.max := by simpa [Lit.wf] using hw
          exact keep _ _ (.int _ _) (.int hb.1 hb.2)
        case string =>
          split at hd <;> try (cases hd; done)
          injection hd with hd; subst hd
          rcases vs with _ | ⟨v, _ | ⟨_, _⟩⟩ <;> try (simp at h; done)
          cases v <;> try (simp at h; done)
          simp only at h
          split at h <;> try (cases h; done)
          rename_i hs
          exact keep _ _ (.str _) (.str hs)
        case struct fs =>
          split at hd <;> try (cases hd; done)
          rename_i l hl
          split at hd <;> try (cases hd; done)
          rename_i hsz
          injection hd with hd; subst hd
          split at h <;> try (cases h; done)
          rename_i hlen
          cases hm : fs.toList.mapM fun f => DataW.trod enc P w 0 (fun _ => true) true fuel f.type ((vs.drop f.offset).take (P.cellsOf f.type)) with
          | none => rw [hm] at h; simp at h
          | some ys =>
            have := entryFields (P := P) (w := w) (tr := DataW.trod enc P w 0 (fun _ => true) true fuel) (d := d) (fun d' t s _ hs vs x hx => ih d' t s hs vs x hx) d fs.toList 0 l (by omega) hl vs ys (by omega) hm
            simpa using this
        case slice e =>
          split at hd <;> try (cases hd; done)
          rename_i y hy
          split at hd <;> try (cases hd; done)
          rename_i hsz
          injection hd with hd; subst hd
          obtain ⟨hs1, hs2, hs3⟩ := hsz
          rcases vs with _ | ⟨v, _ | ⟨_, _⟩⟩ <;> try (simp at h; done)
          cases v <;> try (simp at h; done)
          rename_i base len cap
          cases base with
          | none =>
            rcases len with _ | len <;> rcases cap with _ | cap <;> try (simp at h; done)
            exact keep _ _ .lstN (.slc (Nat.zero_le _) fun i r e => by simp at e)
          | some a =>
            simp only at h
            split at h <;> try (cases h; done)
            rename_i hcap
            obtain ⟨_, hc1, hc2⟩ := hcap
            cases hm : (List.range len).mapM fun i => (w.cells? 0 (a.add (i * P.cellsOf e)) (P.cellsOf e)).bind (DataW.trod enc P w 0 (fun _ => true) true fuel e) with
            | none => simp [hm] at h
            | some elems =>
              have each : ∀ i, ∃ cs : List Cell, i < len → ∃ us, w.cells? 0 (a.add (i * P.cellsOf e)) (P.cellsOf e) = some us ∧ All2 (VR (allOf w) (cellsIn w)) cs us ∧ TyD y cs := by
                intro i
                by_cases hi : i < len
                · obtain ⟨b, hb⟩ := mapM_get hm (i := i) (a := i) (by simp [hi])
                  cases hus : w.cells? 0 (a.add (i * P.cellsOf e)) (P.cellsOf e) with
                  | none => simp [hus] at hb
                  | some us =>
                    simp only [hus, Option.bind_some] at hb
                    obtain ⟨cs, h1, h2⟩ := ih d e y hy us b hb
                    exact ⟨cs, fun _ => ⟨us, rfl, h1, h2⟩⟩
                · exact ⟨[], fun h => absurd h hi⟩
              obtain ⟨f, hf⟩ := Classical.skolem.1 each
              have hget : ∀ (i : Nat) r, ((List.range len).map f)[i]? = some r → i < len ∧ r = f i := by
                intro i r hr
                have hi : i < len := by have := (List.getElem?_eq_some_iff.1 hr).1; simpa using this
                simp [hi] at hr
                exact ⟨hi, hr.symm⟩
              have spot : 0 < len → a.spot = none ∧ a.block < w.heap.size := by
                intro hl
                obtain ⟨us, h1, h2, h3⟩ := hf 0 hl
                obtain ⟨k1, k2⟩ := cells_get h1
                obtain ⟨v, hv⟩ : ∃ v, us[0]? = some v := ⟨us[0]'(by omega), by simp [show 0 < us.length by omega]⟩
                have hc := k2 0 v hv
                have ha : (a.add (0 * P.cellsOf e)).add 0 = a := by simp [Addr.add]
                rw [ha] at hc
                exact cell_spot hc
              obtain ⟨g, o, sp⟩ := a
              refine keep (.lst y.size ((List.range len).map f)) _ (VR.lst' (g := g) (o := o) (vs := fun i j => (w.cell? ⟨g, o + i * y.size + j, none⟩).getD undef) (by simp) hc1 hc2 (fun hr => ?_) (fun i r hr => ?_) (fun i r j x hr hx => ?_) (fun i r j x hr hx => ?_)) (.slc (by simp; omega) fun i r hr => ?_)
              · have hl : 0 < len := by
                  rcases Nat.eq_zero_or_pos len with h0 | h0
                  · subst h0; simp at hr
                  · exact h0
                have := spot hl
                simp only at this
                obtain ⟨h1, h2⟩ := this
                subst h1
                exact ⟨rfl, h2⟩
              · obtain ⟨hi, rfl⟩ := hget i r hr
                obtain ⟨us, h1, h2, h3⟩ := hf i hi
                exact h3.length
              · obtain ⟨hi, rfl⟩ := hget i r hr
                obtain ⟨us, h1, h2, h3⟩ := hf i hi
                have hsp := (spot (by omega)).1
                simp only at hsp
                subst hsp
                obtain ⟨v, hv, hr⟩ := h2.get hx
                have := (cells_get h1).2 j v hv
                rw [addr_add, addr_add, hs1] at this
                rw [cellsIn_cell, this]
                rfl
              · obtain ⟨hi, rfl⟩ := hget i r hr
                obtain ⟨us, h1, h2, h3⟩ := hf i hi
                have hsp := (spot (by omega)).1
                simp only at hsp
                subst hsp
                obtain ⟨v, hv, hr⟩ := h2.get hx
                have := (cells_get h1).2 j v hv
                rw [addr_add, addr_add, hs1] at this
                rw [this]
                exact hr
              · obtain ⟨hi, rfl⟩ := hget i r hr
                obtain ⟨us, h1, h2, h3⟩ := hf i hi
                exact h3

/-! ### Data behind shapes -/
theorem TyD.list {α : Type} {e : D} {f : α → List Cell} (hf : ∀ cs, TyD e cs → ∃ x, cs = f x) {cs : List Cell} (h : TyD (.slc e) cs) : ∃ l : List α, cs = [.lst e.size (l.map f)] ∧ l.length ≤ maxLen := by
  cases h with
  | slc hl h =>
    rename_i rows
    have : ∀ (rows : List (List Cell)), (∀ (i : Nat) r, rows[i]? = some r → TyD e r) → ∃ l : List α, rows = l.map f := by
      intro rows
      induction rows with
      | nil => intro _; exact ⟨[], rfl⟩
      | cons r rows ih =>
        intro h
        obtain ⟨x, hx⟩ := hf r (h 0 r rfl)
        obtain ⟨l, hl⟩ := ih fun i q e => h (i + 1) q (by simpa using e)
        exact ⟨x :: l, by simp [hx, hl]⟩
    obtain ⟨l, rfl⟩ := this rows h
    exact ⟨l, rfl, by simpa using hl⟩

end Go.Proofs.YtpjbjdicdjlmeaaDoor.Eng
