/- The engine, part 25: a law's arguments, as the claim's reader reads them. No statement of the seat is proved here. -/
import Derived.Test.YtpjbjdicdjlmeaaDoorZEng24
import Derived.WideShapes
namespace Go.Proofs.YtpjbjdicdjlmeaaDoor.Eng
open Go
set_option linter.unusedVariables false
set_option linter.unusedSimpArgs false

variable {P : Program} {w : World} {X : Type} {enc : TypeId × Value → X} {t : TypeId} {v : Value} {x : DataW X} {ps : List MemPlace} {s : D}

theorem entry_c (hd : descOf P 30 t = some s) (h : DataW.Trod enc P w 0 (fun _ => true) true t v x ps) (hv : v.cells = #[v]) : ∃ c, VRA (allOf w) (cellsIn w) (.c c) v ∧ TyD s [c] := by
  obtain ⟨fuel, hf⟩ := h
  rw [hv] at hf
  obtain ⟨cs, h1, h2⟩ := entry fuel 30 t s hd [v] _ hf
  cases h1 with
  | cons a b => cases b; exact ⟨_, .c a, h2⟩

theorem entry_st {fs : Array Field} (ht : P.underlying t = some (.struct fs)) (hd : descOf P 30 t = some s) {r : Reach} {b : Nat} (hw : Value.okWide P w r b t v) (h : DataW.Trod enc P w 0 (fun _ => true) true t v x ps) : ∃ cs, VRA (allOf w) (cellsIn w) (.agg cs) v ∧ TyD s cs := by
  obtain ⟨cs, rfl, _⟩ := Go.WideShapes.okWide_struct ht hw
  obtain ⟨fuel, hf⟩ := h
  obtain ⟨ds, h1, h2⟩ := entry fuel 30 t s hd cs.toList _ hf
  exact ⟨ds, .agg h1, h2⟩

theorem entry_slc {e : TypeId} (ht : P.underlying t = some (.slice e)) (hd : descOf P 30 t = some s) {r : Reach} {b : Nat} (hw : Value.okWide P w r b t v) (h : DataW.Trod enc P w 0 (fun _ => true) true t v x ps) : ∃ c, VRA (allOf w) (cellsIn w) (.c c) v ∧ TyD s [c] := by
  obtain ⟨a, len, cap, rfl⟩ := Go.WideShapes.okWide_slice ht hw
  exact entry_c hd h rfl

/-! ### Shapes and what they stand for -/
theorem TyD.ints {k : IntKind} {c : Cell} (h : TyD (.int k) [c]) : ∃ n, c = .int k n ∧ k.min ≤ n ∧ n ≤ k.max := by
  cases h; exact ⟨_, rfl, by assumption, by assumption⟩
theorem TyD.strs {c : Cell} (h : TyD .str [c]) : ∃ s, c = .str s ∧ s.size ≤ maxLen := by
  cases h; exact ⟨_, rfl, by assumption⟩
theorem TyD.bools {c : Cell} (h : TyD .bool [c]) : ∃ b, c = .bool b := by cases h; exact ⟨_, rfl⟩

theorem TyD.one {d : D} {cs : List Cell} (hd : d.size = 1) (h : TyD d cs) : ∃ c, cs = [c] ∧ TyD d [c] := by
  have := h.length
  rw [hd] at this
  obtain ⟨c, rfl⟩ := List.length_eq_one_iff.1 this
  exact ⟨c, rfl, h⟩
theorem TyD.nilF {cs : List Cell} (h : TyD (.st []) cs) : cs = [] := by cases h; rfl
theorem TyD.consF {x : D} {l : List D} {cs : List Cell} (h : TyD (.st (x :: l)) cs) : ∃ a b, cs = a ++ b ∧ TyD x a ∧ TyD (.st l) b := by
  cases h with
  | st h1 h2 => exact ⟨_, _, rfl, h1, h2⟩
theorem TyD.consF1 {x : D} {l : List D} {cs : List Cell} (hd : x.size = 1) (h : TyD (.st (x :: l)) cs) : ∃ c b, cs = c :: b ∧ TyD x [c] ∧ TyD (.st l) b := by
  obtain ⟨a, b, rfl, h1, h2⟩ := h.consF
  obtain ⟨c, rfl, h3⟩ := h1.one hd
  exact ⟨c, b, rfl, h3, h2⟩
theorem TyD.listQ {α : Type} {e : D} {f : α → List Cell} {Q : α → Prop} (hf : ∀ cs, TyD e cs → ∃ x, cs = f x ∧ Q x) {cs : List Cell} (h : TyD (.slc e) cs) : ∃ l : List α, cs = [.lst e.size (l.map f)] ∧ l.length ≤ maxLen ∧ ∀ x ∈ l, Q x := by
  cases h with
  | slc hl h =>
    rename_i rows
    have : ∀ (rows : List (List Cell)), (∀ (i : Nat) r, rows[i]? = some r → TyD e r) → ∃ l : List α, rows = l.map f ∧ ∀ x ∈ l, Q x := by
      intro rows
      induction rows with
      | nil => intro _; exact ⟨[], rfl, by simp⟩
      | cons r rows ih =>
        intro h
        obtain ⟨x, hx, hq⟩ := hf r (h 0 r rfl)
        obtain ⟨l, hl, hqs⟩ := ih fun i q e => h (i + 1) q (by simpa using e)
        exact ⟨x :: l, by simp [hx, hl], by simpa using ⟨hq, hqs⟩⟩
    obtain ⟨l, rfl, hq⟩ := this rows h
    exact ⟨l, rfl, by simpa using hl, hq⟩

end Go.Proofs.YtpjbjdicdjlmeaaDoor.Eng
