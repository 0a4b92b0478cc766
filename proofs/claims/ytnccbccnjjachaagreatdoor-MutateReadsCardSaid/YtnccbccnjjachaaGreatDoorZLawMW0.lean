/- The law MutateWins: its call comes to true. -/
import Derived.Test.YtnccbccnjjachaaGreatDoorZLawM1
import Derived.Test.YtnccbccnjjachaaGreatDoorZItemS
import Derived.Test.YtnccbccnjjachaaGreatDoorZDigR
import Derived.Test.YtnccbccnjjachaaGreatDoorZLitBw
namespace Go.Proofs.YtnccbccnjjachaaGreatDoor.Eng
open Go
set_option linter.unusedVariables false
set_option linter.unusedSimpArgs false

theorem small_last {s : State} (h : Small s) (dv : Int) : lastL s.seen dv ≤ 40 := by
  have h0 := (lastL_le (d := dv) h.good.norm.right).1
  rcases Int.lt_or_le 0 (lastL s.seen dv) with h' | h'
  · exact (h.dots _ (lastL_has h.good.norm.right h')).2.2.2
  · omega
theorem badOp_no {dv : Int} {o : OpR} (h1 : 0 ≤ dv ∧ dv < 8) (h2 : 1 ≤ o.kind ∧ o.kind ≤ 5) (h3 : o.key.size ≤ 40) (h4 : o.item.size ≤ 200) (h5 : o.kind = 4 → -1099511627776 ≤ o.n ∧ o.n ≤ 1099511627776) : badOp dv o = false := by
  unfold badOp
  simp only [Bool.or_eq_false_iff, Bool.and_eq_false_iff, decide_eq_false_iff_not]
  by_cases h4' : o.kind = 4
  · obtain ⟨a, b⟩ := h5 h4'
    exact ⟨⟨⟨⟨⟨⟨by omega, by omega⟩, by omega⟩, by omega⟩, by omega⟩, .inr (by omega)⟩, .inr ⟨by omega, by omega⟩⟩
  · exact ⟨⟨⟨⟨⟨⟨by omega, by omega⟩, by omega⟩, by omega⟩, by omega⟩, .inr (by omega)⟩, .inl h4'⟩
theorem large_no {s : State} (h : Small s) {dv : Int} {o : OpR} (hk : o.kind ≠ 4) : (makes o && largeF (madeF s dv o)) = false := by
  have h1 := small_last h dv
  have h2 : (madeF s dv o).n = lastL s.seen dv + 1 := rfl
  have h3 : (madeF s dv o).num = 0 := by unfold madeF; simp [hk]
  have : largeF (madeF s dv o) = false := by
    unfold largeF
    rw [h2, h3]
    simp
    omega
  rw [this, Bool.and_false]
/-- A deed that makes a fact, and counts nothing, is done. -/
theorem doL_done {s : State} (h : Small s) {dv : Int} {o : OpR} (h1 : 0 ≤ dv ∧ dv < 8) (h2 : o.kind = 1 ∨ o.kind = 2) (h3 : o.key.size ≤ 40) (h4 : o.item.size ≤ 200) :
    badOp dv o = false ∧ (makes o && largeF (madeF s dv o)) = false ∧ makes o = true ∧ doL s dv o = (deltaL s dv o, 0) := by
  have hb : badOp dv o = false := badOp_no h1 (by omega) h3 h4 (by omega)
  have hl := large_no h (dv := dv) (o := o) (by omega)
  have hm : makes o = true := by unfold makes; rcases h2 with h | h <;> rw [h] <;> rfl
  refine ⟨hb, hl, hm, doL_ok hb (fun h => by rw [hm] at h; cases h.2) hl ?_⟩
  have := h.sizes
  omega
theorem bytesLess_xy : ∀ c : Fin 256, Op.bytesLess (⟨#[120]⟩ : ByteArray).toList ((⟨#[121]⟩ : ByteArray) ++ digD c.val).toList = true := by decide +kernel

/-- Of two that set apart both texts are there. -/
theorem both_texts {s : State} (h : Small s) {key x y : ByteArray} (hk : key.size ≤ 40) (hx : x.size ≤ 200) (hy : y.size ≤ 200) (hlt : Op.bytesLess x.toList y.toList = true) :
    itemsL (joinL (joinL s (deltaL s 2 ⟨1, key, x, 0⟩)) (deltaL s 3 ⟨1, key, y, 0⟩)) key 1 = [x, y] := by
  obtain ⟨bx, lx, mx, _⟩ := doL_done h (dv := 2) (o := ⟨1, key, x, 0⟩) (by omega) (.inl rfl) hk hx
  obtain ⟨by', ly, my, _⟩ := doL_done h (dv := 3) (o := ⟨1, key, y, 0⟩) (by omega) (.inl rfl) hk hy
  have hg := h.good
  have gx := delta_good hg bx lx
  have gy := delta_good hg by' ly
  have sx : Agree s (deltaL s 2 ⟨1, key, x, 0⟩) := deed_agree hg
  have sy : Agree s (deltaL s 3 ⟨1, key, y, 0⟩) := deed_agree hg
  have xy : Agree (deltaL s 2 ⟨1, key, x, 0⟩) (deltaL s 3 ⟨1, key, y, 0⟩) := deeds_agree (by omega) _ _
  have g2 := joinL_good hg gx
  have gu := joinL_good g2 gy
  have hdx : (madeF s 2 ⟨1, key, x, 0⟩).dot.dev = 2 := rfl
  have hdy : (madeF s 3 ⟨1, key, y, 0⟩).dot.dev = 3 := rfl
  have hmem : ∀ f, f ∈ (joinL (joinL s (deltaL s 2 ⟨1, key, x, 0⟩)) (deltaL s 3 ⟨1, key, y, 0⟩)).facts.filter (Fact.of key 1) ↔ f ∈ [madeF s 2 ⟨1, key, x, 0⟩, madeF s 3 ⟨1, key, y, 0⟩] := fun f => by
    rw [List.mem_filter, mem_join g2 gy (sy.join xy), deed_facts hg bx lx, delta_facts, delta_seen hg by' ly, joinL_seen hg.norm gx.norm, Bool.or_eq_true, delta_seen hg bx lx]
    simp only [List.mem_cons, List.not_mem_nil, or_false]
    constructor
    · rintro ⟨⟨h1, _, _⟩, h2⟩
      rcases h1 with (⟨h1, h3⟩ | ⟨_, h3⟩) | ⟨_, h3⟩
      · exfalso
        simp [Fact.of] at h2
        simp [goesF, h2] at h3
      · exact .inl h3
      · exact .inr h3
    · rintro (rfl | rfl)
      · refine ⟨⟨.inl (.inr ⟨mx, rfl⟩), fun _ => .inr ⟨mx, rfl⟩, fun h3 => ?_⟩, by simp [Fact.of, madeF]⟩
        exfalso
        rcases h3 with ⟨g, hg1, _, hg3⟩ | ⟨_, h3⟩
        · have := hg.has g hg1
          rw [hg3, new_dot hg] at this
          cases this
        · have := congrArg Dot.dev h3
          rw [hdx, hdy] at this
          omega
      · refine ⟨⟨.inr ⟨my, rfl⟩, fun h3 => ?_, fun _ => ⟨my, rfl⟩⟩, by simp [Fact.of, madeF]⟩
        exfalso
        rcases h3 with h3 | ⟨g, hg1, _, hg3⟩ | ⟨_, h3⟩
        · rw [new_dot hg] at h3; cases h3
        · have := hg.has g hg1
          rw [hg3, new_dot hg] at this
          cases this
        · have := congrArg Dot.dev h3
          rw [hdx, hdy] at this
          omega
  have heq := asc_ext (gu.asc.sublist List.filter_sublist) (show [madeF s 2 ⟨1, key, x, 0⟩, madeF s 3 ⟨1, key, y, 0⟩].Pairwise FLt by
    simp only [List.pairwise_cons, List.mem_singleton, forall_eq, List.not_mem_nil, false_implies, implies_true, List.Pairwise.nil, and_true]
    exact .inl (by rw [hdx, hdy]; omega)) hmem
  unfold itemsL
  rw [heq]
  show insT y (insT x []) = [x, y]
  simp [insT, hlt]

/-- Who adds keeps what another one takes away. -/
theorem add_wins {s : State} (h : Small s) {key item : ByteArray} (hk : key.size ≤ 40) (hi : item.size ≤ 200) {o : OpR} (hm : makes o = false) (hz : (doL s 1 o).2 = 0) :
    item ∈ itemsL (joinL (joinL s (deltaL s 0 ⟨2, key, item, 0⟩)) (deltaL s 1 o)) key 2 := by
  obtain ⟨ba, la, ma, _⟩ := doL_done h (dv := 0) (o := ⟨2, key, item, 0⟩) (by omega) (.inr rfl) hk hi
  obtain ⟨bo, lo, _, _⟩ := doL_zero hz
  have hg := h.good
  have ga := delta_good hg ba la
  have go := delta_good hg bo lo
  have g1 := joinL_good hg ga
  have hof : ∀ f, ¬ f ∈ (deltaL s 1 o).facts := fun f hf => by
    have := (delta_facts.1 hf).1
    rw [hm] at this; cases this
  rw [mem_itemsL]
  refine ⟨madeF s 0 ⟨2, key, item, 0⟩, ?_, by simp [Fact.of, madeF], rfl⟩
  rw [mem_join g1 go (fun f _ g hg' => absurd hg' (hof g))]
  have hin : madeF s 0 ⟨2, key, item, 0⟩ ∈ (joinL s (deltaL s 0 ⟨2, key, item, 0⟩)).facts := (deed_facts hg ba la).2 (.inr ⟨ma, rfl⟩)
  refine ⟨.inl hin, fun _ => hin, fun h3 => ?_⟩
  exfalso
  rcases (delta_seen hg bo lo _).1 h3 with ⟨g, hg1, _, hg3⟩ | ⟨h3, _⟩
  · have := hg.has g hg1
    rw [hg3, new_dot hg] at this
    cases this
  · rw [hm] at h3; cases h3
theorem add_alone {s : State} (h : Small s) {key item : ByteArray} (hk : key.size ≤ 40) (hi : item.size ≤ 200) : item ∈ itemsL (joinL s (deltaL s 0 ⟨2, key, item, 0⟩)) key 2 := by
  obtain ⟨ba, la, ma, _⟩ := doL_done h (dv := 0) (o := ⟨2, key, item, 0⟩) (by omega) (.inr rfl) hk hi
  rw [mem_itemsL]
  exact ⟨madeF s 0 ⟨2, key, item, 0⟩, (deed_facts h.good ba la).2 (.inr ⟨ma, rfl⟩), by simp [Fact.of, madeF], rfl⟩

end Go.Proofs.YtnccbccnjjachaaGreatDoor.Eng
