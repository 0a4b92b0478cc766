/- What a deed changes, by the document: plain lists, no program. No statement of the seat is proved here. -/
import Derived.Test.YtpjbjdicdjlmeaaGreatDoorZJoinT
import Derived.Test.YtpjbjdicdjlmeaaGreatDoorZFactR
namespace Go.Proofs.YtpjbjdicdjlmeaaGreatDoor.Eng
open Go
set_option linter.unusedVariables false
set_option linter.unusedSimpArgs false

def badOp (dev : Int) (o : OpR) : Bool :=
  decide (dev < 0) || decide (8 ≤ dev) || decide (o.kind < 1) || decide (5 < o.kind) || decide (40 < (o.key.size : Int)) || ((decide (o.kind = 1) || decide (o.kind = 2) || decide (o.kind = 3)) && decide (200 < (o.item.size : Int))) ||
    (decide (o.kind = 4) && (decide (o.n < -1099511627776) || decide (1099511627776 < o.n)))
def sumFrom (dev : Int) (o : OpR) : Int → List Fact → Int
  | n, [] => n
  | n, f :: l => sumFrom dev o (if goesF dev o f then W (n + f.num) else n) l
def sumL (l : List Fact) : Int := (l.map Fact.num).foldr (· + ·) 0
def goneL (s : State) (dev : Int) (o : OpR) : List Fact := s.facts.filter (goesF dev o)
def makes (o : OpR) : Bool := !decide (o.kind = 3) && !decide (o.kind = 5)
def madeF (s : State) (dev : Int) (o : OpR) : Fact :=
  ⟨dev, lastL s.seen dev + 1, o.key, if o.kind = 4 then 3 else o.kind, if o.kind = 4 then emptyB else o.item, if o.kind = 4 then sumFrom dev o o.n s.facts else 0⟩
def largeF (f : Fact) : Bool := decide (4503599627370496 < f.n) || decide (f.num < -1099511627776) || decide (1099511627776 < f.num)
def deltaL (s : State) (dev : Int) (o : OpR) : State :=
  if makes o then ⟨dotsL ((goneL s dev o).map Fact.dot ++ [(madeF s dev o).dot]), [madeF s dev o]⟩ else ⟨dotsL ((goneL s dev o).map Fact.dot), []⟩
/-- A deed's delta, or why there is none. -/
def doL (s : State) (dev : Int) (o : OpR) : State × Int :=
  if badOp dev o then (⟨[], []⟩, 1)
  else if goneL s dev o = [] ∧ makes o = false then (⟨[], []⟩, 2)
  else if makes o && largeF (madeF s dev o) then (⟨[], []⟩, 4)
  else if 400 < (joinL s (deltaL s dev o)).facts.length then (⟨[], []⟩, 4)
  else (deltaL s dev o, 0)

/-! ### The last dot of a device -/
theorem lastFrom_le {d m : Int} : ∀ {l : List Rn} {n : Int}, n ≤ m → (∀ r ∈ l, r.to ≤ m) → lastFrom d n l ≤ m
  | [], n, h, _ => h
  | r :: l, n, h, hr => by
    unfold lastFrom
    have := hr r (by simp)
    refine lastFrom_le ?_ (fun x hx => hr x (by simp [hx]))
    repeat' split
    all_goals omega
theorem lastFrom_ge {d : Int} : ∀ {l : List Rn} {n : Int}, n ≤ lastFrom d n l ∧ ∀ r ∈ l, r.dev = d → r.to ≤ lastFrom d n l
  | [], n => ⟨Int.le_refl _, by simp⟩
  | r :: l, n => by
    unfold lastFrom
    obtain ⟨h1, h2⟩ := lastFrom_ge (d := d) (l := l) (n := if r.dev = d then (if n < r.to then r.to else n) else n)
    refine ⟨?_, fun x hx hd => ?_⟩
    · refine Int.le_trans ?_ h1
      repeat' split
      all_goals omega
    · rcases List.mem_cons.1 hx with rfl | hx
      · refine Int.le_trans ?_ h1
        simp only [hd, if_true]
        split <;> omega
      · exact h2 x hx hd
theorem lastL_le {l : List Rn} {d : Int} (h : ∀ r ∈ l, r.Right) : 0 ≤ lastL l d ∧ lastL l d ≤ 4503599627370496 := ⟨lastFrom_ge.1, lastFrom_le (by omega) fun r hr => (h r hr).tm⟩
/-- Behind the last dot of a device there is none. -/
theorem lastL_none {l : List Rn} {d n : Int} (h : hasDot l ⟨d, n⟩ = true) : n ≤ lastL l d := by
  obtain ⟨r, hr, h1, h2, h3⟩ := hasDot_iff.1 h
  have := (lastFrom_ge (d := d) (l := l) (n := 0)).2 r hr h1
  simp only at h3
  unfold lastL
  omega

theorem lastFrom_mem {d : Int} : ∀ {l : List Rn} {n : Int}, lastFrom d n l = n ∨ ∃ r ∈ l, r.dev = d ∧ r.to = lastFrom d n l
  | [], n => .inl rfl
  | r :: l, n => by
    unfold lastFrom
    rcases lastFrom_mem (d := d) (l := l) (n := if r.dev = d then (if n < r.to then r.to else n) else n) with h | ⟨x, hx, h1, h2⟩
    · rw [h]
      split
      · split
        · rename_i h1 h2; exact .inr ⟨r, by simp, h1, rfl⟩
        · exact .inl rfl
      · exact .inl rfl
    · exact .inr ⟨x, by simp [hx], h1, h2⟩
/-- The last dot of a device is there. -/
theorem lastL_has {l : List Rn} {d : Int} (hr : ∀ r ∈ l, r.Right) (h : 0 < lastL l d) : hasDot l ⟨d, lastL l d⟩ = true := by
  rcases lastFrom_mem (d := d) (l := l) (n := 0) with h1 | ⟨r, h1, h2, h3⟩
  · unfold lastL at h; omega
  · exact hasDot_iff.2 ⟨r, h1, h2, by have := (hr r h1).ft; unfold lastL; simp only; omega, by unfold lastL; simp only; omega⟩

/-! ### What a delta is -/
def numOk (f : Fact) : Prop := -1099511627776 ≤ f.num ∧ f.num ≤ 1099511627776
theorem badOp_dev {dev : Int} {o : OpR} (h : badOp dev o = false) : 0 ≤ dev ∧ dev < 8 ∧ 1 ≤ o.kind ∧ o.kind ≤ 5 := by
  unfold badOp at h
  simp only [Bool.or_eq_false_iff, decide_eq_false_iff_not] at h
  omega
theorem madeF_dot_right {s : State} (hs : Norm s.seen) {dev : Int} {o : OpR} (h : badOp dev o = false) (hl : largeF (madeF s dev o) = false) : (ofDot (madeF s dev o).dot).right = true := by
  obtain ⟨h1, h2, _⟩ := badOp_dev h
  have h3 := (lastL_le (d := dev) hs.right).1
  simp only [largeF, madeF, Bool.or_eq_false_iff, decide_eq_false_iff_not] at hl
  obtain ⟨⟨hl, _⟩, _⟩ := hl
  have hl := of_decide_eq_false hl
  rw [Rn.right_iff]
  exact ⟨h1, h2, by simp only [ofDot, madeF, Fact.dot]; omega, Int.le_refl _, by simp only [ofDot, madeF, Fact.dot]; omega⟩
theorem Good.dots_right {s : State} (h : Good s) {f : Fact} (hf : f ∈ s.facts) : (ofDot f.dot).right = true := by
  obtain ⟨r, hr, h1, h2, h3⟩ := hasDot_iff.1 (h.has f hf)
  have := h.norm.right r hr
  rw [Rn.right_iff]
  exact ⟨by have := this.d0; simp only [ofDot]; omega, by have := this.d8; simp only [ofDot]; omega, by have := this.f1; simp only [ofDot]; omega, Int.le_refl _, by have := this.tm; simp only [ofDot]; omega⟩
theorem delta_seen {s : State} (hs : Good s) {dev : Int} {o : OpR} (h : badOp dev o = false) (hl : (makes o && largeF (madeF s dev o)) = false) (d : Dot) :
    hasDot (deltaL s dev o).seen d = true ↔ (∃ f ∈ s.facts, goesF dev o f = true ∧ f.dot = d) ∨ (makes o = true ∧ d = (madeF s dev o).dot) := by
  unfold deltaL
  cases hm : makes o with
  | true =>
    rw [hm, Bool.true_and] at hl
    rw [if_pos rfl]
    simp only
    rw [(dotsL_ok _).2, Bool.and_eq_true, decide_eq_true_eq]
    simp only [List.mem_append, List.mem_map, List.mem_singleton, goneL, List.mem_filter]
    constructor
    · rintro ⟨⟨f, ⟨h1, h2⟩, rfl⟩ | rfl, h3⟩
      · exact .inl ⟨f, h1, h2, rfl⟩
      · exact .inr ⟨trivial, rfl⟩
    · rintro (⟨f, h1, h2, rfl⟩ | ⟨_, rfl⟩)
      · exact ⟨.inl ⟨f, ⟨h1, h2⟩, rfl⟩, hs.dots_right h1⟩
      · exact ⟨.inr rfl, madeF_dot_right hs.norm h hl⟩
  | false =>
    rw [if_neg (by simp)]
    simp only
    rw [(dotsL_ok _).2, Bool.and_eq_true, decide_eq_true_eq]
    simp only [List.mem_map, goneL, List.mem_filter, Bool.false_eq_true, false_and, or_false]
    constructor
    · rintro ⟨⟨f, ⟨h1, h2⟩, rfl⟩, h3⟩
      exact ⟨f, h1, h2, rfl⟩
    · rintro ⟨f, h1, h2, rfl⟩
      exact ⟨⟨f, ⟨h1, h2⟩, rfl⟩, hs.dots_right h1⟩
theorem delta_facts {s : State} {dev : Int} {o : OpR} {f : Fact} : f ∈ (deltaL s dev o).facts ↔ makes o = true ∧ f = madeF s dev o := by
  unfold deltaL
  cases makes o <;> simp
theorem delta_good {s : State} (hs : Good s) {dev : Int} {o : OpR} (h : badOp dev o = false) (hl : (makes o && largeF (madeF s dev o)) = false) : Good (deltaL s dev o) := by
  refine ⟨?_, ?_, fun f hf => ?_⟩
  · unfold deltaL
    split <;> exact (dotsL_ok _).1
  · unfold deltaL
    split <;> simp
  · obtain ⟨h1, rfl⟩ := delta_facts.1 hf
    exact (delta_seen hs h hl _).2 (.inr ⟨h1, rfl⟩)
theorem delta_len {s : State} {dev : Int} {o : OpR} : (deltaL s dev o).seen.length ≤ s.facts.length + 1 ∧ (deltaL s dev o).facts.length ≤ 1 := by
  have h1 := List.length_filter_le (goesF dev o) s.facts
  unfold deltaL goneL
  split
  · refine ⟨Nat.le_trans (dotsL_len _) ?_, by simp⟩
    simp; omega
  · refine ⟨Nat.le_trans (dotsL_len _) ?_, by simp⟩
    simp; omega
theorem doL_good {s : State} (hs : Good s) {dev : Int} {o : OpR} : Good (doL s dev o).1 ∧ (doL s dev o).1.seen.length ≤ s.facts.length + 1 ∧ (doL s dev o).1.facts.length ≤ 1 := by
  have hn : Good ⟨[], []⟩ ∧ ([] : List Rn).length ≤ s.facts.length + 1 ∧ ([] : List Fact).length ≤ 1 := ⟨.nil, by simp, by simp⟩
  unfold doL
  split
  · exact hn
  split
  · exact hn
  split
  · exact hn
  split
  · exact hn
  rename_i h1 _ h3 _
  exact ⟨delta_good hs (by simpa using h1) (by simpa using h3), delta_len.1, delta_len.2⟩

/-- The made fact may be. -/
theorem madeF_right {s : State} {dev : Int} {o : OpR} (h : badOp dev o = false) (hm : makes o = true) (hl : largeF (madeF s dev o) = false) : (madeF s dev o).right = true := by
  unfold badOp at h
  unfold makes at hm
  unfold largeF at hl
  simp only [Bool.or_eq_false_iff, decide_eq_false_iff_not, Bool.and_eq_true, Bool.not_eq_true', Bool.and_eq_false_imp, Bool.or_eq_true, decide_eq_true_eq] at h hm hl
  obtain ⟨⟨⟨⟨⟨⟨a1, a2⟩, a3⟩, a4⟩, a5⟩, a6⟩, a7⟩ := h
  unfold Fact.right
  by_cases hk : o.kind = 4
  · simp only [madeF, hk, if_true] at hl ⊢
    simp
    omega
  · have : o.kind = 1 ∨ o.kind = 2 := by omega
    simp only [madeF, hk, if_false, this, if_true] at hl ⊢
    simp
    have := a6 (by omega)
    omega

/-- A state that may be. -/
structure Fine (s : State) : Prop extends Good s where
  right : ∀ f ∈ s.facts, f.right = true
theorem Fine.nil : Fine ⟨[], []⟩ := ⟨.nil, by simp⟩
theorem joinL_fine {a b : State} (ha : Fine a) (hb : Fine b) : Fine (joinL a b) := ⟨joinL_good ha.toGood hb.toGood, fun f hf => by
  rcases mem_joinF.1 hf with ⟨h, _⟩ | ⟨h, _⟩
  · exact ha.right f h
  · exact hb.right f h⟩
theorem doL_fine {s : State} (hs : Good s) {dev : Int} {o : OpR} : Fine (doL s dev o).1 := by
  refine ⟨(doL_good hs).1, fun f hf => ?_⟩
  unfold doL at hf
  split at hf
  · simp at hf
  split at hf
  · simp at hf
  split at hf
  · simp at hf
  split at hf
  · simp at hf
  rename_i h1 _ h3 _
  obtain ⟨h4, rfl⟩ := delta_facts.1 hf
  exact madeF_right (by simpa using h1) h4 (by rw [h4] at h3; simpa using h3)

/-- Which states may be. -/
theorem factsFrom_iff {seen : List Rn} : ∀ {l : List Fact} {p : Option Fact}, factsFrom seen p l = true ↔ (∀ f ∈ l, f.right = true ∧ hasDot seen f.dot = true) ∧ l.Pairwise FLt ∧ ∀ q, p = some q → ∀ f ∈ l, FLt q f
  | [], p => by simp [factsFrom]
  | f :: l, p => by
    simp only [factsFrom, Bool.and_eq_true, factsFrom_iff (l := l) (p := some f), List.pairwise_cons, List.mem_cons]
    constructor
    · rintro ⟨⟨⟨h1, h2⟩, h3⟩, h4, h5, h6⟩
      have h7 := h6 f rfl
      refine ⟨fun x hx => ?_, ⟨h7, h5⟩, fun q hq x hx => ?_⟩
      · rcases hx with rfl | hx
        · exact ⟨h1, h2⟩
        · exact h4 x hx
      · subst hq
        simp only [decide_eq_true_eq, cmpDot_lt] at h3
        rcases hx with rfl | hx
        · exact h3
        · exact dotLt.trans h3 (h7 x hx)
    · rintro ⟨h1, ⟨h2, h3⟩, h4⟩
      refine ⟨⟨h1 f (.inl rfl), ?_⟩, fun x hx => h1 x (.inr hx), h3, fun q hq x hx => by injection hq with hq; subst hq; exact h2 x hx⟩
      cases p with
      | none => rfl
      | some q =>
        simp only [decide_eq_true_eq, cmpDot_lt]
        exact h4 q rfl f (.inl rfl)
theorem mayState_iff {s : State} : mayState s = true ↔ Fine s ∧ s.facts.length ≤ 400 := by
  unfold mayState
  simp only [Bool.and_eq_true, mayRuns_iff, factsFrom_iff, decide_eq_true_eq]
  constructor
  · rintro ⟨⟨h1, h2⟩, h3, h4, _⟩
    exact ⟨⟨⟨h1, h4, fun f hf => (h3 f hf).2⟩, fun f hf => (h3 f hf).1⟩, by omega⟩
  · rintro ⟨h1, h2⟩
    exact ⟨⟨h1.norm, by omega⟩, fun f hf => ⟨h1.right f hf, h1.has f hf⟩, h1.asc, by simp⟩

end Go.Proofs.YtpjbjdicdjlmeaaGreatDoor.Eng
