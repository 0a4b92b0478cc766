/- States of facts, what two are together: plain lists, no program. No statement of the seat is proved here. -/
import Derived.Test.YtpjbjdicdjlmeaaGreatDoorZPartD
import Derived.Test.YtpjbjdicdjlmeaaGreatDoorZFactD
namespace Go.Proofs.YtpjbjdicdjlmeaaGreatDoor.Eng
open Go Go.Sort
set_option linter.unusedVariables false
set_option linter.unusedSimpArgs false

def dotLt (a b : Dot) : Prop := a.dev < b.dev ∨ (a.dev = b.dev ∧ a.n < b.n)
theorem Dot.ext_iff' {a b : Dot} : a = b ↔ a.dev = b.dev ∧ a.n = b.n := by
  obtain ⟨x, y⟩ := a; obtain ⟨z, w⟩ := b; simp
theorem cmpDot_lt {a b : Dot} : cmpDot a b < 0 ↔ dotLt a b := by
  unfold cmpDot cmpInt dotLt; repeat' split
  all_goals omega
theorem cmpDot_le {a b : Dot} : cmpDot a b ≤ 0 ↔ dotLt a b ∨ a = b := by
  rw [Dot.ext_iff']; unfold cmpDot cmpInt dotLt; repeat' split
  all_goals omega
theorem cmpDot_eq {a b : Dot} : cmpDot a b = 0 ↔ a = b := by
  rw [Dot.ext_iff']; unfold cmpDot cmpInt; repeat' split
  all_goals omega
theorem dotLt.irrefl {a : Dot} (h : dotLt a a) : False := by unfold dotLt at h; omega
theorem dotLt.trans {a b c : Dot} (h : dotLt a b) (k : dotLt b c) : dotLt a c := by unfold dotLt at *; omega
theorem dotLt_tri (a b : Dot) : dotLt a b ∨ a = b ∨ dotLt b a := by rw [Dot.ext_iff']; unfold dotLt; omega
def FLt (f g : Fact) : Prop := dotLt f.dot g.dot
def cmpFact (f g : Fact) : Int := cmpDot f.dot g.dot
theorem FLt.trans {a b c : Fact} (h : FLt a b) (k : FLt b c) : FLt a c := dotLt.trans h k

theorem cmpFact_swo : SWO (ltOf cmpFact) := by
  refine ⟨?_, ?_, ?_⟩
  all_goals (intros; simp only [ltOf, cmpFact, decide_eq_true_eq, decide_eq_false_iff_not, cmpDot_lt, dotLt] at *; omega)

/-- Facts that rise by their dots are told by what is among them. -/
theorem asc_ext : ∀ {a b : List Fact}, a.Pairwise FLt → b.Pairwise FLt → (∀ f, f ∈ a ↔ f ∈ b) → a = b
  | [], [], _, _, _ => rfl
  | [], g :: b, _, _, h => by have := (h g).2 (by simp); simp at this
  | f :: a, [], _, _, h => by have := (h f).1 (by simp); simp at this
  | f :: a, g :: b, ha, hb, h => by
    obtain ⟨ha1, ha2⟩ := List.pairwise_cons.1 ha
    obtain ⟨hb1, hb2⟩ := List.pairwise_cons.1 hb
    have hfg : f = g := by
      rcases List.mem_cons.1 ((h f).1 (by simp)) with e | hf
      · exact e
      rcases List.mem_cons.1 ((h g).2 (by simp)) with e | hg
      · exact e.symm
      exact (dotLt.irrefl (dotLt.trans (ha1 g hg) (hb1 f hf))).elim
    subst hfg
    congr 1
    refine asc_ext ha2 hb2 fun x => ⟨fun hx => ?_, fun hx => ?_⟩
    · rcases List.mem_cons.1 ((h x).1 (by simp [hx])) with e | hx'
      · subst e; exact (dotLt.irrefl (ha1 x hx)).elim
      · exact hx'
    · rcases List.mem_cons.1 ((h x).2 (by simp [hx])) with e | hx'
      · subst e; exact (dotLt.irrefl (hb1 x hx)).elim
      · exact hx'

/-- Two facts of one dot in a rising list are one. -/
theorem asc_uniq {l : List Fact} (h : l.Pairwise FLt) {f g : Fact} (hf : f ∈ l) (hg : g ∈ l) (he : f.dot = g.dot) : f = g := by
  induction l with
  | nil => simp at hf
  | cons x l ih =>
    obtain ⟨h1, h2⟩ := List.pairwise_cons.1 h
    rcases List.mem_cons.1 hf with rfl | hf' <;> rcases List.mem_cons.1 hg with rfl | hg'
    · rfl
    · have := h1 g hg'; unfold FLt at this; rw [he] at this; exact this.irrefl.elim
    · have := h1 f hf'; unfold FLt at this; rw [he] at this; exact this.irrefl.elim
    · exact ih h2 hf' hg'

theorem atD_iff {l : List Fact} {d : Dot} : atD l d = true ↔ ∃ f ∈ l, f.dot = d := by simp [atD]

/-- A state in which facts stand as they should, and of each the dot was seen. -/
structure Good (s : State) : Prop where
  norm : Norm s.seen
  asc : s.facts.Pairwise FLt
  has : ∀ f ∈ s.facts, hasDot s.seen f.dot = true
theorem Good.nil : Good ⟨[], []⟩ := ⟨.nil, .nil, by simp⟩
theorem Good.at {s : State} (h : Good s) {d : Dot} (ha : atD s.facts d = true) : hasDot s.seen d = true := by
  obtain ⟨f, hf, rfl⟩ := atD_iff.1 ha
  exact h.has f hf

def keepA (b : State) (f : Fact) : Bool := !hasDot b.seen f.dot || atD b.facts f.dot
def keepB (a : State) (f : Fact) : Bool := !hasDot a.seen f.dot
def joinF (a b : State) : List Fact := sortL cmpFact (a.facts.filter (keepA b) ++ b.facts.filter (keepB a))
def joinL (a b : State) : State := ⟨unionL a.seen b.seen, joinF a b⟩

theorem sorted_asc {l : List Fact} (hd : l.Pairwise fun f g => f.dot ≠ g.dot) : (sortL cmpFact l).Pairwise FLt := by
  obtain ⟨hp, hs⟩ := sortL_spec cmpFact_swo l
  have hd' : (sortL cmpFact l).Pairwise fun f g => f.dot ≠ g.dot := (hp.pairwise_iff (fun h => h.symm)).2 hd
  refine (hs.and hd').imp ?_
  rintro f g ⟨h1, h2⟩
  unfold cmpFact at h1
  rw [cmpDot_lt] at h1
  rcases dotLt_tri f.dot g.dot with h | h | h
  · exact h
  · exact (h2 h).elim
  · exact (h1 h).elim

theorem asc_ne {l : List Fact} (h : l.Pairwise FLt) : l.Pairwise fun f g => f.dot ≠ g.dot := h.imp fun {f g} h e => by unfold FLt at h; rw [e] at h; exact h.irrefl

theorem mem_joinF {a b : State} {f : Fact} : f ∈ joinF a b ↔ (f ∈ a.facts ∧ keepA b f = true) ∨ (f ∈ b.facts ∧ keepB a f = true) := by
  unfold joinF
  rw [(sortL_spec cmpFact_swo _).1.mem_iff]
  simp

theorem joinF_asc {a b : State} (ha : Good a) (hb : b.facts.Pairwise FLt) : (joinF a b).Pairwise FLt := by
  refine sorted_asc (List.pairwise_append.2 ⟨(asc_ne ha.asc).filter _, (asc_ne hb).filter _, ?_⟩)
  intro f hf g hg e
  have h1 := ha.has f (List.mem_filter.1 hf).1
  have h2 := (List.mem_filter.1 hg).2
  unfold keepB at h2
  rw [← e, h1] at h2
  cases h2

theorem joinF_len {a b : State} : (joinF a b).length ≤ a.facts.length + b.facts.length := by
  unfold joinF
  rw [(sortL_spec cmpFact_swo _).1.length_eq, List.length_append]
  have := List.length_filter_le (keepA b) a.facts
  have := List.length_filter_le (keepB a) b.facts
  omega

theorem joinL_seen {a b : State} (ha : Norm a.seen) (hb : Norm b.seen) (d : Dot) : hasDot (joinL a b).seen d = (hasDot a.seen d || hasDot b.seen d) := (unionL_ok ha.right hb.right).2 d
theorem joinL_good {a b : State} (ha : Good a) (hb : Good b) : Good (joinL a b) := by
  refine ⟨(unionL_ok ha.norm.right hb.norm.right).1, joinF_asc ha hb.asc, fun f hf => ?_⟩
  rw [joinL_seen ha.norm hb.norm]
  rcases mem_joinF.1 hf with ⟨h, _⟩ | ⟨h, _⟩
  · rw [ha.has f h]; rfl
  · rw [hb.has f h, Bool.or_true]

/-- States are told by what was seen and what is among their facts. -/
theorem Good.ext {a b : State} (ha : Good a) (hb : Good b) (h1 : ∀ d, hasDot a.seen d = hasDot b.seen d) (h2 : ∀ f, f ∈ a.facts ↔ f ∈ b.facts) : a = b := by
  obtain ⟨s, l⟩ := a
  obtain ⟨t, m⟩ := b
  have e1 : s = t := ha.norm.ext hb.norm h1
  have e2 : l = m := asc_ext ha.asc hb.asc h2
  rw [e1, e2]

/-! ### States of one group: a dot is of one fact -/
def Agree (a b : State) : Prop := ∀ f ∈ a.facts, ∀ g ∈ b.facts, f.dot = g.dot → f = g
theorem Agree.symm {a b : State} (h : Agree a b) : Agree b a := fun f hf g hg e => (h g hg f hf e.symm).symm
theorem Good.agree {a : State} (h : Good a) : Agree a a := fun f hf g hg e => asc_uniq h.asc hf hg e
theorem Agree.join {a b c : State} (h1 : Agree a c) (h2 : Agree b c) : Agree (joinL a b) c := by
  intro f hf g hg e
  rcases mem_joinF.1 hf with ⟨h, _⟩ | ⟨h, _⟩
  · exact h1 f h g hg e
  · exact h2 f h g hg e

/-- Of states of one group: a fact is there just if one has it, and who has seen its dot has it. -/
theorem mem_join {a b : State} (ha : Good a) (hb : Good b) (hab : Agree a b) {f : Fact} :
    f ∈ (joinL a b).facts ↔ (f ∈ a.facts ∨ f ∈ b.facts) ∧ (hasDot a.seen f.dot = true → f ∈ a.facts) ∧ (hasDot b.seen f.dot = true → f ∈ b.facts) := by
  unfold joinL
  rw [mem_joinF]
  unfold keepA keepB
  simp only [Bool.or_eq_true, Bool.not_eq_true', atD_iff]
  constructor
  · rintro (⟨h1, h2⟩ | ⟨h1, h2⟩)
    · refine ⟨.inl h1, fun _ => h1, fun h3 => ?_⟩
      rcases h2 with h2 | ⟨g, hg, e⟩
      · rw [h2] at h3; cases h3
      · rw [hab f h1 g hg e.symm]; exact hg
    · refine ⟨.inr h1, fun h3 => ?_, fun _ => h1⟩
      rw [h2] at h3; cases h3
  · rintro ⟨h1, h2, h3⟩
    cases hf : hasDot a.seen f.dot with
    | true =>
      refine .inl ⟨h2 hf, ?_⟩
      cases hg : hasDot b.seen f.dot with
      | true => exact .inr ⟨f, h3 hg, rfl⟩
      | false => exact .inl rfl
    | false =>
      refine .inr ⟨?_, rfl⟩
      rcases h1 with h1 | h1
      · rw [ha.has f h1] at hf; cases hf
      · exact h1

theorem join_comm {a b : State} (ha : Good a) (hb : Good b) (hab : Agree a b) : joinL a b = joinL b a := by
  refine (joinL_good ha hb).ext (joinL_good hb ha) (fun d => ?_) fun f => ?_
  · rw [joinL_seen ha.norm hb.norm, joinL_seen hb.norm ha.norm, Bool.or_comm]
  · rw [mem_join ha hb hab, mem_join hb ha hab.symm]
    constructor <;> (rintro ⟨h1, h2, h3⟩; exact ⟨h1.symm, h3, h2⟩)
theorem join_idem {a : State} (ha : Good a) : joinL a a = a := by
  refine (joinL_good ha ha).ext ha (fun d => ?_) fun f => ?_
  · rw [joinL_seen ha.norm ha.norm, Bool.or_self]
  · rw [mem_join ha ha ha.agree]
    exact ⟨fun ⟨h, _, _⟩ => h.elim id id, fun h => ⟨.inl h, fun _ => h, fun _ => h⟩⟩
theorem join_assoc {a b c : State} (ha : Good a) (hb : Good b) (hc : Good c) (hab : Agree a b) (hac : Agree a c) (hbc : Agree b c) : joinL (joinL a b) c = joinL a (joinL b c) := by
  have g1 := joinL_good ha hb
  have g2 := joinL_good hb hc
  have k1 : Agree (joinL a b) c := hac.join hbc
  have k2 : Agree a (joinL b c) := (hab.symm.join hac.symm).symm
  refine (joinL_good g1 hc).ext (joinL_good ha g2) (fun d => ?_) fun f => ?_
  · rw [joinL_seen g1.norm hc.norm, joinL_seen ha.norm hb.norm, joinL_seen ha.norm g2.norm, joinL_seen hb.norm hc.norm, Bool.or_assoc]
  · rw [mem_join g1 hc k1, mem_join ha g2 k2, mem_join ha hb hab, mem_join hb hc hbc, joinL_seen ha.norm hb.norm, joinL_seen hb.norm hc.norm]
    have xa := ha.has f
    have xb := hb.has f
    have xc := hc.has f
    generalize hasDot a.seen f.dot = p at *
    generalize hasDot b.seen f.dot = q at *
    generalize hasDot c.seen f.dot = r at *
    simp only [Bool.or_eq_true]
    by_cases h1 : f ∈ a.facts <;> by_cases h2 : f ∈ b.facts <;> by_cases h3 : f ∈ c.facts <;> simp only [h1, h2, h3, true_implies, false_implies, imp_self, true_or, or_true, false_or, or_false, true_and, and_true, and_false, false_and, imp_false] at xa xb xc ⊢
    all_goals (try subst xa); (try subst xb); (try subst xc)
    all_goals simp
    all_goals (cases p <;> cases q <;> cases r <;> simp at *)

/-- What is within: nothing comes by joining. -/
theorem join_absorb {a b : State} (ha : Good a) (hb : Good b) (hab : Agree a b) : joinL (joinL a b) a = joinL a b := by
  rw [join_comm (joinL_good ha hb) ha ((ha.agree).join hab.symm), ← join_assoc ha ha hb ha.agree hab hab, join_idem ha]
theorem join_absorb' {a b : State} (ha : Good a) (hb : Good b) (hab : Agree a b) : joinL (joinL a b) b = joinL a b := by
  rw [join_assoc ha hb hb hab hab hb.agree, join_idem hb]

end Go.Proofs.YtpjbjdicdjlmeaaGreatDoor.Eng
