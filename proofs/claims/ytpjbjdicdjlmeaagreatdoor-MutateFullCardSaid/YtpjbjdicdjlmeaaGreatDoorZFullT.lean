/- A state that is full, and what deeds change of it: plain lists, no program. No statement of the seat is proved here. -/
import Derived.Test.YtpjbjdicdjlmeaaGreatDoorZMutT
namespace Go.Proofs.YtpjbjdicdjlmeaaGreatDoor.Eng
open Go
set_option linter.unusedVariables false
set_option linter.unusedSimpArgs false

def itemB (i : Nat) : ByteArray := ⟨#[UInt8.ofNat (97 + i / 20), UInt8.ofNat (97 + i % 20)]⟩
def kB : ByteArray := ⟨#[107]⟩
def moreB : ByteArray := ⟨#[109, 111, 114, 101]⟩
def otherB : ByteArray := ⟨#[111, 116, 104, 101, 114]⟩
def fullF (i : Nat) : Fact := ⟨1, (i : Int) + 1, kB, 2, itemB i, 0⟩
def fullL (n : Nat) : List Fact := (List.range n).map fullF
def fullS : State := ⟨[⟨1, 1, 400⟩], fullL 400⟩

theorem fullL_len (n : Nat) : (fullL n).length = n := by simp [fullL]
theorem fullL_succ (n : Nat) : fullL (n + 1) = fullL n ++ [fullF n] := by simp [fullL, List.range_succ]
theorem mem_full {f : Fact} : f ∈ fullS.facts ↔ ∃ i, i < 400 ∧ fullF i = f := by
  show f ∈ fullL 400 ↔ _
  simp only [fullL, List.mem_map, List.mem_range]

theorem itemB_inj {i j : Nat} (hi : i < 400) (hj : j < 400) (h : itemB i = itemB j) : i = j := by
  have h0 := congrArg (fun s : ByteArray => s.data.toList) h
  simp only [itemB, List.cons.injEq, and_true] at h0
  obtain ⟨h1, h2⟩ := h0
  have g1 := congrArg UInt8.toNat h1
  have g2 := congrArg UInt8.toNat h2
  simp only [UInt8.toNat_ofNat'] at g1 g2
  omega
theorem itemB_more (i : Nat) : itemB i ≠ moreB := by
  intro h
  have h0 := congrArg (fun s : ByteArray => s.data.toList) h
  simp [itemB, moreB] at h0

theorem full_good : Good fullS := by
  refine ⟨⟨?_, ?_⟩, ?_, ?_⟩
  · intro r hr
    obtain rfl := List.mem_singleton.1 hr
    constructor <;> simp
  · show List.Pairwise _ [_]
    simp
  · show (fullL 400).Pairwise FLt
    unfold fullL
    rw [List.pairwise_map]
    refine List.pairwise_lt_range.imp ?_
    intro i j h
    refine Or.inr ⟨rfl, ?_⟩
    show (i : Int) + 1 < (j : Int) + 1
    omega
  · intro f hf
    obtain ⟨i, hi, rfl⟩ := mem_full.1 hf
    exact hasDot_iff.2 ⟨⟨1, 1, 400⟩, by simp [fullS], rfl, by simp only [fullF, Fact.dot]; omega, by simp only [fullF, Fact.dot]; omega⟩

theorem full_last (dev : Int) : lastL fullS.seen dev ≤ 400 := lastFrom_le (by omega) fun r hr => by
  obtain rfl := List.mem_singleton.1 hr
  exact Int.le_refl _

theorem full_large {dev : Int} {o : OpR} (h4 : o.kind ≠ 4) : largeF (madeF fullS dev o) = false := by
  have h1 := full_last dev
  unfold largeF madeF
  simp only [if_neg h4, Bool.or_eq_false_iff, decide_eq_false_iff_not]
  omega

theorem join_401 {dev : Int} {o : OpR} (hb : badOp dev o = false) (h4 : o.kind ≠ 4) (hm : makes o = true) (hg : ∀ f ∈ fullS.facts, goesF dev o f = false) : (joinL fullS (deltaL fullS dev o)).facts.length = 401 := by
  have hs := full_good
  have hl : (makes o && largeF (madeF fullS dev o)) = false := by rw [full_large h4, Bool.and_false]
  have e1 : fullS.facts.filter (keepA (deltaL fullS dev o)) = fullS.facts := by
    rw [List.filter_eq_self]
    intro f hf
    unfold keepA
    have : hasDot (deltaL fullS dev o).seen f.dot = false := by
      cases h : hasDot (deltaL fullS dev o).seen f.dot with
      | false => rfl
      | true =>
        rcases (delta_seen hs hb hl f.dot).1 h with ⟨g, hgm, hgg, _⟩ | ⟨_, he⟩
        · rw [hg g hgm] at hgg; cases hgg
        · have := hs.has f hf
          rw [he, new_dot hs] at this
          cases this
    rw [this]
    rfl
  have e2 : (deltaL fullS dev o).facts.filter (keepB fullS) = [madeF fullS dev o] := by
    have : (deltaL fullS dev o).facts = [madeF fullS dev o] := by unfold deltaL; rw [if_pos hm]
    rw [this]
    unfold keepB
    simp [new_dot hs]
  show (joinF _ _).length = _
  unfold joinF
  rw [(sortL_spec cmpFact_swo _).1.length_eq, e1, e2, List.length_append]
  show (fullL 400).length + 1 = 401
  rw [fullL_len]

theorem kB_size : kB.size = 1 := rfl
theorem full_bad {dev : Int} (h0 : 0 ≤ dev) (h8 : dev < 8) {o : OpR} (hk : 1 ≤ o.kind ∧ o.kind ≤ 5 ∧ o.kind ≠ 4) (h1 : (o.key.size : Int) ≤ 40) (h2 : (o.item.size : Int) ≤ 200) : badOp dev o = false := by
  obtain ⟨k1, k2, k3⟩ := hk
  unfold badOp
  have e1 : decide (dev < 0) = false := decide_eq_false (by omega)
  have e2 : decide (8 ≤ dev) = false := decide_eq_false (by omega)
  have e3 : decide (o.kind < 1) = false := decide_eq_false (by omega)
  have e4 : decide (5 < o.kind) = false := decide_eq_false (by omega)
  have e5 : decide (40 < (o.key.size : Int)) = false := decide_eq_false (by omega)
  have e6 : decide (200 < (o.item.size : Int)) = false := decide_eq_false (by omega)
  have e7 : decide (o.kind = 4) = false := decide_eq_false k3
  rw [e1, e2, e3, e4, e5, e6, e7]
  simp

theorem full_four {dev : Int} {o : OpR} (hb : badOp dev o = false) (h4 : o.kind ≠ 4) (hm : makes o = true) (hg : ∀ f ∈ fullS.facts, goesF dev o f = false) : doL fullS dev o = (⟨[], []⟩, 4) := by
  have hj := join_401 hb h4 hm hg
  unfold doL
  rw [hb, if_neg (by simp), if_neg (by rw [hm]; simp), full_large h4, Bool.and_false, if_neg (by simp), if_pos (by omega)]

theorem full_more {dev : Int} (h0 : 0 ≤ dev) (h8 : dev < 8) : doL fullS dev ⟨2, kB, moreB, 0⟩ = (⟨[], []⟩, 4) := by
  refine full_four (full_bad h0 h8 (by simp) (by simp only [kB_size]; omega) (by show ((4 : Nat) : Int) ≤ 200; omega)) (by simp) rfl fun f hf => ?_
  obtain ⟨i, hi, rfl⟩ := mem_full.1 hf
  have : decide (itemB i = moreB) = false := decide_eq_false (itemB_more i)
  have hh : goesF dev ⟨2, kB, moreB, 0⟩ (fullF i) = (decide (kB = kB) && (decide ((2 : Int) = 2) && decide (itemB i = moreB))) := rfl
  rw [hh, this, Bool.and_false, Bool.and_false]

theorem full_other {dev : Int} (h0 : 0 ≤ dev) (h8 : dev < 8) : doL fullS dev ⟨1, otherB, emptyB, 0⟩ = (⟨[], []⟩, 4) := by
  refine full_four (full_bad h0 h8 (by simp) (by show ((5 : Nat) : Int) ≤ 40; omega) (by show ((0 : Nat) : Int) ≤ 200; omega)) (by simp) rfl fun f hf => ?_
  obtain ⟨i, hi, rfl⟩ := mem_full.1 hf
  have : decide (kB = otherB) = false := decide_eq_false (fun h => by
    have h0 := congrArg (fun s : ByteArray => s.data.toList) h
    simp [kB, otherB] at h0)
  simp [goesF, fullF, this]

theorem full_add {dev : Int} (h0 : 0 ≤ dev) (h8 : dev < 8) {k : Nat} (hk : k < 400) :
    ∃ a, doL fullS dev ⟨2, kB, itemB k, 0⟩ = (a, 0) ∧ a.facts.length = 1 ∧ hasDot a.seen ⟨1, (k : Int) + 1⟩ = true ∧ a.seen.length ≤ 401 := by
  have hs := full_good
  have hb := full_bad (o := ⟨2, kB, itemB k, 0⟩) h0 h8 (by simp) (by simp only [kB_size]; omega) (by show ((2 : Nat) : Int) ≤ 200; omega)
  have h4 : (⟨2, kB, itemB k, 0⟩ : OpR).kind ≠ 4 := by simp
  have hm : makes ⟨2, kB, itemB k, 0⟩ = true := rfl
  have hf : fullF k ∈ fullS.facts := mem_full.2 ⟨k, hk, rfl⟩
  have hgo : goesF dev ⟨2, kB, itemB k, 0⟩ (fullF k) = true := by simp [goesF, fullF]
  generalize (⟨2, kB, itemB k, 0⟩ : OpR) = o at *
  have hl : (makes o && largeF (madeF fullS dev o)) = false := by rw [full_large h4, Bool.and_false]
  have hseen : hasDot (deltaL fullS dev o).seen (fullF k).dot = true := (delta_seen hs hb hl _).2 (.inl ⟨_, hf, hgo, rfl⟩)
  have hdf : (deltaL fullS dev o).facts = [madeF fullS dev o] := by unfold deltaL; rw [if_pos hm]
  have hkeep : ¬ keepA (deltaL fullS dev o) (fullF k) = true := by
    unfold keepA
    rw [hseen, hdf]
    intro h
    have h' : atD [madeF fullS dev o] (fullF k).dot = true := by simpa using h
    obtain ⟨g, hg, he⟩ := atD_iff.1 h'
    obtain rfl := List.mem_singleton.1 hg
    have := hs.has _ hf
    rw [← he, new_dot hs] at this
    cases this
  have hlen : (joinL fullS (deltaL fullS dev o)).facts.length ≤ 400 := by
    show (joinF _ _).length ≤ _
    unfold joinF
    rw [(sortL_spec cmpFact_swo _).1.length_eq, List.length_append]
    have h1 : (fullS.facts.filter (keepA (deltaL fullS dev o))).length < fullS.facts.length := List.length_filter_lt_length_iff_exists.2 ⟨_, hf, hkeep⟩
    have h2 := List.length_filter_le (keepB fullS) (deltaL fullS dev o).facts
    have h3 : fullS.facts.length = 400 := fullL_len 400
    rw [hdf] at h2
    simp only [List.length_singleton] at h2
    rw [hdf]
    omega
  refine ⟨deltaL fullS dev o, ?_, by rw [hdf]; rfl, hseen, ?_⟩
  · unfold doL
    rw [hb, if_neg (by simp), if_neg (by rw [hm]; simp), full_large h4, Bool.and_false, if_neg (by simp), if_neg (by omega)]
  · have := (delta_len (s := fullS) (dev := dev) (o := o)).1
    have h3 : fullS.facts.length = 400 := fullL_len 400
    omega

theorem full_del {dev : Int} (h0 : 0 ≤ dev) (h8 : dev < 8) : ∃ c, doL fullS dev ⟨5, kB, emptyB, 0⟩ = (c, 0) ∧ c.seen = fullS.seen := by
  have hb := full_bad (o := ⟨5, kB, emptyB, 0⟩) h0 h8 (by simp) (by simp only [kB_size]; omega) (by show ((0 : Nat) : Int) ≤ 200; omega)
  have hm : makes ⟨5, kB, emptyB, 0⟩ = false := rfl
  have hgone : goneL fullS dev ⟨5, kB, emptyB, 0⟩ = fullS.facts := by
    unfold goneL
    rw [List.filter_eq_self]
    intro f hf
    obtain ⟨i, hi, rfl⟩ := mem_full.1 hf
    simp [goesF, fullF]
  generalize (⟨5, kB, emptyB, 0⟩ : OpR) = o at *
  have h3 : fullS.facts.length = 400 := fullL_len 400
  have hdl : deltaL fullS dev o = ⟨dotsL (fullS.facts.map Fact.dot), []⟩ := by unfold deltaL; rw [hm, if_neg (by simp), hgone]
  have hlen : (joinL fullS (deltaL fullS dev o)).facts.length ≤ 400 := by
    have := joinF_len (a := fullS) (b := deltaL fullS dev o)
    rw [hdl] at this ⊢
    simp only [List.length_nil] at this
    show (joinF _ _).length ≤ _
    omega
  refine ⟨deltaL fullS dev o, ?_, ?_⟩
  · unfold doL
    rw [hb, if_neg (by simp), hm, Bool.false_and, if_neg (by rw [hgone]; rintro ⟨h, _⟩; rw [h] at h3; cases h3), if_neg (by simp), if_neg (by omega)]
  · rw [hdl]
    obtain ⟨n1, n2⟩ := dotsL_ok (fullS.facts.map Fact.dot)
    refine n1.ext full_good.norm fun d => ?_
    rw [n2]
    apply Bool.eq_iff_iff.2
    rw [Bool.and_eq_true, decide_eq_true_eq, hasDot_iff]
    simp only [List.mem_map]
    constructor
    · rintro ⟨⟨f, hf, rfl⟩, _⟩
      exact hasDot_iff.1 (full_good.has f hf)
    · rintro ⟨r, hr, e1, e2, e3⟩
      obtain rfl := List.mem_singleton.1 hr
      simp only at e1 e2 e3
      have hd : (fullF (d.n - 1).toNat).dot = d := by
        obtain ⟨dd, dn⟩ := d
        simp only [fullF, Fact.dot, Dot.mk.injEq] at *
        omega
      have hf : fullF (d.n - 1).toNat ∈ fullS.facts := mem_full.2 ⟨_, by omega, rfl⟩
      refine ⟨⟨_, hf, hd⟩, ?_⟩
      rw [← hd]
      exact full_good.dots_right hf

end Go.Proofs.YtpjbjdicdjlmeaaGreatDoor.Eng
