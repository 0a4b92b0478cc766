/- What a state says behind a deed: plain lists. No statement of the seat is proved here. -/
import Derived.Test.YtnccbccnjjachaaGreatDoorZLawMW0
import Derived.Test.YtnccbccnjjachaaGreatDoorZCntB
import Derived.Test.YtnccbccnjjachaaGreatDoorZPartK
namespace Go.Proofs.YtnccbccnjjachaaGreatDoor.Eng
open Go
set_option linter.unusedVariables false
set_option linter.unusedSimpArgs false

/-- What a group's state has counted is small. -/
theorem all_num (ns : List Nat) (hb : ∀ n ∈ ns, n < 256) : ∀ f ∈ (allL (apartS ns)).facts, f.kind = 3 → -6200 ≤ f.num ∧ f.num ≤ 6200 := fun f hf hk => by
  have g := apartS_group ns
  have hp : Part (apartS ns) (allL (apartS ns)) := Part.foldl (fun d hd => g.good hd) (.none _) fun d hd => hd
  obtain ⟨t, ht, h⟩ := hp.mem f hf
  have h1 := (apartS_cnt ns hb).num t ht f h hk
  have h2 := (g.dots ht f.dot ((g.good ht).has f h)).2.2
  simp only [Fact.dot] at h2
  omega

section
variable {s : State} {dv : Int} {o : OpR}
theorem sum_small (hsm : Small s) (hn : ∀ f ∈ s.facts, f.kind = 3 → -6200 ≤ f.num ∧ f.num ≤ 6200) {n : Int} (ho : -1000 ≤ n ∧ n ≤ 1000) {p : Fact → Bool} (hp : ∀ f, p f = true → f.kind = 3) :
    sumUp n (s.facts.filter p) = n + sumL (s.facts.filter p) ∧ -1016800 ≤ sumL (s.facts.filter p) ∧ sumL (s.facts.filter p) ≤ 1016800 := by
  have hl : (s.facts.filter p).length ≤ 164 := Nat.le_trans (List.length_filter_le _ _) hsm.sizes.2
  have hf : ∀ f ∈ s.facts.filter p, -6200 ≤ f.num ∧ f.num ≤ 6200 := fun f hf => by
    obtain ⟨h1, h2⟩ := List.mem_filter.1 hf
    exact hn f h1 (hp f h2)
  have hc : (6200 : Int) * (s.facts.filter p).length ≤ 1016800 := by
    have : (6200 : Int) * ((s.facts.filter p).length : Int) ≤ 6200 * 164 := Int.mul_le_mul_of_nonneg_left (by omega) (by omega)
    omega
  have hc0 : (0 : Int) ≤ 6200 * (s.facts.filter p).length := Int.mul_nonneg (by omega) (by omega)
  obtain ⟨h1, h2, h3⟩ := sumUp_small hf (by omega) (by omega) (by omega) (n := n)
  exact ⟨h1, by omega, by omega⟩
/-- Why a deed of the laws is not done: there is nothing to go. -/
theorem doL_why (hsm : Small s) (hn : ∀ f ∈ s.facts, f.kind = 3 → -6200 ≤ f.num ∧ f.num ≤ 6200) (hdv : 0 ≤ dv ∧ dv < 8) (hk : 1 ≤ o.kind ∧ o.kind ≤ 5) (h3 : o.key.size ≤ 40) (h4 : o.item.size ≤ 200) (h5 : -1000 ≤ o.n ∧ o.n ≤ 1000) :
    (doL s dv o = (⟨[], []⟩, 2) ∧ goneL s dv o = [] ∧ makes o = false) ∨ (badOp dv o = false ∧ (makes o && largeF (madeF s dv o)) = false ∧ doL s dv o = (deltaL s dv o, 0)) := by
  have hb : badOp dv o = false := badOp_no hdv hk h3 h4 (by omega)
  have hl : (makes o && largeF (madeF s dv o)) = false := by
    by_cases h4 : o.kind = 4
    · have h1 := small_last hsm dv
      have h2 : (madeF s dv o).n = lastL s.seen dv + 1 := rfl
      have h3 : (madeF s dv o).num = sumUp o.n (goneL s dv o) := by
        have : (madeF s dv o).num = sumFrom dv o o.n s.facts := by unfold madeF; simp [h4]
        rw [this, sumFrom_gone]; rfl
      obtain ⟨k1, k2, k3⟩ := sum_small hsm hn h5 (p := goesF dv o) (fun f hf => by unfold goesF at hf; simp [h4] at hf; exact hf.2.1)
      have : largeF (madeF s dv o) = false := by
        unfold largeF
        rw [h2, h3]
        unfold goneL
        rw [k1]
        simp only [Bool.or_eq_false_iff, decide_eq_false_iff_not]
        exact ⟨⟨by omega, by omega⟩, by omega⟩
      rw [this, Bool.and_false]
    · exact large_no hsm h4
  by_cases h0 : goneL s dv o = [] ∧ makes o = false
  · left
    refine ⟨?_, h0⟩
    unfold doL
    rw [if_neg (by simp [hb]), if_pos h0]
  · right
    refine ⟨hb, hl, doL_ok hb h0 hl ?_⟩
    have := hsm.sizes
    omega

variable (hg : Good s) (hb : badOp dv o = false) (hl : (makes o && largeF (madeF s dv o)) = false)
include hg hb hl
/-- A key's text, behind a deed that sets it. -/
theorem set_says (hk : o.kind = 1) : itemsL (joinL s (deltaL s dv o)) o.key 1 = [o.item] := by
  have gd := delta_good hg hb hl
  have hm : makes o = true := by unfold makes; rw [hk]; rfl
  have hmem : ∀ f, f ∈ (joinL s (deltaL s dv o)).facts.filter (Fact.of o.key 1) ↔ f ∈ [madeF s dv o] := fun f => by
    rw [List.mem_filter, deed_facts hg hb hl, List.mem_singleton]
    constructor
    · rintro ⟨h1 | h1, h2⟩
      · exfalso
        obtain ⟨_, h3⟩ := h1
        simp [Fact.of] at h2
        simp [goesF, hk, h2] at h3
      · exact h1.2
    · rintro rfl
      exact ⟨.inr ⟨hm, rfl⟩, by simp [Fact.of, madeF, hk]⟩
  have heq := asc_ext ((joinL_good hg gd).asc.sublist List.filter_sublist) (show [madeF s dv o].Pairwise FLt by simp) hmem
  unfold itemsL
  rw [heq]
  show insT (madeF s dv o).item [] = [o.item]
  have : (madeF s dv o).item = o.item := by unfold madeF; simp [hk]
  rw [this]; rfl
theorem add_says (hk : o.kind = 2) : o.item ∈ itemsL (joinL s (deltaL s dv o)) o.key 2 := by
  have hm : makes o = true := by unfold makes; rw [hk]; rfl
  rw [mem_itemsL]
  exact ⟨madeF s dv o, (deed_facts hg hb hl).2 (.inr ⟨hm, rfl⟩), by simp [Fact.of, madeF, hk], by unfold madeF; simp [hk]⟩
theorem rem_says (hk : o.kind = 3) : o.item ∉ itemsL (joinL s (deltaL s dv o)) o.key 2 := by
  have hm : makes o = false := by unfold makes; rw [hk]; rfl
  rw [mem_itemsL]
  rintro ⟨f, h1, h2, h3⟩
  rcases (deed_facts hg hb hl).1 h1 with ⟨_, h4⟩ | ⟨h4, _⟩
  · simp [Fact.of] at h2
    simp [goesF, hk, h2, h3] at h4
  · rw [hm] at h4; cases h4
theorem del_says (hk : o.kind = 5) : (joinL s (deltaL s dv o)).facts.filter (Fact.of o.key 0) = [] := by
  have hm : makes o = false := by unfold makes; rw [hk]; rfl
  refine List.filter_eq_nil_iff.2 fun f h1 h2 => ?_
  rcases (deed_facts hg hb hl).1 h1 with ⟨_, h4⟩ | ⟨h4, _⟩
  · simp [Fact.of] at h2
    simp [goesF, hk, h2] at h4
  · rw [hm] at h4; cases h4
theorem other_says {key : ByteArray} (hk : key ≠ o.key) : (joinL s (deltaL s dv o)).facts.filter (Fact.of key 0) = s.facts.filter (Fact.of key 0) := by
  have gd := delta_good hg hb hl
  refine asc_ext ((joinL_good hg gd).asc.sublist List.filter_sublist) (hg.asc.sublist List.filter_sublist) fun f => ?_
  rw [List.mem_filter, List.mem_filter, deed_facts hg hb hl]
  constructor
  · rintro ⟨⟨h1, _⟩ | ⟨_, h1⟩, h2⟩
    · exact ⟨h1, h2⟩
    · exfalso
      rw [h1] at h2
      simp [Fact.of, madeF] at h2
      exact hk (of_decide_eq_true h2).symm
  · rintro ⟨h1, h2⟩
    refine ⟨.inl ⟨h1, ?_⟩, h2⟩
    simp [Fact.of] at h2
    have : ¬ f.key = o.key := fun e => hk (h2.symm.trans e)
    simp [goesF, this]

/-- The facts behind a deed, in whatever order. -/
theorem deed_perm : (joinL s (deltaL s dv o)).facts.Perm (s.facts.filter (fun f => !goesF dv o f) ++ madeL s dv o) := by
  have h1 : (joinL s (deltaL s dv o)).facts.Perm (s.facts.filter (keepA (deltaL s dv o)) ++ (deltaL s dv o).facts.filter (keepB s)) := (sortL_spec cmpFact_swo _).1
  have e1 : s.facts.filter (keepA (deltaL s dv o)) = s.facts.filter (fun f => !goesF dv o f) := List.filter_congr fun f hf => by
    unfold keepA
    have h2 : hasDot (deltaL s dv o).seen f.dot = goesF dv o f := by
      rw [Bool.eq_iff_iff, delta_seen hg hb hl]
      constructor
      · rintro (⟨g, hg1, h3, h4⟩ | ⟨_, h4⟩)
        · rw [← asc_uniq hg.asc hg1 hf h4]; exact h3
        · have := hg.has f hf
          rw [h4, new_dot hg] at this; cases this
      · intro h; exact .inl ⟨f, hf, h, rfl⟩
    have h3 : atD (deltaL s dv o).facts f.dot = false := by
      cases h : atD (deltaL s dv o).facts f.dot with
      | false => rfl
      | true =>
        obtain ⟨q, hq, e⟩ := atD_iff.1 h
        obtain ⟨_, rfl⟩ := delta_facts.1 hq
        have := hg.has f hf
        rw [← e, new_dot hg] at this; cases this
    rw [h2, h3, Bool.or_false]
  have e2 : (deltaL s dv o).facts.filter (keepB s) = madeL s dv o := by
    rw [delta_out]
    simp only
    refine List.filter_eq_self.2 fun f hf => ?_
    unfold madeL at hf
    split at hf
    · rw [List.mem_singleton.1 hf]
      unfold keepB
      rw [new_dot hg]; rfl
    · simp at hf
  rw [e1, e2] at h1
  exact h1
end
theorem sumL_append (l m : List Fact) : sumL (l ++ m) = sumL l + sumL m := by
  unfold sumL
  induction l with
  | nil => simp
  | cons f l ih => simp only [List.cons_append, List.map_cons, List.foldr_cons, ih]; omega
theorem sumL_perm {l m : List Fact} (h : l.Perm m) : sumL l = sumL m := by
  induction h with
  | nil => rfl
  | cons x _ ih => unfold sumL at *; simp only [List.map_cons, List.foldr_cons, ih]
  | swap x y l => unfold sumL; simp only [List.map_cons, List.foldr_cons]; omega
  | trans _ _ h1 h2 => exact h1.trans h2
theorem sumL_split (p : Fact → Bool) : ∀ l : List Fact, sumL l = sumL (l.filter p) + sumL (l.filter fun f => !p f)
  | [] => rfl
  | f :: l => by
    have ih := sumL_split p l
    have e : sumL (f :: l) = f.num + sumL l := rfl
    cases h : p f with
    | true =>
      rw [List.filter_cons_of_pos h, List.filter_cons_of_neg (by simp [h]), e]
      have e2 : sumL (f :: l.filter p) = f.num + sumL (l.filter p) := rfl
      rw [e2]; omega
    | false =>
      rw [List.filter_cons_of_neg (by simp [h]), List.filter_cons_of_pos (by simp [h]), e]
      have e2 : sumL (f :: l.filter fun f => !p f) = f.num + sumL (l.filter fun f => !p f) := rfl
      rw [e2]; omega

/-- A key's count, behind a deed that counts. -/
theorem inc_says {s : State} {dv : Int} {o : OpR} (hsm : Small s) (hn : ∀ f ∈ s.facts, f.kind = 3 → -6200 ≤ f.num ∧ f.num ≤ 6200) (hb : badOp dv o = false) (hl : (makes o && largeF (madeF s dv o)) = false) (hk : o.kind = 4) (h5 : -1000 ≤ o.n ∧ o.n ≤ 1000) :
    sumUp 0 ((joinL s (deltaL s dv o)).facts.filter (Fact.of o.key 3)) = W (sumUp 0 (s.facts.filter (Fact.of o.key 3)) + o.n) := by
  have hg := hsm.good
  have hm : makes o = true := by unfold makes; rw [hk]; rfl
  obtain ⟨k1, k2, k3⟩ := sum_small hsm hn h5 (p := goesF dv o) (fun f hf => by unfold goesF at hf; simp [hk] at hf; exact hf.2.1)
  obtain ⟨q1, q2, q3⟩ := sum_small hsm hn (n := 0) (by omega) (p := Fact.of o.key 3) (fun f hf => by simp [Fact.of] at hf; exact hf.2)
  have hnum : (madeF s dv o).num = o.n + sumL (s.facts.filter (goesF dv o)) := by
    have : (madeF s dv o).num = sumFrom dv o o.n s.facts := by unfold madeF; simp [hk]
    rw [this, sumFrom_gone, k1]
  have hp := (deed_perm hg hb hl).filter (Fact.of o.key 3)
  have hml : madeL s dv o = [madeF s dv o] := by unfold madeL; rw [hm]; rfl
  have hof : Fact.of o.key 3 (madeF s dv o) = true := by simp [Fact.of, madeF, hk]
  rw [hml, List.filter_append, List.filter_cons_of_pos hof, List.filter_nil] at hp
  have hsum := sumL_perm hp
  rw [sumL_append] at hsum
  have e1 : sumL [madeF s dv o] = (madeF s dv o).num := by unfold sumL; simp
  have hsplit := sumL_split (goesF dv o) (s.facts.filter (Fact.of o.key 3))
  have e2 : (s.facts.filter (Fact.of o.key 3)).filter (goesF dv o) = s.facts.filter (goesF dv o) := by
    rw [List.filter_filter]
    refine List.filter_congr fun f _ => ?_
    cases h : goesF dv o f with
    | false => simp
    | true =>
      unfold goesF at h
      simp [hk] at h
      simp [Fact.of, h]
  have e3 : (s.facts.filter (Fact.of o.key 3)).filter (fun f => !goesF dv o f) = (s.facts.filter (fun f => !goesF dv o f)).filter (Fact.of o.key 3) := by
    rw [List.filter_filter, List.filter_filter]
    exact List.filter_congr fun f _ => Bool.and_comm _ _
  rw [e2, e3] at hsplit
  have htot : sumL ((joinL s (deltaL s dv o)).facts.filter (Fact.of o.key 3)) = sumL (s.facts.filter (Fact.of o.key 3)) + o.n := by rw [hsum, e1, hnum]; omega
  -- no count is large
  have hd2 := delta_len (s := s) (dev := dv) (o := o)
  have hj := joinL_len (a := s) (b := deltaL s dv o)
  have hz := hsm.sizes
  have hfl := List.length_filter_le (Fact.of o.key 3) (joinL s (deltaL s dv o)).facts
  have hbnd : ∀ f ∈ (joinL s (deltaL s dv o)).facts.filter (Fact.of o.key 3), -1018000 ≤ f.num ∧ f.num ≤ 1018000 := fun f hf => by
    obtain ⟨h1, h2⟩ := List.mem_filter.1 hf
    rcases (deed_facts hg hb hl).1 h1 with ⟨h3, _⟩ | ⟨_, h3⟩
    · have := hn f h3 (by simp [Fact.of] at h2; exact h2.2)
      omega
    · rw [h3, hnum]; omega
  have hc : (1018000 : Int) * ((joinL s (deltaL s dv o)).facts.filter (Fact.of o.key 3)).length ≤ 1018000 * 165 := Int.mul_le_mul_of_nonneg_left (by omega) (by omega)
  obtain ⟨r1, _, _⟩ := sumUp_small hbnd (by omega) (by omega) (by omega) (n := 0)
  rw [r1, q1, htot]
  have : W (0 + sumL (s.facts.filter (Fact.of o.key 3)) + o.n) = 0 + sumL (s.facts.filter (Fact.of o.key 3)) + o.n := wrap64 (by omega)
  rw [this]; omega

end Go.Proofs.YtnccbccnjjachaaGreatDoor.Eng
