/- How many dots runs have; what a delta names: plain lists, no program. No statement of the seat is proved here. -/
import Derived.Test.YtnccbccnjjachaaGreatDoorZMutT
namespace Go.Proofs.YtnccbccnjjachaaGreatDoor.Eng
open Go
set_option linter.unusedVariables false
set_option linter.unusedSimpArgs false

theorem len_le_of {α : Type} [DecidableEq α] : ∀ {l m : List α}, l.Nodup → (∀ x ∈ l, x ∈ m) → l.length ≤ m.length
  | [], m, _, _ => by simp
  | x :: l, m, h, hm => by
    obtain ⟨h1, h2⟩ := List.nodup_cons.1 h
    have hx := hm x (by simp)
    have := len_le_of (m := m.erase x) h2 fun y hy => by
      have hne : y ≠ x := fun e => h1 (e ▸ hy)
      exact (List.mem_erase_of_ne hne).2 (hm y (by simp [hy]))
    rw [List.length_erase_of_mem hx] at this
    have hp : 0 < m.length := List.length_pos_of_mem hx
    simp only [List.length_cons]
    omega
def expandR (r : Rn) : List Dot := (List.range (r.to - r.frm + 1).toNat).map fun i : Nat => ⟨r.dev, r.frm + (i : Int)⟩
def expandL (l : List Rn) : List Dot := l.flatMap expandR
def sumR' (l : List Rn) : Int := (l.map fun r => r.to - r.frm + 1).foldr (· + ·) 0
theorem mem_expandR {r : Rn} (hr : r.Right) {d : Dot} : d ∈ expandR r ↔ r.dev = d.dev ∧ r.frm ≤ d.n ∧ d.n ≤ r.to := by
  have h1 := hr.ft
  unfold expandR
  simp only [List.mem_map, List.mem_range]
  constructor
  · rintro ⟨i, hi, rfl⟩
    simp only
    exact ⟨trivial, by omega, by omega⟩
  · rintro ⟨h2, h3, h4⟩
    refine ⟨(d.n - r.frm).toNat, by omega, ?_⟩
    obtain ⟨a, b⟩ := d
    simp only at h2 h3 h4 ⊢
    subst h2
    congr 1
    omega
theorem mem_expandL {l : List Rn} (h : ∀ r ∈ l, r.Right) {d : Dot} : d ∈ expandL l ↔ hasDot l d = true := by
  rw [hasDot_iff]
  unfold expandL
  simp only [List.mem_flatMap]
  constructor
  · rintro ⟨r, hr, hd⟩; exact ⟨r, hr, (mem_expandR (h r hr)).1 hd⟩
  · rintro ⟨r, hr, hd⟩; exact ⟨r, hr, (mem_expandR (h r hr)).2 hd⟩
theorem nodup_expandR (r : Rn) : (expandR r).Nodup := by
  unfold expandR
  exact List.Pairwise.map _ (fun (i j : Nat) (hij : i ≠ j) e => hij (by injection e with _ e; omega)) List.nodup_range
theorem nodup_expandL : ∀ {l : List Rn}, Norm l → (expandL l).Nodup
  | [], _ => by simp [expandL]
  | r :: l, h => by
    have hs := (List.pairwise_cons.1 h.sep).1
    unfold expandL
    rw [List.flatMap_cons]
    refine List.nodup_append.2 ⟨nodup_expandR r, nodup_expandL h.tail, fun d hd e he hde => ?_⟩
    subst hde
    obtain ⟨a1, a2, a3⟩ := (mem_expandR h.head).1 hd
    obtain ⟨q, hq, b⟩ := hasDot_iff.1 ((mem_expandL h.tail.right).1 he)
    have hsep := hs q hq
    unfold Sep at hsep
    omega
theorem length_expandL : ∀ {l : List Rn}, (∀ r ∈ l, r.Right) → ((expandL l).length : Int) = sumR' l
  | [], _ => rfl
  | r :: l, h => by
    have hr := (h r (by simp)).ft
    have ih := length_expandL (l := l) fun x hx => h x (by simp [hx])
    unfold expandL at *
    unfold sumR' at *
    rw [List.flatMap_cons, List.length_append, List.map_cons, List.foldr_cons, ← ih]
    unfold expandR
    simp only [List.length_map, List.length_range]
    omega
theorem sumR'_append (l m : List Rn) : sumR' (l ++ m) = sumR' l + sumR' m := by
  unfold sumR'
  induction l with
  | nil => simp
  | cons r l ih => simp only [List.cons_append, List.map_cons, List.foldr_cons, ih]; omega
theorem sumR'_pos {l : List Rn} (h : ∀ r ∈ l, r.Right) : 0 ≤ sumR' l := by
  rw [← length_expandL h]; omega

/-! ### What a delta names -/
variable {s : State} {dev : Int} {o : OpR}
theorem delta_of_fact (hs : Good s) (hb : badOp dev o = false) (hl : (makes o && largeF (madeF s dev o)) = false) {f : Fact} (hf : f ∈ s.facts) : hasDot (deltaL s dev o).seen f.dot = goesF dev o f := by
  rw [Bool.eq_iff_iff, delta_seen hs hb hl]
  constructor
  · rintro (⟨g, hg, h1, h2⟩ | ⟨_, h2⟩)
    · rw [← asc_uniq hs.asc hg hf h2]; exact h1
    · have := hs.has f hf
      rw [h2, new_dot hs] at this; cases this
  · intro h; exact .inl ⟨f, hf, h, rfl⟩
def newN (o : OpR) : Int := if makes o then 1 else 0
theorem delta_count (hs : Good s) (hb : badOp dev o = false) (hl : (makes o && largeF (madeF s dev o)) = false) : sumR' (deltaL s dev o).seen = (goneL s dev o).length + newN o := by
  have hn : Norm (deltaL s dev o).seen := (delta_good hs hb hl).norm
  rw [← length_expandL hn.right]
  have hset : ∀ d, d ∈ expandL (deltaL s dev o).seen ↔ d ∈ (goneL s dev o).map Fact.dot ++ (if makes o then [(madeF s dev o).dot] else []) := fun d => by
    rw [mem_expandL hn.right, delta_seen hs hb hl]
    simp only [List.mem_append, List.mem_map, goneL, List.mem_filter]
    constructor
    · rintro (⟨f, h1, h2, h3⟩ | ⟨h1, h2⟩)
      · exact .inl ⟨f, ⟨h1, h2⟩, h3⟩
      · exact .inr (by rw [h1, if_pos rfl, h2]; simp)
    · rintro (⟨f, ⟨h1, h2⟩, h3⟩ | h)
      · exact .inl ⟨f, h1, h2, h3⟩
      · cases hm : makes o with
        | true => rw [hm, if_pos rfl] at h; exact .inr ⟨rfl, by simpa using h⟩
        | false => rw [hm] at h; simp at h
  have hnd : ((goneL s dev o).map Fact.dot ++ (if makes o then [(madeF s dev o).dot] else [])).Nodup := by
    refine List.nodup_append.2 ⟨?_, by split <;> simp, fun d hd e he hde => ?_⟩
    · refine List.Pairwise.map _ (fun a b h => h) ?_
      exact (asc_ne (hs.asc.sublist List.filter_sublist))
    · subst hde
      obtain ⟨f, hf, rfl⟩ := List.mem_map.1 hd
      cases hm : makes o with
      | true =>
        rw [hm, if_pos rfl] at he
        have := hs.has f (List.mem_filter.1 hf).1
        rw [List.mem_singleton.1 he, new_dot hs] at this
        cases this
      | false => rw [hm] at he; simp at he
  have hle1 := len_le_of (nodup_expandL hn) fun d hd => (hset d).1 hd
  have hle2 := len_le_of hnd fun d hd => (hset d).2 hd
  have hlen : ((goneL s dev o).map Fact.dot ++ (if makes o then [(madeF s dev o).dot] else [])).length = (goneL s dev o).length + (if makes o then 1 else 0) := by
    rw [List.length_append, List.length_map]
    split <;> rfl
  rw [hlen] at hle1 hle2
  unfold newN
  cases hm : makes o <;> simp only [hm, if_true, Bool.false_eq_true, if_false] at hle1 hle2 ⊢ <;> omega

end Go.Proofs.YtnccbccnjjachaaGreatDoor.Eng
