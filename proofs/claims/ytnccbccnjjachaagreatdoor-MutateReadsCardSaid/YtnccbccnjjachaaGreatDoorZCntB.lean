/- What devices of a group have counted stays small: plain lists, no program. No statement of the seat is proved here. -/
import Derived.Test.YtnccbccnjjachaaGreatDoorZPartK
import Derived.Test.YtnccbccnjjachaaGreatDoorZBufT
import Derived.Test.YtnccbccnjjachaaGreatDoorZJoinR0
namespace Go.Proofs.YtnccbccnjjachaaGreatDoor.Eng
open Go
set_option linter.unusedVariables false
set_option linter.unusedSimpArgs false

structure Cnt (l : List State) : Prop where
  uniq : ∀ s ∈ l, ∀ t ∈ l, ∀ u ∈ l, ∀ f ∈ s.facts, ∀ g ∈ t.facts, f.kind = 3 → g.kind = 3 → f.dev = g.dev → f.key = g.key → f.n < g.n → hasDot u.seen g.dot = true → hasDot u.seen f.dot = true ∧ f ∉ u.facts
  num : ∀ s ∈ l, ∀ f ∈ s.facts, f.kind = 3 → -(155 * f.n) ≤ f.num ∧ f.num ≤ 155 * f.n
theorem Cnt.nil : Cnt (List.replicate 4 ⟨[], []⟩) := by
  have hm : ∀ s ∈ List.replicate 4 (State.mk [] []), s = ⟨[], []⟩ := fun s hs => (List.mem_replicate.1 hs).2
  refine ⟨fun s hs _ _ _ _ f hf => ?_, fun s hs f hf => ?_⟩
  · rw [hm s hs] at hf; simp at hf
  · rw [hm s hs] at hf; simp at hf

theorem Cnt.join {k : Int} {l : List State} (h : Cnt l) (g : Group k l) {i : Nat} {s t : State} (hs : s ∈ l) (ht : t ∈ l) : Cnt (l.set i (joinL s t)) := by
  have hm : ∀ x ∈ l.set i (joinL s t), x ∈ l ∨ x = joinL s t := fun x hx => List.mem_or_eq_of_mem_set hx
  have old : ∀ x ∈ l.set i (joinL s t), ∀ f ∈ x.facts, ∃ y ∈ l, f ∈ y.facts := fun x hx f hf => by
    rcases hm x hx with h | rfl
    · exact ⟨x, h, hf⟩
    · rcases mem_joinF.1 hf with ⟨h, _⟩ | ⟨h, _⟩
      · exact ⟨s, hs, h⟩
      · exact ⟨t, ht, h⟩
  refine ⟨fun x hx y hy u hu f hf q hq k1 k2 k3 k4 k5 hd => ?_, fun x hx f hf k1 => ?_⟩
  · obtain ⟨x', hx', hf'⟩ := old x hx f hf
    obtain ⟨y', hy', hq'⟩ := old y hy q hq
    rcases hm u hu with h1 | rfl
    · exact h.uniq x' hx' y' hy' u h1 f hf' q hq' k1 k2 k3 k4 k5 hd
    · rw [joinL_seen (g.good hs).norm (g.good ht).norm, Bool.or_eq_true] at hd
      rcases hd with hd | hd
      · obtain ⟨a, b⟩ := h.uniq x' hx' y' hy' s hs f hf' q hq' k1 k2 k3 k4 k5 hd
        refine ⟨by rw [joinL_seen (g.good hs).norm (g.good ht).norm, a]; rfl, fun hf2 => ?_⟩
        rcases mem_joinF.1 hf2 with ⟨h2, _⟩ | ⟨_, h2⟩
        · exact b h2
        · unfold keepB at h2; rw [a] at h2; cases h2
      · obtain ⟨a, b⟩ := h.uniq x' hx' y' hy' t ht f hf' q hq' k1 k2 k3 k4 k5 hd
        refine ⟨by rw [joinL_seen (g.good hs).norm (g.good ht).norm, a, Bool.or_true], fun hf2 => ?_⟩
        rcases mem_joinF.1 hf2 with ⟨h2, h3⟩ | ⟨h2, _⟩
        · unfold keepA at h3
          rw [a] at h3
          simp only [Bool.not_true, Bool.false_or] at h3
          obtain ⟨f', hf', e⟩ := atD_iff.1 h3
          have := g.agree s hs t ht f h2 f' hf' e.symm
          subst this
          exact b hf'
        · exact b h2
  · obtain ⟨x', hx', hf'⟩ := old x hx f hf
    exact h.num x' hx' f hf' k1

theorem sumUp_small {c : Int} : ∀ {l : List Fact} {n : Int}, (∀ f ∈ l, -c ≤ f.num ∧ f.num ≤ c) → 0 ≤ c → -1000000000000 ≤ n - c * l.length → n + c * l.length ≤ 1000000000000 →
    sumUp n l = n + sumL l ∧ -(c * l.length) ≤ sumL l ∧ sumL l ≤ c * l.length
  | [], n, _, _, _, _ => by simp [sumUp, sumL]
  | f :: l, n, h, hc, h1, h2 => by
    obtain ⟨a, b⟩ := h f (by simp)
    have e : (c * ((f :: l).length : Nat) : Int) = c * (l.length : Int) + c := by simp only [List.length_cons]; rw [Int.natCast_add, Int.mul_add]; simp
    rw [e] at h1 h2 ⊢
    have hcl : 0 ≤ c * (l.length : Int) := Int.mul_nonneg hc (by omega)
    have hw : W (n + f.num) = n + f.num := wrap64 (by omega)
    obtain ⟨k1, k2, k3⟩ := sumUp_small (l := l) (n := n + f.num) (fun x hx => h x (by simp [hx])) hc (by omega) (by omega)
    have e2 : sumUp n (f :: l) = sumUp (W (n + f.num)) l := rfl
    have e3 : sumL (f :: l) = f.num + sumL l := rfl
    rw [e2, hw, k1, e3]
    omega

theorem Cnt.deed {k : Int} {l : List State} (h : Cnt l) (g : Group k l) {i : Nat} {s : State} (hi : l[i]? = some s) {o : OpR} (ho : -155 ≤ o.n ∧ o.n ≤ 155) (hz : (doL s (i : Int) o).2 = 0) : Cnt (l.set i (joinL s (doL s (i : Int) o).1)) := by
  have hs : s ∈ l := List.mem_of_getElem? hi
  have hg := g.good hs
  obtain ⟨hb, hl, he, _⟩ := doL_zero hz
  have hd := delta_good hg hb hl
  rw [he]
  have hfx : ∀ f, f ∈ (joinL s (deltaL s (i : Int) o)).facts ↔ (f ∈ s.facts ∧ goesF i o f = false) ∨ (makes o = true ∧ f = madeF s i o) := fun f => deed_facts hg hb hl
  have hsx : ∀ d, hasDot (joinL s (deltaL s (i : Int) o)).seen d = true ↔ hasDot s.seen d = true ∨ (makes o = true ∧ d = (madeF s i o).dot) := fun d => by
    rw [joinL_seen hg.norm hd.norm, Bool.or_eq_true, delta_seen hg hb hl]
    constructor
    · rintro (h1 | ⟨f, hf, _, rfl⟩ | h1)
      · exact .inl h1
      · exact .inl (hg.has f hf)
      · exact .inr h1
    · rintro (h1 | h1)
      · exact .inl h1
      · exact .inr (.inr h1)
  have hnew := new_dot hg (i : Int) o
  have hN : (madeF s (i : Int) o).dev = (i : Int) ∧ (madeF s (i : Int) o).n = lastL s.seen (i : Int) + 1 := ⟨rfl, rfl⟩
  -- what the group has seen of this device its own state has seen
  have own : ∀ t ∈ l, ∀ d, hasDot t.seen d = true → d.dev = (i : Int) → hasDot s.seen d = true := fun t ht d hd' hdev => by
    obtain ⟨_, _, _, _, t', h5, h6⟩ := g.own t ht d hd'
    rw [hdev] at h5
    simp only [Int.toNat_natCast] at h5
    rw [hi] at h5; injection h5 with h5; subst h5
    exact h6
  have last : ∀ t ∈ l, ∀ f ∈ t.facts, f.dev = (i : Int) → f.n ≤ lastL s.seen (i : Int) := fun t ht f hf hdev => by
    have h1 := own t ht f.dot ((g.good ht).has f hf) hdev
    have e : f.dot = ⟨(i : Int), f.n⟩ := by unfold Fact.dot; rw [hdev]
    rw [e] at h1
    exact lastL_none h1
  generalize joinL s (deltaL s (i : Int) o) = x at *
  have hm : ∀ y ∈ l.set i x, y ∈ l ∨ y = x := fun y hy => List.mem_or_eq_of_mem_set hy
  have old : ∀ y ∈ l.set i x, ∀ f ∈ y.facts, (∃ t ∈ l, f ∈ t.facts) ∨ (makes o = true ∧ f = madeF s i o) := fun y hy f hf => by
    rcases hm y hy with h1 | rfl
    · exact .inl ⟨y, h1, hf⟩
    · rcases (hfx f).1 hf with ⟨h1, _⟩ | h1
      · exact .inl ⟨s, hs, h1⟩
      · exact .inr h1
  refine ⟨fun y hy z hzz u hu f hf q hq k1 k2 k3 k4 k5 hdd => ?_, fun y hy f hf k1 => ?_⟩
  · rcases old y hy f hf with ⟨t, ht, hft⟩ | ⟨hm1, rfl⟩
    · rcases old z hzz q hq with ⟨t', ht', hqt⟩ | ⟨hm2, rfl⟩
      · rcases hm u hu with h1 | rfl
        · exact h.uniq t ht t' ht' u h1 f hft q hqt k1 k2 k3 k4 k5 hdd
        · rcases (hsx _).1 hdd with h2 | ⟨_, h2⟩
          · obtain ⟨a, b⟩ := h.uniq t ht t' ht' s hs f hft q hqt k1 k2 k3 k4 k5 h2
            refine ⟨(hsx _).2 (.inl a), fun hfx' => ?_⟩
            rcases (hfx f).1 hfx' with ⟨h3, _⟩ | ⟨_, h3⟩
            · exact b h3
            · have : hasDot s.seen (madeF s (i : Int) o).dot = true := by rw [← h3]; exact a
              rw [hnew] at this; cases this
          · exfalso
            have h3 := own t' ht' q.dot ((g.good ht').has q hqt) (by rw [h2]; rfl)
            rw [h2, hnew] at h3; cases h3
      · have hdev : f.dev = (i : Int) := k3.trans hN.1
        rcases hm u hu with h1 | rfl
        · exfalso
          have h3 := own u h1 _ hdd hN.1
          rw [hnew] at h3; cases h3
        · refine ⟨(hsx _).2 (.inl (own t ht f.dot ((g.good ht).has f hft) hdev)), fun hfx' => ?_⟩
          rcases (hfx f).1 hfx' with ⟨h3, h4⟩ | ⟨_, h3⟩
          · have hk4 : o.kind = 4 := by
              unfold madeF at k2
              simp only at k2
              by_cases h5 : o.kind = 4
              · exact h5
              · rw [if_neg h5] at k2
                unfold makes at hm2
                rw [k2] at hm2
                cases hm2
            have hkey : f.key = o.key := k4
            unfold goesF at h4
            simp [hkey, hk4, k1, hdev] at h4
          · rw [h3] at k5; omega
    · exfalso
      rcases old z hzz q hq with ⟨t', ht', hqt⟩ | ⟨hm2, rfl⟩
      · have := last t' ht' q hqt (k3.symm.trans hN.1)
        omega
      · omega
  · rcases old y hy f hf with ⟨t, ht, hft⟩ | ⟨hm1, rfl⟩
    · exact h.num t ht f hft k1
    · have hk4 : o.kind = 4 := by
        unfold madeF at k1
        simp only at k1
        by_cases h5 : o.kind = 4
        · exact h5
        · rw [if_neg h5] at k1
          unfold makes at hm1
          rw [k1] at hm1
          cases hm1
      have hl0 := (lastL_le (d := (i : Int)) hg.norm.right).1
      have hnum : (madeF s (i : Int) o).num = sumUp o.n (goneL s i o) := by
        have : (madeF s (i : Int) o).num = sumFrom i o o.n s.facts := by unfold madeF; simp [hk4]
        rw [this, sumFrom_gone]; rfl
      have hgone : ∀ f ∈ goneL s i o, f ∈ s.facts ∧ f.kind = 3 ∧ f.dev = (i : Int) ∧ f.key = o.key := fun f hf => by
        obtain ⟨h1, h2⟩ := List.mem_filter.1 hf
        unfold goesF at h2
        simp [hk4] at h2
        exact ⟨h1, h2.2.1, h2.2.2, h2.1⟩
      have hgn : ∀ f ∈ goneL s i o, 1 ≤ f.n ∧ f.n ≤ lastL s.seen (i : Int) := fun f hf => by
        obtain ⟨h1, _, h3, _⟩ := hgone f hf
        exact ⟨(g.dots hs f.dot (hg.has f h1)).2.2.1, last s hs f h1 h3⟩
      rw [hnum, hN.2]
      have hasc : (goneL s i o).Pairwise FLt := hg.asc.sublist List.filter_sublist
      have hk := (g.dots hs)
      cases hgl : goneL s i o with
      | nil => simp [sumUp]; omega
      | cons a r =>
        rw [hgl] at hgone hasc hgn
        cases r with
        | nil =>
          obtain ⟨h1, h2, h3, h4⟩ := hgone a (by simp)
          obtain ⟨h5, h6⟩ := hgn a (by simp)
          obtain ⟨h7, h8⟩ := h.num s hs a h1 h2
          have hlast := (lastL_le (d := (i : Int)) hg.norm.right).2
          have hw : W (o.n + a.num) = o.n + a.num := wrap64 (by omega)
          simp only [sumUp, List.foldl_cons, List.foldl_nil, hw]
          omega
        | cons b r =>
          exfalso
          obtain ⟨h1, h2, h3, h4⟩ := hgone a (by simp)
          obtain ⟨h1', h2', h3', h4'⟩ := hgone b (by simp)
          have hlt := (List.pairwise_cons.1 hasc).1 b (by simp)
          unfold FLt dotLt at hlt
          simp only [Fact.dot] at hlt
          exact (h.uniq s hs s hs s hs a h1 b h1' h2 h2' (h3.trans h3'.symm) (h4.trans h4'.symm) (by omega) (hg.has b h1')).2 h1

theorem Cnt.step {k : Int} {l : List State} (h : Cnt l) (g : Group k l) (x y z : Nat) (hz : z < 256) : Cnt (apartStep l x y z) := by
  have h1 := getD_some g.len (x % 4) (Nat.mod_lt _ (by omega))
  have h2 := getD_some g.len (y % 4) (Nat.mod_lt _ (by omega))
  unfold apartStep
  simp only
  split
  · exact h.join g (List.mem_of_getElem? h1) (List.mem_of_getElem? h2)
  split
  · rename_i hd
    exact h.deed g h1 (by unfold opOf; simp only; omega) hd
  · exact h
theorem Cnt.from : ∀ {n : Nat} {k : Int} {l : List State} {ns : List Nat}, Cnt l → Group k l → 0 ≤ k → (∀ n ∈ ns, n < 256) → Cnt (apartFrom n l ns)
  | 0, k, l, ns, h, _, _, _ => by simp only [apartFrom]; exact h
  | n + 1, k, l, [], h, _, _, _ => by simp only [apartFrom]; exact h
  | n + 1, k, l, [_], h, _, _, _ => by simp only [apartFrom]; exact h
  | n + 1, k, l, [_, _], h, _, _, _ => by simp only [apartFrom]; exact h
  | n + 1, k, l, x :: y :: z :: rest, h, g, hk, hb => by
    simp only [apartFrom]
    exact Cnt.from (h.step g x y z (hb z (by simp))) (g.step hk x y z) (by omega) fun n hn => hb n (by simp [hn])
theorem apartS_cnt (ns : List Nat) (hb : ∀ n ∈ ns, n < 256) : Cnt (apartS ns) := Cnt.from .nil .nil (Int.le_refl _) hb

end Go.Proofs.YtnccbccnjjachaaGreatDoor.Eng
