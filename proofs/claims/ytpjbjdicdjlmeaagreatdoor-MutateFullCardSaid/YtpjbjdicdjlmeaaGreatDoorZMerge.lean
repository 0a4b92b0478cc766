/- Runs put in order and joined: plain lists, no program. No statement of the seat is proved here. -/
import Derived.Test.YtpjbjdicdjlmeaaGreatDoorZDots1
import Derived.Test.YtpjbjdicdjlmeaaGreatDoorZEng26
namespace Go.Proofs.YtpjbjdicdjlmeaaGreatDoor.Eng
open Go Go.Sort
set_option linter.unusedVariables false
set_option linter.unusedSimpArgs false

/-- What no list here is longer than. -/
abbrev Sm {α : Type} (l : List α) : Prop := l.length ≤ 1000000

theorem told_runs (H : Heap) (l : List Rn) : viewW H (.c (runsC l)) (.c (runsC l)) := ⟨_, by simp only [viewA, viewFn, runsC, viewC, closedC, closed_runs, if_true], .same _⟩

def cmpRun (a b : Rn) : Int := if cmpInt a.dev b.dev = 0 then cmpInt a.frm b.frm else cmpInt a.dev b.dev

theorem cmpRun_lt {a b : Rn} : cmpRun a b < 0 ↔ a.dev < b.dev ∨ (a.dev = b.dev ∧ a.frm < b.frm) := by
  unfold cmpRun cmpInt
  by_cases h1 : a.dev < b.dev <;> by_cases h2 : b.dev < a.dev <;> by_cases h3 : a.frm < b.frm <;> by_cases h4 : b.frm < a.frm <;> simp [h1, h2, h3, h4] <;> omega

theorem cmpRun_swo : SWO (ltOf cmpRun) := by
  constructor
  · intro x; simp only [ltOf, decide_eq_false_iff_not, cmpRun_lt]; omega
  · intro x y z h1 h2
    simp only [ltOf, decide_eq_true_eq, cmpRun_lt] at *
    omega
  · intro x y z h1 h2
    simp only [ltOf, decide_eq_false_iff_not, cmpRun_lt] at *
    omega

/-- Runs in order are joined where they touch, behind the run 'p'. -/
def mergeFrom : Option Rn → List Rn → List Rn
  | p, [] => p.toList
  | none, r :: rest => mergeFrom (some r) rest
  | some q, r :: rest => if q.dev = r.dev ∧ r.frm ≤ q.to + 1 then mergeFrom (some ⟨q.dev, q.frm, if q.to < r.to then r.to else q.to⟩) rest else q :: mergeFrom (some r) rest
def normL (l : List Rn) : List Rn := mergeFrom none (sortL cmpRun l)

def ofDot (d : Dot) : Rn := ⟨d.dev, d.n, d.n⟩
def ofL (l : List Dot) : List Rn := (l.map ofDot).filter Rn.right
theorem ofL_right {l : List Dot} : ∀ r ∈ ofL l, r.Right := fun r h => Rn.right_iff.1 (List.mem_filter.1 h).2
theorem ofL_len (l : List Dot) : (ofL l).length ≤ l.length := by
  unfold ofL
  exact Nat.le_trans (List.length_filter_le _ _) (by simp)

/-- The last number of a device's dots. -/
def lastFrom (d : Int) (m : Int) : List Rn → Int
  | [] => m
  | r :: l => lastFrom d (if r.dev = d then (if m < r.to then r.to else m) else m) l
def lastL (l : List Rn) (d : Int) : Int := lastFrom d 0 l

def LeR (a b : Rn) : Prop := a.dev < b.dev ∨ (a.dev = b.dev ∧ a.frm ≤ b.frm)

theorem mergeFrom_len : ∀ {l : List Rn} {p : Option Rn}, (mergeFrom p l).length ≤ p.toList.length + l.length
  | [], p => by cases p <;> simp [mergeFrom]
  | r :: l, none => by
    have := mergeFrom_len (l := l) (p := some r)
    simp only [mergeFrom]
    simp at this ⊢
    omega
  | r :: l, some q => by
    simp only [mergeFrom]
    split
    · have := mergeFrom_len (l := l) (p := some ⟨q.dev, q.frm, if q.to < r.to then r.to else q.to⟩)
      simp at this ⊢
      omega
    · have := mergeFrom_len (l := l) (p := some r)
      simp at this ⊢
      omega

theorem mergeFrom_some : ∀ {l : List Rn} {q : Rn}, q.Right → (∀ r ∈ l, r.Right) → l.Pairwise LeR → (∀ r ∈ l, LeR q r) →
    Norm (mergeFrom (some q) l) ∧ (∀ x ∈ mergeFrom (some q) l, LeR q x) ∧ ∀ d, hasDot (mergeFrom (some q) l) d = (q.has d || hasDot l d)
  | [], q, hq, _, _, _ => by
    refine ⟨⟨?_, ?_⟩, ?_, ?_⟩ <;> simp [mergeFrom, hasDot, LeR, hq]
  | r :: l, q, hq, hl, hp, hle => by
    have hr := hl r (by simp)
    have hl' : ∀ x ∈ l, x.Right := fun x hx => hl x (by simp [hx])
    obtain ⟨hp1, hp2⟩ := List.pairwise_cons.1 hp
    have hqr := hle r (by simp)
    simp only [mergeFrom]
    split
    · rename_i h
      have hq' : (⟨q.dev, q.frm, if q.to < r.to then r.to else q.to⟩ : Rn).Right := by
        have := hq.ft
        have := hq.tm
        have := hr.tm
        exact ⟨hq.d0, hq.d8, hq.f1, by simp only; split <;> omega, by simp only; split <;> omega⟩
      obtain ⟨h1, h2, h3⟩ := mergeFrom_some hq' hl' hp2 (fun x hx => by have := hle x (by simp [hx]); exact this)
      refine ⟨h1, h2, fun d => ?_⟩
      rw [h3, hasDot_cons, ← Bool.or_assoc]
      congr 1
      rw [Bool.eq_iff_iff]
      simp only [Bool.or_eq_true, Rn.has_iff]
      have := hq.ft
      have := hr.ft
      unfold LeR at hqr
      split <;> omega
    · rename_i h
      obtain ⟨h1, h2, h3⟩ := mergeFrom_some hr hl' hp2 hp1
      have hs : ∀ x ∈ mergeFrom (some r) l, Sep q x := fun x hx => by
        have := h2 x hx
        have := hq.ft
        unfold LeR at *
        unfold Sep
        omega
      refine ⟨⟨?_, ?_⟩, ?_, fun d => ?_⟩
      · intro x hx
        rcases List.mem_cons.1 hx with rfl | hx
        · exact hq
        · exact h1.right x hx
      · exact List.pairwise_cons.2 ⟨hs, h1.sep⟩
      · intro x hx
        rcases List.mem_cons.1 hx with rfl | hx
        · exact .inr ⟨rfl, Int.le_refl _⟩
        · have := hs x hx
          have := hq.ft
          unfold Sep at *
          unfold LeR
          omega
      · rw [hasDot_cons, h3, hasDot_cons]

theorem sortL_le (l : List Rn) : (sortL cmpRun l).Pairwise LeR := by
  refine (sortL_spec cmpRun_swo l).2.imp fun {a b} h => ?_
  rw [cmpRun_lt] at h
  unfold LeR
  omega
theorem hasDot_perm {a b : List Rn} (h : a.Perm b) (d : Dot) : hasDot a d = hasDot b d := by
  rw [Bool.eq_iff_iff, hasDot_iff, hasDot_iff]
  exact ⟨fun ⟨r, hr, hx⟩ => ⟨r, h.mem_iff.1 hr, hx⟩, fun ⟨r, hr, hx⟩ => ⟨r, h.mem_iff.2 hr, hx⟩⟩

theorem normL_len (l : List Rn) : (normL l).length ≤ l.length := by
  have := mergeFrom_len (l := sortL cmpRun l) (p := none)
  rw [(sortL_spec cmpRun_swo l).1.length_eq] at this
  simpa [normL] using this

theorem normL_ok {l : List Rn} (hl : ∀ r ∈ l, r.Right) : Norm (normL l) ∧ ∀ d, hasDot (normL l) d = hasDot l d := by
  have hp := (sortL_spec cmpRun_swo l).1
  have hs := sortL_le l
  have hr : ∀ r ∈ sortL cmpRun l, r.Right := fun r h => hl r (hp.mem_iff.1 h)
  unfold normL
  have key : ∀ s : List Rn, s.Perm l → s.Pairwise LeR → (∀ r ∈ s, r.Right) → Norm (mergeFrom none s) ∧ ∀ d, hasDot (mergeFrom none s) d = hasDot l d := by
    intro s hp hs hr
    cases s with
    | nil =>
      refine ⟨by simpa [mergeFrom] using Norm.nil, fun d => ?_⟩
      rw [← hasDot_perm hp]
      rfl
    | cons r s =>
      obtain ⟨h1, h2⟩ := List.pairwise_cons.1 hs
      obtain ⟨h3, _, h4⟩ := mergeFrom_some (hr r (by simp)) (fun x hx => hr x (by simp [hx])) h2 h1
      refine ⟨h3, fun d => ?_⟩
      rw [← hasDot_perm hp, hasDot_cons]
      exact h4 d
  exact key _ hp hs hr

/-- A run without another. -/
def withoutL (r q : Rn) : List Rn :=
  if r.dev ≠ q.dev ∨ q.to < r.frm ∨ r.to < q.frm then [r]
  else (if r.frm < q.frm then [⟨r.dev, r.frm, q.frm - 1⟩] else []) ++ (if q.to < r.to then [⟨r.dev, q.to + 1, r.to⟩] else [])
def cutL (acc : List Rn) (x : Rn) : List Rn := acc.flatMap fun r => withoutL r x
def minusL (a b : List Rn) : List Rn := b.foldl cutL a

theorem withoutL_len (r q : Rn) : (withoutL r q).length ≤ 2 := by
  unfold withoutL
  split
  · simp
  · split <;> split <;> simp
theorem flatMap_len2 {x : Rn} : ∀ (l : List Rn), (l.flatMap fun r => withoutL r x).length ≤ 2 * l.length
  | [] => by simp
  | r :: l => by
    have := flatMap_len2 (x := x) l
    have := withoutL_len r x
    rw [List.flatMap_cons, List.length_append, List.length_cons]
    omega

theorem withoutL_ok {r q : Rn} (hr : r.Right) (hq : q.Right) : (∀ p ∈ withoutL r q, p.Right ∧ p.dev = r.dev ∧ r.frm ≤ p.frm ∧ p.to ≤ r.to) ∧ (withoutL r q).Pairwise Sep ∧ ∀ d, hasDot (withoutL r q) d = (r.has d && !q.has d) := by
  obtain ⟨rd, rf, rt⟩ := r
  obtain ⟨qd, qf, qt⟩ := q
  have h1 := hr.d0; have h2 := hr.d8; have h3 := hr.f1; have h4 := hr.ft; have h5 := hr.tm
  have k1 := hq.d0; have k2 := hq.d8; have k3 := hq.f1; have k4 := hq.ft; have k5 := hq.tm
  simp only at h1 h2 h3 h4 h5 k1 k2 k3 k4 k5
  have key : ∀ (l : List Rn) (d : Dot), ((∃ x ∈ l, x.dev = d.dev ∧ x.frm ≤ d.n ∧ d.n ≤ x.to) ↔ (rd = d.dev ∧ rf ≤ d.n ∧ d.n ≤ rt) ∧ ¬ (qd = d.dev ∧ qf ≤ d.n ∧ d.n ≤ qt)) → hasDot l d = ((⟨rd, rf, rt⟩ : Rn).has d && !(⟨qd, qf, qt⟩ : Rn).has d) := by
    intro l d h
    rw [Bool.eq_iff_iff, hasDot_iff, h, Bool.and_eq_true, Bool.not_eq_true', Rn.has_iff, ← Bool.not_eq_true, Rn.has_iff]
  unfold withoutL
  simp only
  split
  · rename_i h
    refine ⟨?_, by simp, fun d => key _ _ ?_⟩
    · intro p hp; simp at hp; subst hp; exact ⟨hr, rfl, Int.le_refl _, Int.le_refl _⟩
    · simp; omega
  · rename_i h
    by_cases c1 : rf < qf <;> by_cases c2 : qt < rt
    · simp only [c1, c2, if_true]
      refine ⟨?_, by simp [Sep]; omega, fun d => key _ _ ?_⟩
      · intro p hp; simp at hp; rcases hp with rfl | rfl
        · exact ⟨⟨h1, h2, h3, by simp only; omega, by simp only; omega⟩, rfl, Int.le_refl _, by simp only; omega⟩
        · exact ⟨⟨h1, h2, by simp only; omega, by simp only; omega, by simp only; omega⟩, rfl, by simp only; omega, by simp only; omega⟩
      · simp; omega
    · simp only [c1, c2, if_true, if_false]
      refine ⟨?_, by simp, fun d => key _ _ ?_⟩
      · intro p hp; simp at hp; subst hp
        exact ⟨⟨h1, h2, h3, by simp only; omega, by simp only; omega⟩, rfl, Int.le_refl _, by simp only; omega⟩
      · simp; omega
    · simp only [c1, c2, if_true, if_false]
      refine ⟨?_, by simp, fun d => key _ _ ?_⟩
      · intro p hp; simp at hp; subst hp
        exact ⟨⟨h1, h2, by simp only; omega, by simp only; omega, by simp only; omega⟩, rfl, by simp only; omega, by simp only; omega⟩
      · simp; omega
    · simp only [c1, c2, if_false]
      refine ⟨?_, by simp, fun d => key _ _ ?_⟩
      · intro p hp; simp at hp
      · simp; omega

theorem cutL_norm {acc : List Rn} {x : Rn} (ha : Norm acc) (hx : x.Right) : Norm (cutL acc x) := by
  refine ⟨?_, ?_⟩
  · intro p hp
    obtain ⟨r, hr, h⟩ := List.mem_flatMap.1 hp
    exact ((withoutL_ok (ha.right r hr) hx).1 p h).1
  · unfold cutL
    rw [List.pairwise_flatMap]
    refine ⟨fun r hr => (withoutL_ok (ha.right r hr) hx).2.1, ?_⟩
    have := ha.sep
    refine List.Pairwise.imp_of_mem (fun {a b} hma hmb hab => ?_) this
    intro p hp q hq
    obtain ⟨_, p1, p2, p3⟩ := (withoutL_ok (ha.right a hma) hx).1 p hp
    obtain ⟨_, q1, q2, q3⟩ := (withoutL_ok (ha.right b hmb) hx).1 q hq
    unfold Sep at *
    omega
theorem cutL_has : ∀ {acc : List Rn} {x : Rn}, (∀ r ∈ acc, r.Right) → x.Right → ∀ d, hasDot (cutL acc x) d = (hasDot acc d && !x.has d)
  | [], x, _, _, d => rfl
  | r :: acc, x, ha, hx, d => by
    have := cutL_has (acc := acc) (x := x) (fun y hy => ha y (by simp [hy])) hx d
    unfold cutL at *
    rw [List.flatMap_cons, hasDot_append, this, (withoutL_ok (ha r (by simp)) hx).2.2, hasDot_cons]
    cases r.has d <;> cases x.has d <;> simp
theorem cutL_len {acc : List Rn} {x : Rn} (ha : Norm acc) (hx : x.Right) : (cutL acc x).length ≤ acc.length + 1 := by
  have key : ∀ (acc : List Rn), Norm acc → (cutL acc x).length ≤ acc.length + 1 ∧ ((∀ r ∈ acc, ¬ (r.dev = x.dev ∧ r.frm < x.frm ∧ x.to < r.to)) → (cutL acc x).length ≤ acc.length) := by
    intro acc
    induction acc with
    | nil => intro _; simp [cutL]
    | cons r acc ih =>
      intro ha
      obtain ⟨i1, i2⟩ := ih ha.tail
      have hs := (List.pairwise_cons.1 ha.sep).1
      have h2 := withoutL_len r x
      have h1 : ¬ (r.dev = x.dev ∧ r.frm < x.frm ∧ x.to < r.to) → (withoutL r x).length ≤ 1 := by
        intro h
        unfold withoutL
        split
        · simp
        · split <;> split <;> simp <;> omega
      have hl : (cutL (r :: acc) x).length = (withoutL r x).length + (cutL acc x).length := by simp [cutL]
      rw [hl]
      simp only [List.length_cons]
      constructor
      · by_cases hin : r.dev = x.dev ∧ r.frm < x.frm ∧ x.to < r.to
        · have := i2 fun q hq => by
            have := hs q hq
            have := hx.ft
            unfold Sep at *
            omega
          omega
        · have := h1 hin
          omega
      · intro hn
        have := h1 (hn r (by simp))
        have := i2 fun q hq => hn q (by simp [hq])
        omega
  exact (key acc ha).1

theorem minusL_ok : ∀ {b a : List Rn}, Norm a → (∀ r ∈ b, r.Right) → Norm (minusL a b) ∧ (minusL a b).length ≤ a.length + b.length ∧ ∀ d, hasDot (minusL a b) d = (hasDot a d && !hasDot b d)
  | [], a, ha, _ => ⟨ha, by simp [minusL], fun d => by simp [minusL, hasDot]⟩
  | x :: b, a, ha, hb => by
    have hx := hb x (by simp)
    obtain ⟨h1, h2, h3⟩ := minusL_ok (b := b) (cutL_norm ha hx) (fun r hr => hb r (by simp [hr]))
    have h4 := cutL_len ha hx
    refine ⟨h1, ?_, fun d => ?_⟩
    · show (minusL (cutL a x) b).length ≤ _
      simp only [List.length_cons]
      omega
    · show hasDot (minusL (cutL a x) b) d = _
      rw [h3, cutL_has ha.right hx, hasDot_cons]
      cases hasDot a d <;> cases x.has d <;> simp

end Go.Proofs.YtpjbjdicdjlmeaaGreatDoor.Eng
