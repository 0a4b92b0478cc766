/- What the document's answer makes of two sets of one device: plain lists, no program. No statement of the seat is proved here. -/
import Derived.Test.YtpjbjdicdjlmeaaGreatDoorZR70
namespace Go.Proofs.YtpjbjdicdjlmeaaGreatDoor.Eng
open Go
set_option linter.unusedVariables false
set_option linter.unusedSimpArgs false

/-- The marks of a device's runs. -/
def marksFrom (d : Int) (m : List Int) : List Rn → List Int
  | [] => m
  | r :: l => marksFrom d (if r.dev = d then insL (r.to + 1) (insL r.frm m) else m) l
def keepM (minus : Bool) (a b : List Rn) (d n : Int) : Bool := if minus then hasDot a ⟨d, n⟩ && !hasDot b ⟨d, n⟩ else hasDot a ⟨d, n⟩ || hasDot b ⟨d, n⟩
/-- Runs between marks. -/
def segs (keep : Int → Bool) (d : Int) : Option Rn → List Int → List Rn
  | p, [] => p.toList
  | p, [_] => p.toList
  | none, m :: m' :: rest => if keep m then segs keep d (some ⟨d, m, m' - 1⟩) (m' :: rest) else segs keep d none (m' :: rest)
  | some q, m :: m' :: rest =>
    if keep m then (if q.to = m - 1 then segs keep d (some ⟨q.dev, q.frm, m' - 1⟩) (m' :: rest) else q :: segs keep d (some ⟨d, m, m' - 1⟩) (m' :: rest))
    else segs keep d (some q) (m' :: rest)
def marksL (d : Int) (a b : List Rn) : List Int := marksFrom d (marksFrom d [] a) b
def mixL (d : Int) (a b : List Rn) (minus : Bool) : List Rn := segs (keepM minus a b d) d none (marksL d a b)

/-! ### Marks -/
theorem marksFrom_sorted {d : Int} : ∀ {l : List Rn} {m : List Int}, m.Pairwise (· < ·) → (marksFrom d m l).Pairwise (· < ·)
  | [], m, h => h
  | r :: l, m, h => by
    simp only [marksFrom]
    split
    · exact marksFrom_sorted (insL_sorted (insL_sorted h))
    · exact marksFrom_sorted h
theorem marksFrom_len {d : Int} : ∀ {l : List Rn} {m : List Int}, (marksFrom d m l).length ≤ m.length + 2 * l.length
  | [], m => by simp [marksFrom]
  | r :: l, m => by
    simp only [marksFrom, List.length_cons]
    split
    · have := marksFrom_len (d := d) (l := l) (m := insL (r.to + 1) (insL r.frm m))
      have := insL_len (x := r.to + 1) (l := insL r.frm m)
      have := insL_len (x := r.frm) (l := m)
      omega
    · have := marksFrom_len (d := d) (l := l) (m := m)
      omega
theorem marksFrom_mem {d z : Int} : ∀ {l : List Rn} {m : List Int}, z ∈ marksFrom d m l ↔ z ∈ m ∨ ∃ r ∈ l, r.dev = d ∧ (z = r.frm ∨ z = r.to + 1)
  | [], m => by simp [marksFrom]
  | r :: l, m => by
    simp only [marksFrom]
    split
    · rename_i h
      rw [marksFrom_mem, insL_mem, insL_mem]
      constructor
      · rintro ((h1 | h1 | h1) | ⟨q, h1, h2⟩)
        · exact .inr ⟨r, by simp, h, .inr h1⟩
        · exact .inr ⟨r, by simp, h, .inl h1⟩
        · exact .inl h1
        · exact .inr ⟨q, by simp [h1], h2⟩
      · rintro (h1 | ⟨q, h1, h2, h3⟩)
        · exact .inl (.inr (.inr h1))
        · rcases List.mem_cons.1 h1 with rfl | h1
          · rcases h3 with h3 | h3
            · exact .inl (.inr (.inl h3))
            · exact .inl (.inl h3)
          · exact .inr ⟨q, h1, h2, h3⟩
    · rename_i h
      rw [marksFrom_mem]
      constructor
      · rintro (h1 | ⟨q, h1, h2⟩)
        · exact .inl h1
        · exact .inr ⟨q, by simp [h1], h2⟩
      · rintro (h1 | ⟨q, h1, h2, h3⟩)
        · exact .inl h1
        · rcases List.mem_cons.1 h1 with rfl | h1
          · exact absurd h2 h
          · exact .inr ⟨q, h1, h2, h3⟩
theorem marksL_sorted {d : Int} {a b : List Rn} : (marksL d a b).Pairwise (· < ·) := marksFrom_sorted (marksFrom_sorted .nil)
theorem marksL_len {d : Int} {a b : List Rn} : (marksL d a b).length ≤ 2 * (a.length + b.length) := by
  have h1 := marksFrom_len (d := d) (l := b) (m := marksFrom d [] a)
  have h2 := marksFrom_len (d := d) (l := a) (m := [])
  unfold marksL
  simp at h2
  omega
theorem marksL_mem {d z : Int} {a b : List Rn} : z ∈ marksL d a b ↔ ∃ r, (r ∈ a ∨ r ∈ b) ∧ r.dev = d ∧ (z = r.frm ∨ z = r.to + 1) := by
  unfold marksL
  rw [marksFrom_mem, marksFrom_mem]
  constructor
  · rintro ((h | ⟨r, h, h1⟩) | ⟨r, h, h1⟩)
    · simp at h
    · exact ⟨r, .inl h, h1⟩
    · exact ⟨r, .inr h, h1⟩
  · rintro ⟨r, h | h, h1⟩
    · exact .inl (.inr ⟨r, h, h1⟩)
    · exact .inr ⟨r, h, h1⟩

theorem pair_of {n : Int} : ∀ {ms : List Int} {x y : Int}, ms.Pairwise (· < ·) → x ∈ ms → y ∈ ms → x ≤ n → n < y → ∃ pre m m' rest, ms = pre ++ m :: m' :: rest ∧ m ≤ n ∧ n < m'
  | [], x, y, _, hx, _, _, _ => by simp at hx
  | [m], x, y, _, hx, hy, h1, h2 => by simp at hx hy; omega
  | m :: m' :: rest, x, y, hs, hx, hy, h1, h2 => by
    obtain ⟨s1, s2⟩ := List.pairwise_cons.1 hs
    obtain ⟨s3, s4⟩ := List.pairwise_cons.1 s2
    by_cases hn : n < m'
    · refine ⟨[], m, m', rest, rfl, ?_, hn⟩
      rcases List.mem_cons.1 hx with rfl | hx
      · exact h1
      · rcases List.mem_cons.1 hx with rfl | hx
        · omega
        · have := s3 x hx; omega
    · have hmm := s1 m' (by simp)
      have hy' : y ∈ m' :: rest := by
        rcases List.mem_cons.1 hy with rfl | hy
        · omega
        · exact hy
      obtain ⟨pre, a, b, r, h3, h4, h5⟩ := pair_of (n := n) (x := m') s2 (by simp) hy' (by omega) h2
      exact ⟨m :: pre, a, b, r, by rw [h3]; rfl, h4, h5⟩
theorem pair_apart {ms pre rest : List Int} {m m' : Int} (hs : ms.Pairwise (· < ·)) (h : ms = pre ++ m :: m' :: rest) : m < m' ∧ ∀ z ∈ ms, z ≤ m ∨ m' ≤ z := by
  subst h
  obtain ⟨h1, h2, h3⟩ := List.pairwise_append.1 hs
  obtain ⟨h4, h5⟩ := List.pairwise_cons.1 h2
  refine ⟨h4 m' (by simp), fun z hz => ?_⟩
  rcases List.mem_append.1 hz with hz | hz
  · have := h3 z hz m (by simp); omega
  · rcases List.mem_cons.1 hz with rfl | hz
    · omega
    · rcases List.mem_cons.1 hz with rfl | hz
      · omega
      · have := (List.pairwise_cons.1 h5).1 z hz; omega

/-- Between two marks nothing changes. -/
theorem hasDot_between {d m m' n : Int} {l : List Rn} (hm : ∀ r ∈ l, r.dev = d → (r.frm ≤ m ∨ m' ≤ r.frm) ∧ (r.to + 1 ≤ m ∨ m' ≤ r.to + 1)) (h1 : m ≤ n) (h2 : n < m') : hasDot l ⟨d, n⟩ = hasDot l ⟨d, m⟩ := by
  rw [Bool.eq_iff_iff, hasDot_iff, hasDot_iff]
  constructor
  · rintro ⟨r, hr, e1, e2, e3⟩
    have := hm r hr e1
    exact ⟨r, hr, e1, by simp only at *; omega, by simp only at *; omega⟩
  · rintro ⟨r, hr, e1, e2, e3⟩
    have := hm r hr e1
    exact ⟨r, hr, e1, by simp only at *; omega, by simp only at *; omega⟩

def segHas (keep : Int → Bool) (n : Int) : List Int → Bool
  | [] => false
  | [_] => false
  | m :: m' :: rest => (keep m && decide (m ≤ n) && decide (n < m')) || segHas keep n (m' :: rest)
theorem segHas_iff {keep : Int → Bool} {n : Int} : ∀ {ms : List Int}, segHas keep n ms = true ↔ ∃ pre m m' rest, ms = pre ++ m :: m' :: rest ∧ keep m = true ∧ m ≤ n ∧ n < m'
  | [] => by simp [segHas]
  | [x] => by
    simp only [segHas, Bool.false_eq_true, false_iff]
    rintro ⟨pre, m, m', rest, h, _⟩
    have := congrArg List.length h
    simp at this
    omega
  | x :: y :: l => by
    simp only [segHas, Bool.or_eq_true, Bool.and_eq_true, decide_eq_true_eq]
    rw [segHas_iff]
    constructor
    · rintro (⟨⟨h1, h2⟩, h3⟩ | ⟨pre, m, m', rest, h, h1⟩)
      · exact ⟨[], x, y, l, rfl, h1, h2, h3⟩
      · exact ⟨x :: pre, m, m', rest, by rw [h]; rfl, h1⟩
    · rintro ⟨pre, m, m', rest, h, h1, h2, h3⟩
      cases pre with
      | nil => simp at h; obtain ⟨rfl, rfl, rfl⟩ := h; exact .inl ⟨⟨h1, h2⟩, h3⟩
      | cons z pre => simp at h; exact .inr ⟨pre, m, m', rest, h.2, h1, h2, h3⟩

theorem segs_len {keep : Int → Bool} {d : Int} : ∀ {ms : List Int} {p : Option Rn}, (segs keep d p ms).length ≤ p.toList.length + ms.length
  | [], p => by cases p <;> simp [segs]
  | [x], p => by cases p <;> simp [segs]
  | m :: m' :: rest, none => by
    have h1 := segs_len (keep := keep) (d := d) (ms := m' :: rest) (p := some ⟨d, m, m' - 1⟩)
    have h2 := segs_len (keep := keep) (d := d) (ms := m' :: rest) (p := none)
    simp only [segs]
    simp at h1 h2 ⊢
    split <;> omega
  | m :: m' :: rest, some q => by
    have h1 := segs_len (keep := keep) (d := d) (ms := m' :: rest) (p := some ⟨d, m, m' - 1⟩)
    have h2 := segs_len (keep := keep) (d := d) (ms := m' :: rest) (p := some q)
    have h3 := segs_len (keep := keep) (d := d) (ms := m' :: rest) (p := some ⟨q.dev, q.frm, m' - 1⟩)
    simp only [segs]
    simp at h1 h2 h3 ⊢
    split
    · split
      · omega
      · simp; omega
    · omega

/-- Runs between marks: in order, apart, with the dots that were kept. -/
theorem segs_some {keep : Int → Bool} {d : Int} (hd0 : 0 ≤ d) (hd8 : d < 8) : ∀ {ms : List Int} {q : Rn}, ms.Pairwise (· < ·) → (∀ z ∈ ms, 1 ≤ z ∧ z ≤ 4503599627370497) → q.Right → q.dev = d → (∀ z ∈ ms, q.to < z) →
    Norm (segs keep d (some q) ms) ∧ (∀ x ∈ segs keep d (some q) ms, x.dev = d ∧ q.frm ≤ x.frm) ∧ ∀ e : Dot, hasDot (segs keep d (some q) ms) e = (q.has e || (decide (d = e.dev) && segHas keep e.n ms))
  | [], q, _, _, hq, hqd, _ => by
    refine ⟨⟨?_, ?_⟩, ?_, ?_⟩ <;> simp [segs, hasDot, segHas, hq, hqd]
  | [x], q, _, _, hq, hqd, _ => by
    refine ⟨⟨?_, ?_⟩, ?_, ?_⟩ <;> simp [segs, hasDot, segHas, hq, hqd]
  | m :: m' :: rest, q, hs, hb, hq, hqd, hqz => by
    obtain ⟨s1, s2⟩ := List.pairwise_cons.1 hs
    have hmm := s1 m' (by simp)
    have hb1 := hb m (by simp)
    have hb2 := hb m' (by simp)
    have hqm := hqz m (by simp)
    have hb' : ∀ z ∈ m' :: rest, 1 ≤ z ∧ z ≤ 4503599627370497 := fun z hz => hb z (by simp [List.mem_cons.1 hz])
    have hle : ∀ z ∈ m' :: rest, m' ≤ z := fun z hz => by
      rcases List.mem_cons.1 hz with rfl | hz
      · omega
      · have := (List.pairwise_cons.1 s2).1 z hz; omega
    simp only [segs]
    split
    · rename_i hk
      split
      · rename_i ht
        have hq' : (⟨q.dev, q.frm, m' - 1⟩ : Rn).Right := by
          have := hq.ft
          exact ⟨hq.d0, hq.d8, hq.f1, by simp only; omega, by simp only; omega⟩
        obtain ⟨h1, h2, h3⟩ := segs_some (keep := keep) hd0 hd8 s2 hb' hq' hqd (fun z hz => by have := hle z hz; simp only; omega)
        refine ⟨h1, h2, fun e => ?_⟩
        rw [h3]
        simp only [segHas, hk, Bool.true_and]
        rw [Bool.eq_iff_iff]
        simp only [Bool.or_eq_true, Bool.and_eq_true, decide_eq_true_eq, Rn.has_iff]
        have := hq.ft
        constructor
        · rintro (⟨e1, e2, e3⟩ | ⟨e1, e2⟩)
          · by_cases hn : e.n ≤ q.to
            · exact .inl ⟨e1, e2, hn⟩
            · exact .inr ⟨by omega, .inl ⟨by omega, by omega⟩⟩
          · exact .inr ⟨e1, .inr e2⟩
        · rintro (⟨e1, e2, e3⟩ | ⟨e1, ⟨e2, e3⟩ | e2⟩)
          · exact .inl ⟨e1, e2, by omega⟩
          · exact .inl ⟨by omega, by omega, by omega⟩
          · exact .inr ⟨e1, e2⟩
      · rename_i ht
        have hr : (⟨d, m, m' - 1⟩ : Rn).Right := ⟨hd0, hd8, by simp only; omega, by simp only; omega, by simp only; omega⟩
        obtain ⟨h1, h2, h3⟩ := segs_some (keep := keep) hd0 hd8 s2 hb' hr rfl (fun z hz => by have := hle z hz; simp only; omega)
        have hsep : ∀ x ∈ segs keep d (some ⟨d, m, m' - 1⟩) (m' :: rest), Sep q x := fun x hx => by
          obtain ⟨k1, k2⟩ := h2 x hx
          simp only at k2
          unfold Sep
          omega
        refine ⟨⟨?_, List.pairwise_cons.2 ⟨hsep, h1.sep⟩⟩, ?_, fun e => ?_⟩
        · intro x hx
          rcases List.mem_cons.1 hx with rfl | hx
          · exact hq
          · exact h1.right x hx
        · intro x hx
          rcases List.mem_cons.1 hx with rfl | hx
          · exact ⟨hqd, Int.le_refl _⟩
          · obtain ⟨k1, k2⟩ := h2 x hx
            simp only at k2
            have := hq.ft
            exact ⟨k1, by omega⟩
        · rw [hasDot_cons, h3]
          simp only [segHas, hk, Bool.true_and]
          rw [Bool.eq_iff_iff]
          simp only [Bool.or_eq_true, Bool.and_eq_true, decide_eq_true_eq, Rn.has_iff]
          constructor
          · rintro (e1 | ⟨e1, e2, e3⟩ | ⟨e1, e2⟩)
            · exact .inl e1
            · exact .inr ⟨e1, .inl ⟨e2, by omega⟩⟩
            · exact .inr ⟨e1, .inr e2⟩
          · rintro (e1 | ⟨e1, ⟨e2, e3⟩ | e2⟩)
            · exact .inl e1
            · exact .inr (.inl ⟨e1, e2, by omega⟩)
            · exact .inr (.inr ⟨e1, e2⟩)
    · rename_i hk
      obtain ⟨h1, h2, h3⟩ := segs_some (keep := keep) hd0 hd8 s2 hb' hq hqd (fun z hz => hqz z (by simp [List.mem_cons.1 hz]))
      refine ⟨h1, h2, fun e => ?_⟩
      rw [h3]
      simp [segHas, hk]

theorem segs_none {keep : Int → Bool} {d : Int} (hd0 : 0 ≤ d) (hd8 : d < 8) : ∀ {ms : List Int}, ms.Pairwise (· < ·) → (∀ z ∈ ms, 1 ≤ z ∧ z ≤ 4503599627370497) →
    Norm (segs keep d none ms) ∧ (∀ x ∈ segs keep d none ms, x.dev = d) ∧ ∀ e : Dot, hasDot (segs keep d none ms) e = (decide (d = e.dev) && segHas keep e.n ms)
  | [], _, _ => by refine ⟨⟨?_, ?_⟩, ?_, ?_⟩ <;> simp [segs, hasDot, segHas]
  | [x], _, _ => by refine ⟨⟨?_, ?_⟩, ?_, ?_⟩ <;> simp [segs, hasDot, segHas]
  | m :: m' :: rest, hs, hb => by
    obtain ⟨s1, s2⟩ := List.pairwise_cons.1 hs
    have hmm := s1 m' (by simp)
    have hb1 := hb m (by simp)
    have hb2 := hb m' (by simp)
    have hb' : ∀ z ∈ m' :: rest, 1 ≤ z ∧ z ≤ 4503599627370497 := fun z hz => hb z (by simp [List.mem_cons.1 hz])
    have hle : ∀ z ∈ m' :: rest, m' ≤ z := fun z hz => by
      rcases List.mem_cons.1 hz with rfl | hz
      · omega
      · have := (List.pairwise_cons.1 s2).1 z hz; omega
    simp only [segs]
    split
    · rename_i hk
      have hr : (⟨d, m, m' - 1⟩ : Rn).Right := ⟨hd0, hd8, by simp only; omega, by simp only; omega, by simp only; omega⟩
      obtain ⟨h1, h2, h3⟩ := segs_some (keep := keep) hd0 hd8 s2 hb' hr rfl (fun z hz => by have := hle z hz; simp only; omega)
      refine ⟨h1, fun x hx => (h2 x hx).1, fun e => ?_⟩
      rw [h3]
      simp only [segHas, hk, Bool.true_and]
      rw [Bool.eq_iff_iff]
      simp only [Bool.or_eq_true, Bool.and_eq_true, decide_eq_true_eq, Rn.has_iff]
      constructor
      · rintro (⟨e1, e2, e3⟩ | ⟨e1, e2⟩)
        · exact ⟨e1, .inl ⟨e2, by omega⟩⟩
        · exact ⟨e1, .inr e2⟩
      · rintro ⟨e1, ⟨e2, e3⟩ | e2⟩
        · exact .inl ⟨e1, e2, by omega⟩
        · exact .inr ⟨e1, e2⟩
    · rename_i hk
      obtain ⟨h1, h2, h3⟩ := segs_none (keep := keep) hd0 hd8 s2 hb'
      refine ⟨h1, h2, fun e => ?_⟩
      rw [h3]
      simp [segHas, hk]

theorem keepM_some {minus : Bool} {a b : List Rn} {d n : Int} (h : keepM minus a b d n = true) : hasDot a ⟨d, n⟩ = true ∨ hasDot b ⟨d, n⟩ = true := by
  unfold keepM at h
  split at h
  · rw [Bool.and_eq_true] at h; exact .inl h.1
  · rwa [Bool.or_eq_true] at h

theorem mixL_ok {d : Int} (hd0 : 0 ≤ d) (hd8 : d < 8) {a b : List Rn} (ha : ∀ r ∈ a, r.Right) (hb : ∀ r ∈ b, r.Right) (minus : Bool) :
    Norm (mixL d a b minus) ∧ (∀ x ∈ mixL d a b minus, x.dev = d) ∧ ∀ e : Dot, hasDot (mixL d a b minus) e = (decide (d = e.dev) && keepM minus a b e.dev e.n) := by
  have hr : ∀ r, (r ∈ a ∨ r ∈ b) → r.Right := fun r h => h.elim (ha r) (hb r)
  obtain ⟨h1, h2, h3⟩ := segs_none (keep := keepM minus a b d) hd0 hd8 (marksL_sorted (d := d) (a := a) (b := b)) (fun z hz => by
    obtain ⟨r, h, _, hz⟩ := marksL_mem.1 hz
    have := (hr r h).f1
    have := (hr r h).ft
    have := (hr r h).tm
    omega)
  refine ⟨h1, h2, fun e => ?_⟩
  unfold mixL
  rw [h3]
  by_cases hde : d = e.dev
  · subst hde
    simp only [decide_true, Bool.true_and]
    have const : ∀ {pre rest : List Int} {m m' : Int}, marksL e.dev a b = pre ++ m :: m' :: rest → m ≤ e.n → e.n < m' → keepM minus a b e.dev e.n = keepM minus a b e.dev m := by
      intro pre rest m m' h h1 h2
      obtain ⟨_, hap⟩ := pair_apart marksL_sorted h
      have e1 : hasDot a ⟨e.dev, e.n⟩ = hasDot a ⟨e.dev, m⟩ := hasDot_between (fun r hr hd => ⟨hap _ (marksL_mem.2 ⟨r, .inl hr, hd, .inl rfl⟩), hap _ (marksL_mem.2 ⟨r, .inl hr, hd, .inr rfl⟩)⟩) h1 h2
      have e2 : hasDot b ⟨e.dev, e.n⟩ = hasDot b ⟨e.dev, m⟩ := hasDot_between (fun r hr hd => ⟨hap _ (marksL_mem.2 ⟨r, .inr hr, hd, .inl rfl⟩), hap _ (marksL_mem.2 ⟨r, .inr hr, hd, .inr rfl⟩)⟩) h1 h2
      unfold keepM
      rw [e1, e2]
    rw [Bool.eq_iff_iff, segHas_iff]
    constructor
    · rintro ⟨pre, m, m', rest, h, hk, l1, l2⟩
      rw [const h l1 l2]
      exact hk
    · intro hk
      have hin : ∃ r, (r ∈ a ∨ r ∈ b) ∧ r.dev = e.dev ∧ r.frm ≤ e.n ∧ e.n ≤ r.to := by
        rcases keepM_some hk with h | h
        · obtain ⟨r, h1, h2⟩ := hasDot_iff.1 h; exact ⟨r, .inl h1, h2⟩
        · obtain ⟨r, h1, h2⟩ := hasDot_iff.1 h; exact ⟨r, .inr h1, h2⟩
      obtain ⟨r, hr, k1, k2, k3⟩ := hin
      obtain ⟨pre, m, m', rest, h, l1, l2⟩ := pair_of (n := e.n) (marksL_sorted (d := e.dev) (a := a) (b := b)) (marksL_mem.2 ⟨r, hr, k1, .inl rfl⟩) (marksL_mem.2 ⟨r, hr, k1, .inr rfl⟩) k2 (by omega)
      exact ⟨pre, m, m', rest, h, by rw [← const h l1 l2]; exact hk, l1, l2⟩
  · simp [hde]

/-- All devices. -/
def setR (a b : List Rn) (minus : Bool) : List Rn := (List.range 8).flatMap fun (i : Nat) => mixL (i : Int) a b minus
theorem setR_ok {a b : List Rn} (ha : ∀ r ∈ a, r.Right) (hb : ∀ r ∈ b, r.Right) (minus : Bool) : Norm (setR a b minus) ∧ ∀ e : Dot, hasDot (setR a b minus) e = (if minus then hasDot a e && !hasDot b e else hasDot a e || hasDot b e) := by
  have hm : ∀ i ∈ List.range 8, Norm (mixL (i : Int) a b minus) ∧ (∀ x ∈ mixL (i : Int) a b minus, x.dev = (i : Int)) ∧ ∀ e : Dot, hasDot (mixL (i : Int) a b minus) e = (decide ((i : Int) = e.dev) && keepM minus a b e.dev e.n) := fun i hi =>
    mixL_ok (by omega) (by have := List.mem_range.1 hi; omega) ha hb minus
  refine ⟨⟨?_, ?_⟩, fun e => ?_⟩
  · intro x hx
    obtain ⟨i, hi, hx⟩ := List.mem_flatMap.1 hx
    exact (hm i hi).1.right x hx
  · unfold setR
    rw [List.pairwise_flatMap]
    refine ⟨fun i hi => (hm i hi).1.sep, ?_⟩
    refine List.Pairwise.imp_of_mem (fun {i j} hi hj hij => ?_) (List.pairwise_lt_range (n := 8))
    intro x hx y hy
    have := (hm i hi).2.1 x hx
    have := (hm j hj).2.1 y hy
    exact .inl (by omega)
  · have hk : keepM minus a b e.dev e.n = (if minus then hasDot a e && !hasDot b e else hasDot a e || hasDot b e) := rfl
    rw [← hk]
    rw [Bool.eq_iff_iff]
    have h1 : hasDot (setR a b minus) e = true ↔ ∃ i ∈ List.range 8, hasDot (mixL (i : Int) a b minus) e = true := by
      simp only [hasDot, setR, List.any_flatMap, List.any_eq_true]
    rw [h1]
    constructor
    · rintro ⟨i, hi, h⟩
      rw [(hm i hi).2.2] at h
      simp at h
      exact h.2
    · intro h
      have hin : ∃ r, (r ∈ a ∨ r ∈ b) ∧ r.dev = e.dev := by
        rcases keepM_some h with h | h
        · obtain ⟨r, h1, h2⟩ := hasDot_iff.1 h; exact ⟨r, .inl h1, h2.1⟩
        · obtain ⟨r, h1, h2⟩ := hasDot_iff.1 h; exact ⟨r, .inr h1, h2.1⟩
      obtain ⟨r, hr, hd⟩ := hin
      have hR : r.Right := hr.elim (ha r) (hb r)
      have := hR.d0
      have := hR.d8
      refine ⟨r.dev.toNat, List.mem_range.2 (by omega), ?_⟩
      rw [(hm _ (List.mem_range.2 (by omega))).2.2, h]
      simp
      omega

end Go.Proofs.YtpjbjdicdjlmeaaGreatDoor.Eng
