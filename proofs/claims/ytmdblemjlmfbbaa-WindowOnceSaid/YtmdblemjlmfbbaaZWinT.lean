/- Lists of which envelopes came: plain theory. No statement of the seat is proved here. -/
import Derived.Test.YtmdblemjlmfbbaaZPartD
import Derived.Test.YtmdblemjlmfbbaaZCountT
namespace Go.Proofs.Ytmdblemjlmfbbaa.Eng
open Go
set_option linter.unusedVariables false
set_option linter.unusedSimpArgs false

structure Got where
  epoch : Int
  runs : List Rn
  deriving DecidableEq, Inhabited
structure Hdr where
  epoch : Int
  frm : Int
  seq : Int
  deriving DecidableEq, Inhabited
def Got.cells (g : Got) : List Cell := [.int .i64 g.epoch, runsC g.runs]
def Hdr.cells (h : Hdr) : List Cell := [.int .i64 h.epoch, .int .i64 h.frm, .int .i64 h.seq]
def Hdr.dot (h : Hdr) : Dot := ⟨h.frm, h.seq⟩
theorem Got.closed (g : Got) : closedCs g.cells = true := by simp [Got.cells, closedCs, closedC, closed_runsC]
theorem Hdr.closed (h : Hdr) : closedCs h.cells = true := rfl
def gotsC (l : List Got) : Cell := .lst 2 (l.map Got.cells)
theorem closed_gots (l : List Got) : closedR (l.map Got.cells) = true := closedR_map Got.closed l
theorem closed_gotsC (l : List Got) : closedC (gotsC l) = true := closed_gots l
def dGot : D := .st [.int .i64, .slc dRn]
def dHdr : D := .st [.int .i64, .int .i64, .int .i64]
def Got.ok (g : Got) : Prop := in64 g.epoch ∧ ∀ r ∈ g.runs, r.ok
def Hdr.ok (h : Hdr) : Prop := in64 h.epoch ∧ in64 h.frm ∧ in64 h.seq
theorem tyd_got (cs : List Cell) (h : TyD dGot cs) : ∃ g : Got, cs = g.cells ∧ g.ok := by
  obtain ⟨a, _, rfl, ha, h⟩ := h.consF1 rfl
  obtain ⟨b, _, rfl, hb, h⟩ := h.consF1 rfl
  have := h.nilF; subst this
  obtain ⟨x, rfl, hx⟩ := ha.ints
  obtain ⟨y, hy, _, hy2⟩ := tyd_runs _ hb
  injection hy with hy; subst hy
  exact ⟨⟨x, y⟩, rfl, hx, hy2⟩
theorem tyd_gots (cs : List Cell) (h : TyD (.slc dGot) cs) : ∃ l : List Got, cs = [gotsC l] ∧ l.length ≤ maxLen ∧ ∀ g ∈ l, g.ok := h.listQ tyd_got
theorem tyd_hdr (cs : List Cell) (h : TyD dHdr cs) : ∃ r : Hdr, cs = r.cells ∧ r.ok := by
  obtain ⟨a, _, rfl, ha, h⟩ := h.consF1 rfl
  obtain ⟨b, _, rfl, hb, h⟩ := h.consF1 rfl
  obtain ⟨c, _, rfl, hc, h⟩ := h.consF1 rfl
  have := h.nilF; subst this
  obtain ⟨x, rfl, hx⟩ := ha.ints
  obtain ⟨y, rfl, hy⟩ := hb.ints
  obtain ⟨z, rfl, hz⟩ := hc.ints
  exact ⟨⟨x, y, z⟩, rfl, hx, hy, hz⟩
def u16C (n : Nat) : List Cell := [.int .u16 (n : Int)]
def u16sC (l : List Nat) : Cell := .lst 1 (l.map u16C)
theorem closed_u16sC (l : List Nat) : closedC (u16sC l) = true := closedR_map (f := u16C) (fun _ => rfl) l
theorem closed_u16s (l : List Nat) : closedR (l.map u16C) = true := closedR_map (f := u16C) (fun _ => rfl) l
theorem tyd_u16 (cs : List Cell) (h : TyD (.int .u16) cs) : ∃ n : Nat, cs = u16C n ∧ n < 65536 := by
  obtain ⟨c, rfl, h⟩ := h.one rfl
  obtain ⟨n, rfl, h1, h2⟩ := h.ints
  have h1 : 0 ≤ n := h1
  have h2 : n ≤ 65535 := h2
  exact ⟨n.toNat, by simp [u16C]; omega, by omega⟩
theorem tyd_u16s (cs : List Cell) (h : TyD (.slc (.int .u16)) cs) : ∃ l : List Nat, cs = [u16sC l] ∧ l.length ≤ maxLen ∧ ∀ r ∈ l, r < 65536 := h.listQ tyd_u16

/-! ### Which lists may be -/
def badG (p : Option Int) (g : Got) : Bool := decide (g.epoch < 1) || (match p with | none => false | some e => decide (g.epoch ≤ e)) || decide (g.runs.length = 0) || !mayRuns g.runs
def mayGF : Option Int → List Got → Bool
  | _, [] => true
  | p, g :: r => !badG p g && mayGF (some g.epoch) r
def mayG (l : List Got) : Bool := mayGF none l
structure MayG (l : List Got) : Prop where
  asc : l.Pairwise fun a b => a.epoch < b.epoch
  one : ∀ g ∈ l, 1 ≤ g.epoch ∧ g.runs ≠ [] ∧ Norm g.runs
theorem MayG.nil : MayG [] := ⟨.nil, by simp⟩
theorem mayGF_iff : ∀ {l : List Got} {p : Option Int}, mayGF p l = true ↔ MayG l ∧ ∀ e, p = some e → ∀ g ∈ l, e < g.epoch
  | [], p => by simp [mayGF]; exact MayG.nil
  | g :: l, p => by
    rw [mayGF, Bool.and_eq_true, mayGF_iff (l := l)]
    have hb : badG p g = false ↔ (1 ≤ g.epoch ∧ g.runs ≠ [] ∧ Norm g.runs) ∧ ∀ e, p = some e → e < g.epoch := by
      rw [← mayRuns_iff]
      unfold badG
      have hl : g.runs.length = 0 ↔ g.runs = [] := List.length_eq_zero_iff
      cases p with
      | none => simp [hl]; grind
      | some e => simp [hl]; grind
    rw [Bool.not_eq_true', hb]
    constructor
    · rintro ⟨⟨h1, h2⟩, h3, h4⟩
      refine ⟨⟨List.pairwise_cons.2 ⟨fun x hx => h4 _ rfl x hx, h3.asc⟩, fun x hx => ?_⟩, fun e he x hx => ?_⟩
      · rcases List.mem_cons.1 hx with rfl | hx
        · exact h1
        · exact h3.one x hx
      · rcases List.mem_cons.1 hx with rfl | hx
        · exact h2 e he
        · exact Int.lt_trans (h2 e he) (h4 _ rfl x hx)
    · rintro ⟨⟨h1, h2⟩, h3⟩
      obtain ⟨h4, h5⟩ := List.pairwise_cons.1 h1
      exact ⟨⟨h2 g (by simp), fun e he => h3 e he g (by simp)⟩, ⟨h5, fun x hx => h2 x (by simp [hx])⟩, fun e he x hx => by injection he with he; subst he; exact h4 x hx⟩
theorem mayG_iff {l : List Got} : mayG l = true ↔ MayG l := by
  unfold mayG
  rw [mayGF_iff]
  exact ⟨fun h => h.1, fun h => ⟨h, by simp⟩⟩

/-! ### Where an epoch stands -/
def posG (l : List Got) (e : Int) : Nat := (l.filter fun g => decide (g.epoch < e)).length
def atG (l : List Got) (e : Int) : Bool := l.any fun g => decide (g.epoch = e)
theorem posG_of {l : List Got} {d : Int} {i : Nat} (hi : i ≤ l.length) (h1 : ∀ k f, k < i → l[k]? = some f → f.epoch < d) (h2 : ∀ k f, i ≤ k → l[k]? = some f → ¬ f.epoch < d) : posG l d = i := by
  unfold posG
  have e : l = l.take i ++ l.drop i := (List.take_append_drop i l).symm
  rw [e, List.filter_append]
  have a1 : (l.take i).filter (fun f => decide (f.epoch < d)) = l.take i := by
    rw [List.filter_eq_self]
    intro f hf
    obtain ⟨k, hk⟩ := List.mem_iff_getElem?.1 hf
    rw [List.getElem?_take] at hk
    split at hk
    · simpa using h1 k f (by omega) hk
    · cases hk
  have a2 : (l.drop i).filter (fun f => decide (f.epoch < d)) = [] := by
    rw [List.filter_eq_nil_iff]
    intro f hf
    obtain ⟨k, hk⟩ := List.mem_iff_getElem?.1 hf
    rw [List.getElem?_drop] at hk
    simpa using h2 (i + k) f (by omega) hk
  rw [a1, a2, List.append_nil, List.length_take]
  omega
theorem ascG_get {l : List Got} (h : MayG l) {i j : Nat} {f g : Got} (hij : i < j) (hf : l[i]? = some f) (hg : l[j]? = some g) : f.epoch < g.epoch := by
  obtain ⟨h1, rfl⟩ := List.getElem?_eq_some_iff.1 hf
  obtain ⟨h2, rfl⟩ := List.getElem?_eq_some_iff.1 hg
  exact List.pairwise_iff_getElem.1 h.asc i j h1 h2 hij
theorem atG_iff {l : List Got} {e : Int} : atG l e = true ↔ ∃ g ∈ l, g.epoch = e := by simp [atG]

/-- A list about an epoch: what is below; then the epoch itself, or not. -/
theorem MayG.split {l : List Got} (h : MayG l) (e : Int) : ∃ A B, l = A ++ B ∧ posG l e = A.length ∧ (∀ g ∈ A, g.epoch < e) ∧
    ((atG l e = true ∧ ∃ g B', B = g :: B' ∧ g.epoch = e ∧ ∀ x ∈ B', e < x.epoch) ∨ (atG l e = false ∧ ∀ x ∈ B, e < x.epoch)) := by
  obtain ⟨hasc, hone⟩ := h
  clear hone
  induction l with
  | nil => exact ⟨[], [], rfl, rfl, by simp, .inr ⟨rfl, by simp⟩⟩
  | cons g l ih =>
    obtain ⟨h1, h2⟩ := List.pairwise_cons.1 hasc
    by_cases hg : g.epoch < e
    · obtain ⟨A, B, e1, e2, e3, e4⟩ := ih h2
      refine ⟨g :: A, B, by rw [e1]; rfl, ?_, fun x hx => ?_, ?_⟩
      · unfold posG at e2 ⊢
        rw [List.filter_cons_of_pos (by simpa using hg), List.length_cons, e2]; rfl
      · rcases List.mem_cons.1 hx with rfl | hx
        · exact hg
        · exact e3 x hx
      · have : atG (g :: l) e = atG l e := by simp [atG]; omega
        rw [this]; exact e4
    · refine ⟨[], g :: l, rfl, ?_, by simp, ?_⟩
      · unfold posG
        rw [List.filter_eq_nil_iff.2 fun x hx => ?_]
        rcases List.mem_cons.1 hx with rfl | hx
        · simpa using hg
        · have := h1 x hx; simp; omega
      · by_cases he : g.epoch = e
        · exact .inl ⟨by simp [atG, he], g, l, rfl, he, fun x hx => by rw [← he]; exact h1 x hx⟩
        · refine .inr ⟨?_, fun x hx => ?_⟩
          · rw [Bool.eq_false_iff]
            intro h
            obtain ⟨x, hx, hxe⟩ := atG_iff.1 h
            rcases List.mem_cons.1 hx with rfl | hx
            · exact he hxe
            · have := h1 x hx; omega
          · rcases List.mem_cons.1 hx with rfl | hx
            · omega
            · have := h1 x hx; omega

/-! ### What came, and what comes -/
def hasG (l : List Got) (h : Hdr) : Bool := l.any fun g => decide (g.epoch = h.epoch) && hasDot g.runs h.dot
def addG (h : Hdr) (d : List Rn) : List Got → List Got
  | [] => [⟨h.epoch, d⟩]
  | g :: r => if g.epoch < h.epoch then g :: addG h d r else if g.epoch = h.epoch then ⟨g.epoch, unionL g.runs d⟩ :: r else ⟨h.epoch, d⟩ :: g :: r
/-- As the document's: one list, marked where the epoch was met. -/
def walkG (h : Hdr) (d : List Rn) : Bool → List Got → List Got
  | inn, [] => if inn then [] else [⟨h.epoch, d⟩]
  | inn, g :: r => (if inn = false ∧ h.epoch < g.epoch then [⟨h.epoch, d⟩] else []) ++ (if g.epoch = h.epoch then ⟨g.epoch, unionL g.runs d⟩ else g) :: walkG h d (inn || decide (h.epoch < g.epoch) || decide (g.epoch = h.epoch)) r

theorem walkG_true {h : Hdr} {d : List Rn} : ∀ {l : List Got}, (∀ g ∈ l, h.epoch < g.epoch) → walkG h d true l = l
  | [], _ => rfl
  | g :: l, k => by
    have := k g (by simp)
    unfold walkG
    rw [if_neg (by simp), if_neg (by omega), Bool.true_or, Bool.true_or, walkG_true fun x hx => k x (by simp [hx])]; rfl
theorem walkG_eq {h : Hdr} {d : List Rn} : ∀ {l : List Got}, MayG l → walkG h d false l = addG h d l
  | [], _ => rfl
  | g :: l, k => by
    obtain ⟨h1, h2⟩ := List.pairwise_cons.1 k.asc
    have k' : MayG l := ⟨h2, fun x hx => k.one x (by simp [hx])⟩
    unfold walkG addG
    by_cases c1 : g.epoch < h.epoch
    · have e1 : ¬ h.epoch < g.epoch := by omega
      have e2 : ¬ g.epoch = h.epoch := by omega
      rw [if_pos c1, if_neg (by simp [e1]), if_neg e2]
      simp only [e1, e2, decide_false, Bool.or_false, List.nil_append]
      rw [walkG_eq k']
    · rw [if_neg c1]
      by_cases c2 : g.epoch = h.epoch
      · have e1 : ¬ h.epoch < g.epoch := by omega
        rw [if_pos c2, if_pos c2, if_neg (by simp [e1])]
        simp only [c2, decide_true, Bool.or_true, List.nil_append]
        rw [walkG_true fun x hx => by rw [← c2]; exact h1 x hx]
      · have e1 : h.epoch < g.epoch := by omega
        rw [if_neg c2, if_neg c2, if_pos ⟨rfl, e1⟩]
        simp only [e1, decide_true, Bool.or_true, Bool.true_or, List.cons_append, List.nil_append]
        rw [walkG_true fun x hx => Int.lt_trans e1 (h1 x hx)]

theorem addG_below {h : Hdr} {d : List Rn} : ∀ {A B : List Got}, (∀ g ∈ A, g.epoch < h.epoch) → addG h d (A ++ B) = A ++ addG h d B
  | [], _, _ => rfl
  | a :: A, B, k => by
    rw [List.cons_append, addG, if_pos (k a (by simp)), addG_below fun x hx => k x (by simp [hx])]; rfl
theorem addG_at {h : Hdr} {d : List Rn} {A B : List Got} {g : Got} (hA : ∀ g ∈ A, g.epoch < h.epoch) (hg : g.epoch = h.epoch) : addG h d (A ++ g :: B) = A ++ ⟨h.epoch, unionL g.runs d⟩ :: B := by
  rw [addG_below hA, addG, if_neg (by omega), if_pos hg, hg]
theorem addG_new {h : Hdr} {d : List Rn} {A B : List Got} (hA : ∀ g ∈ A, g.epoch < h.epoch) (hB : ∀ g ∈ B, h.epoch < g.epoch) : addG h d (A ++ B) = A ++ ⟨h.epoch, d⟩ :: B := by
  rw [addG_below hA]
  cases B with
  | nil => rfl
  | cons b B =>
    have := hB b (by simp)
    rw [addG, if_neg (by omega), if_neg (by omega)]

theorem hasG_append {A B : List Got} {h : Hdr} : hasG (A ++ B) h = (hasG A h || hasG B h) := by simp [hasG]
theorem hasG_ne {A : List Got} {h : Hdr} (k : ∀ g ∈ A, g.epoch ≠ h.epoch) : hasG A h = false := by
  rw [Bool.eq_false_iff]
  intro hh
  simp only [hasG, List.any_eq_true, Bool.and_eq_true, decide_eq_true_eq] at hh
  obtain ⟨g, hg, he, _⟩ := hh
  exact k g hg he
theorem hasG_at {A B : List Got} {g : Got} {h : Hdr} (hA : ∀ g ∈ A, g.epoch < h.epoch) (hg : g.epoch = h.epoch) (hB : ∀ g ∈ B, h.epoch < g.epoch) : hasG (A ++ g :: B) h = hasDot g.runs h.dot := by
  rw [hasG_append, hasG_ne fun x hx => by have := hA x hx; omega]
  have : hasG B h = false := hasG_ne fun x hx => by have := hB x hx; omega
  show (false || (decide (g.epoch = h.epoch) && hasDot g.runs h.dot || hasG B h)) = _
  rw [this]; simp [hg]
theorem hasG_new {A B : List Got} {h : Hdr} (hA : ∀ g ∈ A, g.epoch < h.epoch) (hB : ∀ g ∈ B, h.epoch < g.epoch) : hasG (A ++ B) h = false :=
  hasG_ne fun x hx => by
    rcases List.mem_append.1 hx with hx | hx
    · have := hA x hx; omega
    · have := hB x hx; omega

/-- A header that may be. -/
structure Hdr.May (h : Hdr) : Prop where
  e1 : 1 ≤ h.epoch
  f0 : 0 ≤ h.frm
  f7 : h.frm < 8
  s1 : 1 ≤ h.seq
  s2 : h.seq ≤ 4503599627370496
def mayH (h : Hdr) : Bool := decide (1 ≤ h.epoch) && decide (h.epoch ≤ 1048576) && decide (0 ≤ h.frm) && decide (h.frm < 8) && decide (1 ≤ h.seq) && decide (h.seq ≤ 4503599627370496)
theorem mayH_may {h : Hdr} (k : mayH h = true) : h.May := by
  simp only [mayH, Bool.and_eq_true, decide_eq_true_eq] at k
  exact ⟨k.1.1.1.1.1, k.1.1.1.2, k.1.1.2, k.1.2, k.2⟩
theorem Hdr.May.right {h : Hdr} (k : h.May) : (ofDot h.dot).right = true := Rn.right_iff.2 ⟨k.f0, k.f7, k.s1, Int.le_refl _, k.s2⟩
def oneG (h : Hdr) : List Rn := dotsL [h.dot]
theorem oneG_norm (h : Hdr) : Norm (oneG h) := (dotsL_ok _).1
theorem oneG_has {h : Hdr} (k : h.May) (d : Dot) : hasDot (oneG h) d = decide (d = h.dot) := by
  unfold oneG
  rw [(dotsL_ok _).2]
  by_cases e : d = h.dot
  · subst e; simp [k.right]
  · simp [e]
theorem oneG_ne {h : Hdr} (k : h.May) : oneG h ≠ [] := fun e => by
  have := oneG_has k h.dot
  rw [e] at this
  simp [hasDot] at this
theorem oneG_len (h : Hdr) : (oneG h).length ≤ 1 := dotsL_len _
theorem unionL_nil {a : List Rn} (h : Norm a) : unionL [] a = a := by
  have := unionL_ok (a := []) (b := a) (by simp) h.right
  exact this.1.ext h fun d => by rw [this.2]; rfl
theorem union_ne {a : List Rn} {h : Hdr} (k : h.May) (ha : Norm a) : Norm (unionL a (oneG h)) ∧ unionL a (oneG h) ≠ [] ∧ ∀ d, hasDot (unionL a (oneG h)) d = (hasDot a d || decide (d = h.dot)) := by
  obtain ⟨h1, h2⟩ := unionL_ok ha.right (oneG_norm h).right
  refine ⟨h1, fun e => ?_, fun d => by rw [h2, oneG_has k]⟩
  have := h2 h.dot
  rw [e, oneG_has k] at this
  simp [hasDot] at this

theorem addG_mem {h : Hdr} {d : List Rn} : ∀ {l : List Got} {g : Got}, g ∈ addG h d l → g ∈ l ∨ g = ⟨h.epoch, d⟩ ∨ ∃ x ∈ l, x.epoch = h.epoch ∧ g = ⟨h.epoch, unionL x.runs d⟩
  | [], g, k => by simp [addG] at k; exact .inr (.inl k)
  | x :: l, g, k => by
    unfold addG at k
    split at k
    · rcases List.mem_cons.1 k with rfl | k
      · simp
      · rcases addG_mem k with k | k | ⟨y, hy, k⟩
        · simp [k]
        · exact .inr (.inl k)
        · exact .inr (.inr ⟨y, by simp [hy], k⟩)
    · split at k
      · rename_i he
        rcases List.mem_cons.1 k with rfl | k
        · exact .inr (.inr ⟨x, by simp, he, by rw [he]⟩)
        · simp [k]
      · rcases List.mem_cons.1 k with rfl | k
        · exact .inr (.inl rfl)
        · exact .inl k
theorem addG_may {l : List Got} {h : Hdr} (k : h.May) (hl : MayG l) : MayG (addG h (oneG h) l) := by
  refine ⟨?_, fun g hg => ?_⟩
  · obtain ⟨A, B, rfl, _, hA, hB⟩ := hl.split h.epoch
    obtain ⟨q1, q2, q3⟩ := List.pairwise_append.1 hl.asc
    rcases hB with ⟨_, g, B', rfl, hg, hB⟩ | ⟨_, hB⟩
    · rw [addG_at hA hg]
      obtain ⟨q4, q5⟩ := List.pairwise_cons.1 q2
      exact List.pairwise_append.2 ⟨q1, List.pairwise_cons.2 ⟨fun x hx => hB x hx, q5⟩, fun a ha b hb => by
        rcases List.mem_cons.1 hb with rfl | hb
        · exact hA a ha
        · exact q3 a ha b (by simp [hb])⟩
    · rw [addG_new hA hB]
      exact List.pairwise_append.2 ⟨q1, List.pairwise_cons.2 ⟨fun x hx => hB x hx, q2⟩, fun a ha b hb => by
        rcases List.mem_cons.1 hb with rfl | hb
        · exact hA a ha
        · exact q3 a ha b hb⟩
  · rcases addG_mem hg with hg | rfl | ⟨x, hx, he, rfl⟩
    · exact hl.one g hg
    · exact ⟨k.e1, oneG_ne k, oneG_norm h⟩
    · obtain ⟨u1, u2, u3⟩ := union_ne k (hl.one x hx).2.2
      exact ⟨k.e1, u2, u1⟩
theorem addG_has {l : List Got} {h : Hdr} (k : h.May) (hl : MayG l) (i : Hdr) : hasG (addG h (oneG h) l) i = (hasG l i || decide (h = i)) := by
  obtain ⟨A, B, rfl, _, hA, hB⟩ := hl.split h.epoch
  have hd : (h = i) ↔ (h.epoch = i.epoch ∧ i.dot = h.dot) := by
    obtain ⟨a, b, c⟩ := h
    obtain ⟨x, y, z⟩ := i
    simp [Hdr.dot]
    intro _
    constructor
    · rintro ⟨rfl, rfl⟩; exact ⟨rfl, rfl⟩
    · rintro ⟨rfl, rfl⟩; exact ⟨rfl, rfl⟩
  rcases hB with ⟨_, g, B', rfl, hg, hB⟩ | ⟨_, hB⟩
  · rw [addG_at hA hg, hasG_append, hasG_append]
    obtain ⟨u1, u2, u3⟩ := union_ne k (hl.one g (by simp)).2.2
    show (hasG A i || (decide (h.epoch = i.epoch) && hasDot (unionL g.runs (oneG h)) i.dot || hasG B' i)) = (hasG A i || (decide (g.epoch = i.epoch) && hasDot g.runs i.dot || hasG B' i) || decide (h = i))
    rw [u3, hg, decide_eq_decide.2 hd, Bool.decide_and]
    cases hasG A i <;> cases hasG B' i <;> cases decide (h.epoch = i.epoch) <;> cases hasDot g.runs i.dot <;> cases decide (i.dot = h.dot) <;> rfl
  · rw [addG_new hA hB, hasG_append, hasG_append]
    show (hasG A i || (decide (h.epoch = i.epoch) && hasDot (oneG h) i.dot || hasG B i)) = (hasG A i || hasG B i || decide (h = i))
    rw [oneG_has k, decide_eq_decide.2 hd, Bool.decide_and]
    cases hasG A i <;> cases hasG B i <;> cases decide (h.epoch = i.epoch) <;> cases decide (i.dot = h.dot) <;> rfl
theorem addG_len {h : Hdr} {d : List Rn} : ∀ {l : List Got}, (addG h d l).length ≤ l.length + 1
  | [] => by simp [addG]
  | g :: l => by
    unfold addG
    have := addG_len (h := h) (d := d) (l := l)
    split
    · simp; omega
    · split <;> simp
/-- Runs of one list stay few. -/
theorem addG_runs {h : Hdr} {l : List Got} {N : Nat} (hl : ∀ g ∈ l, g.runs.length ≤ N) : ∀ g ∈ addG h (oneG h) l, g.runs.length ≤ N + 1 := fun g hg => by
  have h1 := oneG_len h
  rcases addG_mem hg with hg | rfl | ⟨x, hx, he, rfl⟩
  · have := hl g hg; omega
  · simp only; omega
  · have := hl x hx
    have := unionL_len (a := x.runs) (b := oneG h)
    simp only
    omega

/-! ### How many came -/
def cntG (l : List Got) : Int := (l.map fun g => sumR g.runs).foldr (· + ·) 0
theorem cntG_append (A B : List Got) : cntG (A ++ B) = cntG A + cntG B := by
  induction A with
  | nil => simp [cntG]
  | cons a A ih =>
    have h1 : cntG (a :: A ++ B) = sumR a.runs + cntG (A ++ B) := rfl
    have h2 : cntG (a :: A) = sumR a.runs + cntG A := rfl
    rw [h1, h2, ih]; omega
/-- Of few senders and small numbers. -/
def FewR (l : List Rn) : Prop := ∀ r ∈ l, r.dev < 4 ∧ r.to ≤ 20
theorem few_of_has {l : List Rn} (hn : Norm l) (hd : ∀ d, hasDot l d = true → d.dev < 4 ∧ d.n ≤ 20) : FewR l := fun r hr => by
  have := hn.right r hr
  exact hd ⟨r.dev, r.to⟩ (by
    simp only [hasDot, List.any_eq_true]
    refine ⟨r, hr, ?_⟩
    simp [Rn.has]
    exact this.ft)
theorem has_of_few {l : List Rn} (hf : FewR l) {d : Dot} (h : hasDot l d = true) : d.dev < 4 ∧ d.n ≤ 20 := by
  simp only [hasDot, List.any_eq_true] at h
  obtain ⟨r, hr, h⟩ := h
  simp [Rn.has] at h
  obtain ⟨f1, f2⟩ := hf r hr
  exact ⟨by omega, by omega⟩
theorem union_few {a : List Rn} {h : Hdr} (k : h.May) (ha : Norm a) (hf : FewR a) (h4 : h.frm < 4) (h20 : h.seq ≤ 20) : FewR (unionL a (oneG h)) := by
  obtain ⟨u1, u2, u3⟩ := union_ne k ha
  refine few_of_has u1 fun d hd => ?_
  rw [u3] at hd
  rcases Bool.or_eq_true_iff.1 hd with hd | hd
  · exact has_of_few hf hd
  · simp at hd; subst hd; exact ⟨h4, h20⟩
theorem sum_union {a : List Rn} {h : Hdr} (k : h.May) (ha : Norm a) (hf : FewR a) (h4 : h.frm < 4) (h20 : h.seq ≤ 20) (hn : hasDot a h.dot = false) : sumR (unionL a (oneG h)) = sumR a + 1 := by
  obtain ⟨u1, u2, u3⟩ := union_ne k ha
  have hf2 := union_few k ha hf h4 h20
  obtain ⟨c1, _⟩ := count_runs u1 hf2
  obtain ⟨c2, _⟩ := count_runs ha hf
  rw [← c1, ← c2]
  obtain ⟨f, hfn⟩ : ∃ f : Nat, h.frm = f := ⟨h.frm.toNat, by have := k.f0; omega⟩
  obtain ⟨s, hsn⟩ : ∃ s : Nat, h.seq = s := ⟨h.seq.toNat, by have := k.s1; omega⟩
  have hs1 := k.s1
  have hone := (totN_run f (by omega) s (by omega) s (by omega) (by omega) (Nat.le_refl _)).2
  have hdot : h.dot = ⟨(f : Int), (s : Int)⟩ := by simp [Hdr.dot, hfn, hsn]
  have hor := totN_or (p := hasN (unionL a (oneG h))) (q := hasN a) (r := runN' f s s) (D := 4) (fun d k _ _ _ => by
    unfold hasN
    rw [u3, hdot]
    congr 1
    unfold runN'
    rw [Bool.eq_iff_iff]
    simp
    omega) (fun d k _ _ _ => by
    rintro ⟨q1, q2⟩
    unfold runN' at q2
    simp at q2
    have e1 : d = f := q2.1.1
    have e2 : k = s := by omega
    subst e1; subst e2
    unfold hasN at q1
    rw [← hdot, hn] at q1
    cases q1) (d := 4) (Nat.le_refl _)
  rw [hor, hone]
  omega
theorem sum_one {h : Hdr} (k : h.May) (h4 : h.frm < 4) (h20 : h.seq ≤ 20) : sumR (oneG h) = 1 := by
  have := sum_union k .nil (fun r hr => by cases hr) h4 h20 rfl
  rw [unionL_nil (oneG_norm h)] at this
  rw [this]; rfl
theorem cnt_add {l : List Got} {h : Hdr} (k : h.May) (hl : MayG l) (hf : ∀ g ∈ l, FewR g.runs) (h4 : h.frm < 4) (h20 : h.seq ≤ 20) (hn : hasG l h = false) : cntG (addG h (oneG h) l) = cntG l + 1 := by
  obtain ⟨A, B, rfl, _, hA, hB⟩ := hl.split h.epoch
  rcases hB with ⟨_, g, B', rfl, hg, hB⟩ | ⟨_, hB⟩
  · rw [hasG_at hA hg hB] at hn
    rw [addG_at hA hg, cntG_append, cntG_append]
    show cntG A + (sumR (unionL g.runs (oneG h)) + cntG B') = cntG A + (sumR g.runs + cntG B') + 1
    rw [sum_union k (hl.one g (by simp)).2.2 (hf g (by simp)) h4 h20 hn]; omega
  · rw [addG_new hA hB, cntG_append, cntG_append]
    show cntG A + (sumR (oneG h) + cntG B) = cntG A + cntG B + 1
    rw [sum_one k h4 h20]; omega
theorem few_add {l : List Got} {h : Hdr} (k : h.May) (hl : MayG l) (hf : ∀ g ∈ l, FewR g.runs) (h4 : h.frm < 4) (h20 : h.seq ≤ 20) : ∀ g ∈ addG h (oneG h) l, FewR g.runs := fun g hg => by
  rcases addG_mem hg with hg | rfl | ⟨x, hx, he, rfl⟩
  · exact hf g hg
  · have := union_few k .nil (fun r hr => by cases hr) h4 h20
    rwa [unionL_nil (oneG_norm h)] at this
  · exact union_few k (hl.one x hx).2.2 (hf x hx) h4 h20

end Go.Proofs.Ytmdblemjlmfbbaa.Eng
