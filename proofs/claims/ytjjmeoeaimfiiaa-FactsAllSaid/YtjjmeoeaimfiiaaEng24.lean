/- The engine, part 24: heaps that grow block by block; slices that are built. No statement of the seat is proved here. -/
import Derived.Test.YtjjmeoeaimfiiaaEng23
namespace Go.Proofs.Ytjjmeoeaimfiiaa.Eng
open Go
set_option linter.unusedVariables false
set_option linter.unusedSimpArgs false

variable {H : Heap} {b i : Nat} {k : Blk} {r : List Cell}

theorem lt_snoc_self : (H.length < (H ++ [k]).length) = True := by simp
theorem lt_snoc_of (h : b < H.length) : (b < (H ++ [k]).length) = True := by simp; omega
theorem get_last : (H ++ [k])[H.length]? = some k := by simp
theorem get_prev (h : b < H.length) : (H ++ [k])[b]? = H[b]? := List.getElem?_append_left h
theorem row_last {sz : Nat} {rows : List (List Cell)} {o : Bool} : Heap.row (H ++ [{ sz := sz, rows := rows, own := o, live := true }]) H.length i = rows[i]? := by simp [Heap.row]
theorem row_prev (h : b < H.length) : Heap.row (H ++ [k]) b i = Heap.row H b i := by simp only [Heap.row, get_prev h]
theorem mine_last {sz : Nat} {rows : List (List Cell)} : Heap.mine (H ++ [{ sz := sz, rows := rows, own := true, live := true }]) H.length = true := by simp [Heap.mine]
theorem mine_prev (h : b < H.length) : Heap.mine (H ++ [k]) b = Heap.mine H b := by simp only [Heap.mine, get_prev h]
theorem put_last {sz : Nat} {rows : List (List Cell)} {o l : Bool} : Heap.put (H ++ [{ sz := sz, rows := rows, own := o, live := l }]) H.length i r = H ++ [{ sz := sz, rows := rows.set i r, own := o, live := l }] := by
  simp [Heap.put]
theorem put_prev (h : b < H.length) : Heap.put (H ++ [k]) b i r = Heap.put H b i r ++ [k] := by
  unfold Heap.put
  rw [get_prev h]
  cases hk : H[b]? with
  | none => rfl
  | some q => simp [List.set_append, h]
theorem put_len : (Heap.put H b i r).length = H.length := by
  unfold Heap.put
  cases hk : H[b]? <;> simp
theorem set_one {a b : List Cell} : [a].set 0 b = [b] := rfl
theorem get_one {a : List Cell} : [a][0]? = some a := rfl

/-! ### A slice that is built -/
/-- What value a slice has whose rows lie in an own block: nil, as long as it has none. -/
def Acc (sz : Nat) (rows : List (List Cell)) (v : AVal) (H : Heap) : Prop :=
  (rows = [] ∧ v = .c .nilS) ∨ ∃ b, v = .c (.slc b 0 rows.length sz false) ∧ H[b]? = some { sz := sz, rows := rows, own := true, live := true }

variable {sz : Nat} {rows new : List (List Cell)} {v : AVal}

theorem Acc.nil : Acc sz [] (.c .nilS) H := .inl ⟨rfl, rfl⟩
theorem Acc.snoc (h : Acc sz rows v H) : Acc sz rows v (H ++ [k]) := by
  rcases h with h | ⟨b, h1, h2⟩
  · exact .inl h
  · exact .inr ⟨b, h1, by rw [get_prev (List.getElem?_eq_some_iff.1 h2).1]; exact h2⟩
theorem Acc.len (h : Acc sz rows v H) {H' : Heap} : vLen v H' = some (.c (.int .i64 rows.length), H') := by
  rcases h with ⟨rfl, rfl⟩ | ⟨b, rfl, h2⟩ <;> rfl
theorem Acc.view (h : Acc sz rows v H) (hc : closedR rows = true) : ∃ c, viewA H v = some (.c c) ∧ (c = .lst sz rows ∨ (rows = [] ∧ c = .nilS)) := by
  rcases h with ⟨rfl, rfl⟩ | ⟨b, rfl, h2⟩
  · exact ⟨.nilS, rfl, .inr ⟨rfl, rfl⟩⟩
  · refine ⟨.lst sz rows, ?_, .inl rfl⟩
    simp only [viewA, viewFn, viewC]
    by_cases h0 : rows.length = 0
    · have : rows = [] := List.eq_nil_of_length_eq_zero h0
      subst this; rfl
    · simp [h0, h2, hc]

theorem Acc.viewW (h : Acc sz rows v H) (hc : closedR rows = true) : viewW H v (.c (.lst sz rows)) := by
  obtain ⟨c, h1, h2⟩ := h.view hc
  refine ⟨_, h1, .c ?_⟩
  rcases h2 with rfl | ⟨rfl, rfl⟩
  · exact .same _
  · exact .nilS _

/-- One append onto it. -/
theorem Acc.app (h : Acc sz rows v H) {bytes : Nat} {y : Cell} (hr : H.rowsOf y = some new) (hf : fitsSz sz y = true) (hb : (rows.length + new.length) * bytes ≤ 140737488355328) :
    ∃ v' H', vApp sz bytes v (.c y) H = some (v', H') ∧ Acc sz (rows ++ new) v' H' ∧ H.length ≤ H'.length ∧
      (∀ b, (∀ n s z q, v ≠ .c (.slc b s n q z)) → b < H.length → H'[b]? = H[b]?) := by
  rcases h with ⟨rfl, rfl⟩ | ⟨b, rfl, h2⟩
  · simp only [vApp, evApp, hr, hf, if_true]
    by_cases h0 : new.length = 0
    · have : new = [] := List.eq_nil_of_length_eq_zero h0
      subst this
      exact ⟨.c .nilS, H, by simp, .nil, Nat.le_refl _, fun _ _ _ => rfl⟩
    · rw [if_neg h0, if_pos (by simpa using hb)]
      exact ⟨_, _, rfl, .inr ⟨H.length, rfl, by simp⟩, by simp, fun b _ hb => get_prev hb⟩
  · simp only [vApp, evApp, hr, hf, if_true]
    by_cases h0 : new.length = 0
    · have : new = [] := List.eq_nil_of_length_eq_zero h0
      subst this
      exact ⟨_, H, by simp; rfl, by rw [List.append_nil]; exact .inr ⟨b, rfl, h2⟩, Nat.le_refl _, fun _ _ _ => rfl⟩
    · rw [if_neg h0, if_pos ⟨trivial, hb⟩]
      simp only [h2, Bool.false_eq_true, if_false]
      rw [if_pos ⟨trivial, trivial, trivial, Nat.le_refl _⟩]
      refine ⟨_, _, rfl, .inr ⟨H.length, by rw [List.length_append], by simp⟩, by simp, fun b' hne hb' => ?_⟩
      rw [get_prev (by simpa using hb'), List.getElem?_set_ne]
      intro e; subst e; exact hne _ _ _ _ rfl

/-- One append of rows that nobody writes. -/
theorem Acc.appL (h : Acc sz rows v H) {bytes : Nat} (hb : (rows.length + new.length) * bytes ≤ 140737488355328) :
    ∃ v' H', vApp sz bytes v (.c (.lst sz new)) H = some (v', H') ∧ Acc sz (rows ++ new) v' H' := by
  obtain ⟨v', H', h1, h2, _⟩ := h.app (y := .lst sz new) rfl (by simp [fitsSz]) hb
  exact ⟨v', H', h1, h2⟩

/-- Its rows, once it is looked at. -/
theorem Acc.rowsOf (h : Acc sz rows v H) : ∃ c, v = .c c ∧ H.rowsOf c = some rows ∧ fitsSz sz c = true := by
  rcases h with ⟨rfl, rfl⟩ | ⟨b, rfl, h2⟩
  · exact ⟨_, rfl, rfl, rfl⟩
  · refine ⟨_, rfl, ?_, by simp [fitsSz]⟩
    simp only [Heap.rowsOf, h2]
    by_cases h0 : rows.length = 0
    · have : rows = [] := List.eq_nil_of_length_eq_zero h0
      subst this; rfl
    · simp [h0]

/-! ### Closed rows -/
theorem closedR_map {α : Type} {f : α → List Cell} (hf : ∀ x, closedCs (f x) = true) : ∀ (l : List α), closedR (l.map f) = true
  | [] => rfl
  | x :: l => by simp [closedR, hf, closedR_map hf l]
theorem closedR_append : ∀ {a b : List (List Cell)}, closedR (a ++ b) = (closedR a && closedR b)
  | [], b => by simp [closedR]
  | x :: a, b => by simp [closedR, closedR_append, Bool.and_assoc]

/-- An int of 64 bits as the program reckons it. -/
abbrev W (n : Int) : Int := IntKind.wrap .i64 n
theorem W_of {n : Int} (h : -9223372036854775808 ≤ n ∧ n ≤ 9223372036854775807) : W n = n := wrap64 h
def I64 (n : Int) : Prop := -9223372036854775808 ≤ n ∧ n ≤ 9223372036854775807

section
variable {H : Heap} {sz : Nat} {a b c d : List Cell}
theorem mkF_lit1 (ha : closedCs a = true) : mkF H (vLit sz 1 (some [a]) H) = some (.c (.lst sz [a])) := mkF_lit rfl (by simp [closedR, ha]) (by omega)
theorem mkF_lit2 (ha : closedCs a = true) (hb : closedCs b = true) : mkF H (vLit sz 2 (some [a, b]) H) = some (.c (.lst sz [a, b])) := mkF_lit rfl (by simp [closedR, ha, hb]) (by omega)
theorem mkF_lit3 (ha : closedCs a = true) (hb : closedCs b = true) (hc : closedCs c = true) : mkF H (vLit sz 3 (some [a, b, c]) H) = some (.c (.lst sz [a, b, c])) := mkF_lit rfl (by simp [closedR, ha, hb, hc]) (by omega)
theorem mkF_lit4 (ha : closedCs a = true) (hb : closedCs b = true) (hc : closedCs c = true) (hd : closedCs d = true) : mkF H (vLit sz 4 (some [a, b, c, d]) H) = some (.c (.lst sz [a, b, c, d])) := mkF_lit rfl (by simp [closedR, ha, hb, hc, hd]) (by omega)
end

/-! ### Rows of a slice, by their places -/
theorem vIx_nat {H : Heap} {sz q : Nat} {rows : List (List Cell)} {ik : IntKind} : vIx sz (.c (.lst sz rows)) (.c (.int ik (q : Int))) H = match rows[q]? with | some r => some (.c (.fp r 0), H) | none => none := vIx_lst rfl
theorem map_at {α : Type} {f : α → List Cell} {pre rest : List α} {x : α} : ((pre ++ x :: rest).map f)[pre.length]? = some (f x) := by simp
theorem map_at' {α : Type} {f : α → List Cell} {l pre rest : List α} {x : α} (h : l = pre ++ x :: rest) : (l.map f)[pre.length]? = some (f x) := by rw [h]; exact map_at
theorem lt_at {α : Type} {f : α → List Cell} {l pre rest : List α} {x : α} (h : l = pre ++ x :: rest) : ((pre.length : Int) < ((l.map f).length : Int)) := by rw [h]; simp; omega
theorem not_lt_at {α : Type} {f : α → List Cell} {l pre : List α} (h : l = pre ++ []) : ¬ ((pre.length : Int) < ((l.map f).length : Int)) := by rw [h]; simp
theorem next_at {α : Type} {l pre rest : List α} {x : α} (h : l = pre ++ x :: rest) (hl : l.length ≤ maxLen) : IntKind.wrap .i64 ((pre.length : Int) + 1) = ((pre ++ [x]).length : Int) := by
  have : pre.length + 1 ≤ maxLen := by rw [h] at hl; simp at hl; omega
  rw [wrap64 (by unfold maxLen at this; omega)]
  simp
theorem prev_at {α : Type} {pre : List α} {x : α} (hl : (pre ++ [x]).length ≤ maxLen) : IntKind.wrap .i64 (((pre ++ [x]).length : Int) - 1) = (pre.length : Int) := by
  have : pre.length + 1 ≤ maxLen := by simpa using hl
  rw [wrap64 (by simp; unfold maxLen at this; omega)]
  simp
theorem nopos_at {α : Type} : ¬ ((0 : Int) < ((([] : List α).length : Nat) : Int)) := by simp
theorem pos_at {α : Type} {pre : List α} {x : α} : (0 : Int) < ((pre ++ [x]).length : Int) := by rw [List.length_append]; simp only [List.length_singleton]; omega

/-! ### Guards and conditions that are told apart -/
section
variable {G : Prog} {p : Post} {k : List Itm} {d : Bool} {e : Env} {H : Heap} {l : List AInstr} {dst : Option Nat}
theorem guardW_nsplit {q : Prop} [Decidable q] {o : AOp} {fz : Bool} (h1 : ¬q → stepW G p k d fz o dst l e H) (h2 : q → o.isBad = false ∧ WL G p k d l (updO e dst undefA) H) : guardW G p k d (!decide q) fz o dst l e H := by
  by_cases hq : q
  · exact .inr ⟨by simp [hq], h2 hq⟩
  · exact .inl ⟨by simp [hq], h1 hq⟩
theorem guardW_nbool {b : Bool} {o : AOp} {fz : Bool} (h1 : b = false → stepW G p k d fz o dst l e H) (h2 : b = true → o.isBad = false ∧ WL G p k d l (updO e dst undefA) H) : guardW G p k d (!b) fz o dst l e H := by
  cases b
  · exact .inl ⟨rfl, h1 rfl⟩
  · exact .inr ⟨rfl, h2 rfl⟩
theorem condW_nsplit {q : Prop} [Decidable q] {a b : ACode} (h1 : ¬q → Run G p (.code a :: k) e H) (h2 : q → Run G p (.code b :: k) e H) : condW G p k (.c (.bool (!decide q))) a b e H := by
  by_cases hq : q
  · have : (!decide q) = false := by simp [hq]
    rw [this]; exact condW_false (h2 hq)
  · have : (!decide q) = true := by simp [hq]
    rw [this]; exact condW_true (h1 hq)
theorem condW_ncases {t : Bool} {a b : ACode} (h1 : t = false → Run G p (.code a :: k) e H) (h2 : t = true → Run G p (.code b :: k) e H) : condW G p k (.c (.bool (!t))) a b e H := by
  cases t
  · exact condW_true (h1 rfl)
  · exact condW_false (h2 rfl)
end

theorem Acc.app_step {G : Prog} {p : Post} {k : List Itm} {d : Bool} {e : Env} {H : Heap} {l : List AInstr} {dst : Option Nat} {sz bytes : Nat} {rows new : List (List Cell)} {v : AVal}
    (h : Acc sz rows v H) (hb : (rows.length + new.length) * bytes ≤ 140737488355328) (hw : ∀ v' H', Acc sz (rows ++ new) v' H' → WL G p k d l (updO e dst v') H') : thenW G p k d (vApp sz bytes v (.c (.lst sz new)) H) dst l e := by
  obtain ⟨v', H', h1, h2⟩ := h.appL (new := new) hb
  exact thenW_of h1 (hw v' H' h2)

def resBool (r : Option (AVal × Heap)) : Option Bool := match r with | some (.c (.bool b), _) => some b | _ => none

/-- A closed call that was run: it answers a bool. -/
theorem pure_bool {P : Program} {T : Nat → Option AFun} (hT : ∀ f a, T f = some a → cmpFun P f = some a.erase) (hm : P.follows .mixedOrders = true) (n : Nat) {f : Nat} {args : List AVal} {b : Bool} (ha : closedAs args = true) (h : resBool ((runN T n).1 f args []) = some b) : Pure P f args (.c (.bool b)) := by
  unfold resBool at h
  split at h
  · rename_i b' H' hr
    injection h with h; subst h
    exact pure_run hT hm n hr ha rfl
  · cases h

end Go.Proofs.Ytjjmeoeaimfiiaa.Eng
