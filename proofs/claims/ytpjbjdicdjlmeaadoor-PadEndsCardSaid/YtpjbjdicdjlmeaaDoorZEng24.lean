/- The engine, part 24: heaps that grow block by block; slices that are built. No statement of the seat is proved here. -/
import Derived.Test.YtpjbjdicdjlmeaaDoorZEng23
namespace Go.Proofs.YtpjbjdicdjlmeaaDoor.Eng
open Go
set_option linter.unusedVariables false
set_option linter.unusedSimpArgs false

variable {H : Heap} {b i : Nat} {k : Blk} {r : List Cell}

theorem lt_snoc_self : (H.length < (H ++ [k]).length) = True := by simp
theorem lt_snoc_of (h : b < H.length) : (b < (H ++ [k]).length) = True := by simp; omega
theorem get_last : (H ++ [k])[H.length]? = some k := by simp
theorem get_prev (h : b < H.length) : (H ++ [k])[b]? = H[b]? := List.getElem?_append_left h
theorem row_last {sz : Nat} {rows : List (List Cell)} {o : Bool} : Heap.row (H ++ [{ sz := sz, rows := rows, own := o, live := true }]) H.length i = rows[i]? := by simp [Heap.row]
theorem row_prev (h : b < H.length) : Heap.row (H ++ [k]) b i = Heap.row H b i := by simp only [Heap.row, get_prev h]
theorem mine_last {sz : Nat} {rows : List (List Cell)} : Heap.mine (H ++ [{ sz := sz, rows := rows, own := true, live := true }]) H.length = true := by simp [Heap.mine]
theorem mine_prev (h : b < H.length) : Heap.mine (H ++ [k]) b = Heap.mine H b := by simp only [Heap.mine, get_prev h]
theorem put_last {sz : Nat} {rows : List (List Cell)} {o l : Bool} : Heap.put (H ++ [{ sz := sz, rows := rows, own := o, live := l }]) H.length i r = H ++ [{ sz := sz, rows := rows.set i r, own := o, live := l }] := by
  simp [Heap.put]
theorem put_prev (h : b < H.length) : Heap.put (H ++ [k]) b i r = Heap.put H b i r ++ [k] := by
  unfold Heap.put
  rw [get_prev h]
  cases hk : H[b]? with
  | none => rfl
  | some q => simp [List.set_append, h]
theorem put_len : (Heap.put H b i r).length = H.length := by
  unfold Heap.put
  cases hk : H[b]? <;> simp
theorem set_one {a b : List Cell} : [a].set 0 b = [b] := rfl
theorem get_one {a : List Cell} : [a][0]? = some a := rfl

/-! ### A slice that is built -/
/-- What value a slice has whose rows lie in an own block, first of all: or one without room, as long as it has none. -/
def Acc (sz : Nat) (rows : List (List Cell)) (v : AVal) (H : Heap) : Prop :=
  (rows = [] ∧ (v = .c .nilS ∨ v = .c (.zer sz))) ∨ ∃ b ext, v = .c (.slc b 0 rows.length sz false) ∧ H[b]? = some { sz := sz, rows := rows ++ ext, own := true, live := true }

variable {sz : Nat} {rows new : List (List Cell)} {v : AVal}

theorem Acc.nil : Acc sz [] (.c .nilS) H := .inl ⟨rfl, .inl rfl⟩
theorem Acc.zer : Acc sz [] (.c (.zer sz)) H := .inl ⟨rfl, .inr rfl⟩
theorem Acc.last : Acc sz rows (.c (.slc H.length 0 rows.length sz false)) (H ++ [{ sz := sz, rows := rows }]) := .inr ⟨H.length, [], rfl, by simp⟩
theorem Acc.snoc (h : Acc sz rows v H) : Acc sz rows v (H ++ [k]) := by
  rcases h with h | ⟨b, ext, h1, h2⟩
  · exact .inl h
  · exact .inr ⟨b, ext, h1, by rw [get_prev (List.getElem?_eq_some_iff.1 h2).1]; exact h2⟩
theorem Acc.len (h : Acc sz rows v H) {H' : Heap} : vLen v H' = some (.c (.int .i64 rows.length), H') := by
  rcases h with ⟨rfl, rfl | rfl⟩ | ⟨b, ext, rfl, h2⟩ <;> rfl
theorem Acc.told (h : Acc sz rows v H) (hc : closedR rows = true) : viewW H v (.c (.lst sz rows)) := by
  rcases h with ⟨rfl, rfl | rfl⟩ | ⟨b, ext, rfl, h2⟩
  · exact ⟨_, rfl, .c (.nilS _)⟩
  · exact ⟨_, rfl, .c (.zer _)⟩
  · refine ⟨.c (.lst sz rows), ?_, .same _⟩
    simp only [viewA, viewFn, viewC]
    by_cases h0 : rows.length = 0
    · have : rows = [] := List.eq_nil_of_length_eq_zero h0
      subst this; rfl
    · simp [h0, h2, hc]
/-- One append onto it. -/
theorem Acc.app (h : Acc sz rows v H) {bytes : Nat} {y : Cell} (hr : H.rowsOf y = some new) (hf : fitsSz sz y = true) (hb : (rows.length + new.length) * bytes ≤ 140737488355328) :
    ∃ v' H', vApp sz bytes v (.c y) H = some (v', H') ∧ Acc sz (rows ++ new) v' H' ∧ H.length ≤ H'.length ∧
      (∀ b, (∀ n s z q, v ≠ .c (.slc b s n q z)) → b < H.length → H'[b]? = H[b]?) := by
  rcases h with ⟨rfl, hv⟩ | ⟨b, ext, rfl, h2⟩
  · by_cases h0 : new.length = 0
    · have : new = [] := List.eq_nil_of_length_eq_zero h0
      subst this
      refine ⟨v, H, ?_, .inl ⟨rfl, hv⟩, Nat.le_refl _, fun _ _ _ => rfl⟩
      rcases hv with rfl | rfl <;> simp only [vApp, evApp, hr, hf, if_true, List.length_nil]
    · refine ⟨.c (.slc H.length 0 new.length sz false), H ++ [{ sz := sz, rows := new }], ?_, .last, by simp, fun b _ hb => get_prev hb⟩
      rcases hv with rfl | rfl <;> (simp only [vApp, evApp, hr, hf, if_true]; rw [if_neg h0, if_pos (by simpa using hb)])
  · simp only [vApp, evApp, hr, hf, if_true]
    by_cases h0 : new.length = 0
    · have : new = [] := List.eq_nil_of_length_eq_zero h0
      subst this
      exact ⟨_, H, by simp; rfl, by rw [List.append_nil]; exact .inr ⟨b, ext, rfl, h2⟩, Nat.le_refl _, fun _ _ _ => rfl⟩
    · rw [if_neg h0, if_pos ⟨trivial, hb⟩]
      simp only [h2, Bool.false_eq_true, if_false]
      rw [if_pos ⟨trivial, trivial, trivial, by simp⟩]
      refine ⟨_, _, rfl, .inr ⟨H.length, [], by rw [List.length_append], by simp⟩, by simp, fun b' hne hb' => ?_⟩
      rw [get_prev (by simpa using hb'), List.getElem?_set_ne]
      intro e; subst e; exact hne _ _ _ _ rfl

/-- One append of rows that nobody writes. -/
theorem Acc.appL (h : Acc sz rows v H) {bytes : Nat} (hb : (rows.length + new.length) * bytes ≤ 140737488355328) :
    ∃ v' H', vApp sz bytes v (.c (.lst sz new)) H = some (v', H') ∧ Acc sz (rows ++ new) v' H' := by
  obtain ⟨v', H', h1, h2, _⟩ := h.app (y := .lst sz new) rfl (by simp [fitsSz]) hb
  exact ⟨v', H', h1, h2⟩

/-- Its rows, once it is looked at. -/
theorem Acc.rowsOf (h : Acc sz rows v H) : ∃ c, v = .c c ∧ H.rowsOf c = some rows := by
  rcases h with ⟨rfl, rfl | rfl⟩ | ⟨b, ext, rfl, h2⟩
  · exact ⟨_, rfl, rfl⟩
  · exact ⟨_, rfl, rfl⟩
  · refine ⟨_, rfl, ?_⟩
    simp only [Heap.rowsOf, h2]
    by_cases h0 : rows.length = 0
    · have : rows = [] := List.eq_nil_of_length_eq_zero h0
      subst this; rfl
    · simp [h0]

/-! ### Closed rows -/
theorem closedR_map {α : Type} {f : α → List Cell} (hf : ∀ x, closedCs (f x) = true) : ∀ (l : List α), closedR (l.map f) = true
  | [] => rfl
  | x :: l => by simp [closedR, hf, closedR_map hf l]
theorem closedR_append : ∀ {a b : List (List Cell)}, closedR (a ++ b) = (closedR a && closedR b)
  | [], b => by simp [closedR]
  | x :: a, b => by simp [closedR, closedR_append, Bool.and_assoc]

/-- An int of 64 bits as the program reckons it. -/
abbrev W (n : Int) : Int := IntKind.wrap .i64 n
theorem W_of {n : Int} (h : -9223372036854775808 ≤ n ∧ n ≤ 9223372036854775807) : W n = n := wrap64 h
def I64 (n : Int) : Prop := -9223372036854775808 ≤ n ∧ n ≤ 9223372036854775807

section
variable {H : Heap} {sz : Nat} {a b c d : List Cell}
theorem mkF_lit1 (ha : closedCs a = true) : mkF H (vLit sz 1 (some [a]) H) = some (.c (.lst sz [a])) := mkF_lit rfl (by simp [closedR, ha]) (by omega)
theorem mkF_lit2 (ha : closedCs a = true) (hb : closedCs b = true) : mkF H (vLit sz 2 (some [a, b]) H) = some (.c (.lst sz [a, b])) := mkF_lit rfl (by simp [closedR, ha, hb]) (by omega)
theorem mkF_lit3 (ha : closedCs a = true) (hb : closedCs b = true) (hc : closedCs c = true) : mkF H (vLit sz 3 (some [a, b, c]) H) = some (.c (.lst sz [a, b, c])) := mkF_lit rfl (by simp [closedR, ha, hb, hc]) (by omega)
theorem mkF_lit4 (ha : closedCs a = true) (hb : closedCs b = true) (hc : closedCs c = true) (hd : closedCs d = true) : mkF H (vLit sz 4 (some [a, b, c, d]) H) = some (.c (.lst sz [a, b, c, d])) := mkF_lit rfl (by simp [closedR, ha, hb, hc, hd]) (by omega)
end

/-! ### Rows of a slice, by their places -/
theorem vIx_nat {H : Heap} {sz q : Nat} {rows : List (List Cell)} {ik : IntKind} : vIx sz (.c (.lst sz rows)) (.c (.int ik (q : Int))) H = match rows[q]? with | some r => some (.c (.fp r 0), H) | none => none := vIx_lst rfl
theorem map_at {α : Type} {f : α → List Cell} {pre rest : List α} {x : α} : ((pre ++ x :: rest).map f)[pre.length]? = some (f x) := by simp
theorem map_at' {α : Type} {f : α → List Cell} {l pre rest : List α} {x : α} (h : l = pre ++ x :: rest) : (l.map f)[pre.length]? = some (f x) := by rw [h]; exact map_at
theorem lt_at {α : Type} {f : α → List Cell} {l pre rest : List α} {x : α} (h : l = pre ++ x :: rest) : ((pre.length : Int) < ((l.map f).length : Int)) := by rw [h]; simp; omega
theorem not_lt_at {α : Type} {f : α → List Cell} {l pre : List α} (h : l = pre ++ []) : ¬ ((pre.length : Int) < ((l.map f).length : Int)) := by rw [h]; simp
theorem next_at {α : Type} {l pre rest : List α} {x : α} (h : l = pre ++ x :: rest) (hl : l.length ≤ maxLen) : IntKind.wrap .i64 ((pre.length : Int) + 1) = ((pre ++ [x]).length : Int) := by
  have : pre.length + 1 ≤ maxLen := by rw [h] at hl; simp at hl; omega
  rw [wrap64 (by unfold maxLen at this; omega)]
  simp
theorem prev_at {α : Type} {pre : List α} {x : α} (hl : (pre ++ [x]).length ≤ maxLen) : IntKind.wrap .i64 (((pre ++ [x]).length : Int) - 1) = (pre.length : Int) := by
  have : pre.length + 1 ≤ maxLen := by simpa using hl
  rw [wrap64 (by simp; unfold maxLen at this; omega)]
  simp
theorem nopos_at {α : Type} : ¬ ((0 : Int) < ((([] : List α).length : Nat) : Int)) := by simp
theorem pos_at {α : Type} {pre : List α} {x : α} : (0 : Int) < ((pre ++ [x]).length : Int) := by rw [List.length_append]; simp only [List.length_singleton]; omega

/-! ### Guards and conditions that are told apart -/
section
variable {G : Prog} {p : Post} {k : List Itm} {d : Bool} {e : Env} {H : Heap} {l : List AInstr} {dst : Option Nat}
theorem guardW_nsplit {q : Prop} [Decidable q] {o : AOp} {fz : Bool} (h1 : ¬q → stepW G p k d fz o dst l e H) (h2 : q → o.isBad = false ∧ WL G p k d l (updO e dst undefA) H) : guardW G p k d (!decide q) fz o dst l e H := by
  by_cases hq : q
  · exact .inr ⟨by simp [hq], h2 hq⟩
  · exact .inl ⟨by simp [hq], h1 hq⟩
theorem guardW_nbool {b : Bool} {o : AOp} {fz : Bool} (h1 : b = false → stepW G p k d fz o dst l e H) (h2 : b = true → o.isBad = false ∧ WL G p k d l (updO e dst undefA) H) : guardW G p k d (!b) fz o dst l e H := by
  cases b
  · exact .inl ⟨rfl, h1 rfl⟩
  · exact .inr ⟨rfl, h2 rfl⟩
theorem condW_nsplit {q : Prop} [Decidable q] {a b : ACode} (h1 : ¬q → Run G p (.code a :: k) e H) (h2 : q → Run G p (.code b :: k) e H) : condW G p k (.c (.bool (!decide q))) a b e H := by
  by_cases hq : q
  · have : (!decide q) = false := by simp [hq]
    rw [this]; exact condW_false (h2 hq)
  · have : (!decide q) = true := by simp [hq]
    rw [this]; exact condW_true (h1 hq)
theorem condW_ncases {t : Bool} {a b : ACode} (h1 : t = false → Run G p (.code a :: k) e H) (h2 : t = true → Run G p (.code b :: k) e H) : condW G p k (.c (.bool (!t))) a b e H := by
  cases t
  · exact condW_true (h1 rfl)
  · exact condW_false (h2 rfl)
end

theorem Acc.app_step {G : Prog} {p : Post} {k : List Itm} {d : Bool} {e : Env} {H : Heap} {l : List AInstr} {dst : Option Nat} {sz bytes : Nat} {rows new : List (List Cell)} {v : AVal}
    (h : Acc sz rows v H) (hb : (rows.length + new.length) * bytes ≤ 140737488355328) (hw : ∀ v' H', Acc sz (rows ++ new) v' H' → WL G p k d l (updO e dst v') H') : thenW G p k d (vApp sz bytes v (.c (.lst sz new)) H) dst l e := by
  obtain ⟨v', H', h1, h2⟩ := h.appL (new := new) hb
  exact thenW_of h1 (hw v' H' h2)

/-- The value of one that has rows. -/
theorem Acc.slc {sz : Nat} {rows : List (List Cell)} {v : AVal} {H : Heap} (h : Acc sz rows v H) (h0 : rows ≠ []) : ∃ b ext, v = .c (.slc b 0 rows.length sz false) ∧ b < H.length ∧ H[b]? = some { sz := sz, rows := rows ++ ext, own := true, live := true } := by
  rcases h with ⟨rfl, _⟩ | ⟨b, ext, rfl, h2⟩
  · exact absurd rfl h0
  · exact ⟨b, ext, rfl, (List.getElem?_eq_some_iff.1 h2).1, h2⟩
theorem row_of {H : Heap} {b i : Nat} {k : Blk} (h : H[b]? = some k) (hl : k.live = true) : Heap.row H b i = k.rows[i]? := by simp [Heap.row, h, hl]
theorem mine_of {H : Heap} {b : Nat} {k : Blk} (h : H[b]? = some k) (ho : k.own = true) (hl : k.live = true) : Heap.mine H b = true := by simp [Heap.mine, h, ho, hl]
theorem put_of {H : Heap} {b i : Nat} {k : Blk} {r : List Cell} (h : H[b]? = some k) : Heap.put H b i r = H.set b { k with rows := k.rows.set i r } := by simp [Heap.put, h]
theorem vIx_slc {H : Heap} {b n sz q : Nat} {z : Bool} {ik : IntKind} (h : q < n) : vIx sz (.c (.slc b 0 n sz z)) (.c (.int ik (q : Int))) H = some (.c (.ptr b q 0), H) := by
  simp [vIx, h]
/-- One element is written anew. -/
theorem Acc.put {sz : Nat} {rows : List (List Cell)} {H : Heap} {b i : Nat} {ext : List (List Cell)} {r : List Cell} (h : H[b]? = some { sz := sz, rows := rows ++ ext, own := true, live := true }) (hi : i < rows.length) :
    Acc sz (rows.set i r) (.c (.slc b 0 rows.length sz false)) (Heap.put H b i r) := by
  refine .inr ⟨b, ext, by simp, ?_⟩
  have hb := (List.getElem?_eq_some_iff.1 h).1
  rw [put_of h]
  simp [hb, List.set_append, hi]

/-! ### A built slice that nobody writes any more -/
mutual
theorem frz_closedC {b : Nat} {k : Blk} : ∀ {c : Cell}, closedC c = true → c.frz b k = c := by
  intro c h
  cases c with
  | slc => simp [closedC] at h
  | ptr => simp [closedC] at h
  | fn f cs => simp only [closedC] at h; simp only [Cell.frz, frz_closedCs h]
  | iface t a cs => simp only [closedC] at h; simp only [Cell.frz, frz_closedCs h]
  | _ => simp [Cell.frz]
theorem frz_closedCs {b : Nat} {k : Blk} : ∀ {cs : List Cell}, closedCs cs = true → frzs b k cs = cs
  | [], _ => rfl
  | x :: r, h => by
    simp only [closedCs, Bool.and_eq_true] at h
    simp only [frzs, frz_closedC h.1, frz_closedCs h.2]
end
mutual
theorem frz_closedA {b : Nat} {k : Blk} : ∀ {v : AVal}, closedA v = true → v.frz b k = v
  | .c x, h => by simp only [closedA] at h; simp only [AVal.frz, frz_closedC h]
  | .agg xs, h => by simp only [closedA] at h; simp only [AVal.frz, frz_closedCs h]
  | .tup xs, h => by simp only [closedA] at h; simp only [AVal.frz, frz_closedAs h]
theorem frz_closedAs {b : Nat} {k : Blk} : ∀ {vs : List AVal}, closedAs vs = true → frzAs b k vs = vs
  | [], _ => rfl
  | x :: r, h => by
    simp only [closedAs, Bool.and_eq_true] at h
    simp only [frzAs, frz_closedA h.1, frz_closedAs h.2]
end

/-- It is given up, and is a list from then on. -/
theorem Acc.fz {G : Prog} {p : Post} {k : List Itm} {e : Env} {H : Heap} {sz t : Nat} {rows : List (List Cell)} {c : ACode} (h : Acc sz rows (e t) H)
    (hw : ∀ e' H', e' t = .c (.lst sz rows) → (∀ s v, e s = v → closedA v = true → s ≠ t → e' s = v) → Run G p (.code c :: k) e' H') : Run G p (.code (.fz t c) :: k) e H := by
  rcases h with ⟨rfl, hv⟩ | ⟨b, ext, h1, h2⟩
  · have hs : ∀ y, e t = .c y → (y = .nilS ∨ y = .zer sz) → Run G p (.code (.fz t c) :: k) e H := fun y hy hz =>
      run_fz0 hy hz (hw _ _ (by simp [upd]) fun s v hv _ hst => by simp [upd, hst, hv])
    rcases hv with hv | hv
    · exact hs _ hv (.inl rfl)
    · exact hs _ hv (.inr rfl)
  · refine run_fz ⟨b, _, by rw [h1]; rfl, h2, rfl, rfl, hw _ _ ?_ fun s v hv hc _ => ?_⟩
    · rw [frzEnv_at, h1, frzA_c, frz_slc (by simp)]
      simp
    · rw [frzEnv_at, hv, frz_closedA hc]

/-- A box is given up. -/
theorem run_fzp {G : Prog} {p : Post} {k : List Itm} {e : Env} {H : Heap} {t b i f : Nat} {q : Blk} {row : List Cell} {c : ACode} (h1 : e t = .c (.ptr b i f)) (h2 : H[b]? = some q) (ho : q.own = true) (hl : q.live = true) (hr : q.rows[i]? = some row)
    (hw : ∀ e' H', e' t = .c (.fp row f) → (∀ s v, e s = v → closedA v = true → s ≠ t → e' s = v) → Run G p (.code c :: k) e' H') : Run G p (.code (.fz t c) :: k) e H := by
  refine run_fz ⟨b, q, by rw [h1]; rfl, h2, ho, hl, hw _ _ ?_ fun s v hv hc _ => ?_⟩
  · rw [frzEnv_at, h1, frzA_c, frz_ptr hr]
  · rw [frzEnv_at, hv, frz_closedA hc]

/-! ### Slices of slices -/
section
variable {sz : Nat} {e : Env} {hi lo : Opd} {H : Heap} {ik : IntKind} {q n s b : Nat} {z : Bool} {rows : List (List Cell)}
theorem bound_nat {y : Nat} (h : q ≤ y) : bound (.c (.int ik (q : Int))) y = some q := by
  simp only [bound]
  rw [if_pos (by omega)]
  simp
theorem vSl_nil_hi (h : hi.ev e = .c (.int ik 0)) : vSl sz (.c .nilS) e none (some hi) none H = some (.c .nilS, H) := by
  simp [vSl, fitsSz, evSl, boundO, h, bound, vPure]
theorem vSl_slc_0 (h : hi.ev e = .c (.int ik 0)) : vSl sz (.c (.slc b s n sz z)) e none (some hi) none H = some (.c (.slc b s 0 sz z), H) := by
  simp [vSl, fitsSz, evSl, boundO, h, bound, vPure]
theorem vSl_slc_hi (h : hi.ev e = .c (.int ik (q : Int))) (hq : q ≤ n) : vSl sz (.c (.slc b s n sz z)) e none (some hi) none H = some (.c (.slc b s q sz z), H) := by
  simp [vSl, fitsSz, evSl, boundO, h, bound_nat hq, vPure]
theorem vSl_lst_hi (h : hi.ev e = .c (.int ik (q : Int))) (hq : q ≤ rows.length) : vSl sz (.c (.lst sz rows)) e none (some hi) none H = some (.c (.lst sz (rows.take q)), H) := by
  simp [vSl, fitsSz, evSl, boundO, h, bound_nat hq, vPure]
theorem vSl_lst_lo (h : lo.ev e = .c (.int ik (q : Int))) (hq : q ≤ rows.length) : vSl sz (.c (.lst sz rows)) e (some lo) none none H = some (.c (.lst sz (rows.drop q)), H) := by
  simp only [vSl, fitsSz, evSl, boundO, h, bound_nat hq, vPure, beq_self_eq_true, if_true]
  rw [List.take_of_length_le (by simp)]
end

def resBool (r : Option (AVal × Heap)) : Option Bool := match r with | some (.c (.bool b), _) => some b | _ => none

/-- A closed call that was run: it answers a bool. -/
theorem pure_bool {P : Program} {T : Nat → Option AFun} (hT : ∀ f a, T f = some a → cmpFun P f = some a.erase) (hm : P.follows .mixedOrders = true) (n : Nat) {f : Nat} {args : List AVal} {b : Bool} (ha : closedAs args = true) (h : resBool ((runN T n).1 f args []) = some b) : Pure P f args (.c (.bool b)) := by
  unfold resBool at h
  split at h
  · rename_i b' H' hr
    injection h with h; subst h
    exact pure_run hT hm n hr ha rfl
  · cases h

theorem vLen_emp {H : Heap} {sz : Nat} : vLen (.c (.emp sz)) H = some (.c (.int .i64 0), H) := rfl

theorem closed_bytesOf (s : ByteArray) : closedR ((bytesOf s).map fun c => [c]) = true := by
  unfold bytesOf
  rw [List.map_map]
  exact closedR_map (fun _ => rfl) _
theorem mkF_s2b {s : ByteArray} {H : Heap} (h : s.size ≤ 140737488355328) : mkF H (vS2b (.c (.str s)) H) = some (.c (.lst 1 ((bytesOf s).map fun c => [c]))) := by
  simp only [vS2b, h, if_true]
  have hl : ((bytesOf s).map fun c => [c]).length = s.size := by simp [bytesOf]
  rw [mkF_box rfl rfl, frzA_c, frz_slc (by simp [hl])]
  simp only [List.drop_zero, ← hl, List.take_length, closedA, closedC, closed_bytesOf, if_true]
theorem vSlA_fp {n sz f : Nat} {row : List Cell} {H : Heap} : vSlA n sz (.c (.fp row f)) H = if f + n * sz ≤ row.length ∧ n ≤ 1000000 then some (.c (.lst sz (chunksA n sz row f)), H) else none := rfl
theorem chunks_one (row : List Cell) : chunksA row.length 1 row 0 = row.map fun c => [c] := by
  apply List.ext_getElem?
  intro i
  unfold chunksA
  rw [List.getElem?_map, List.getElem?_map]
  by_cases h : i < row.length
  · rw [List.getElem?_eq_getElem (by simpa using h), List.getElem?_eq_getElem h]
    simp only [List.getElem_range, Option.map_some, Nat.zero_add, Nat.mul_one]
    rw [List.drop_eq_getElem_cons h]; rfl
  · rw [List.getElem?_eq_none (by simpa using h), List.getElem?_eq_none (by omega)]; rfl

attribute [go_sem] stepF_s2b step_slA step_loadF vLoadF_fp vLen_emp vNil evNil vCap Run_skip Run_seq Run_region Run_cond Run_block Run_blk Run_ret Run_exit Run_nil exitW_some condW_true' condW_false' popTo_code popTo_loop popTo_blk fin_eq resW_tmp resW_tmp2 resW_cell loadW_some gBool_undef WL_cons WL_nil goes_none goes_at gBool_true gBool_false guardW_true guardW_false thenW_some thenF_some updO_some updO_none upd_at opd_t opd_k opd_f AOp.isBad step_mv step_new step_bin step_binB step_un step_conv step_strId step_mkI step_ext step_lenS step_len step_cap step_fld step_chk step_pick2 step_fldV step_build step_eqS step_eqNil step_mkF step_max step_min step_load step_store step_box step_ix step_ixA step_ixV step_cpy step_clr step_app step_appZ step_appM step_make step_lit step_sl step_slS step_slA step_ixS step_b2s step_s2b step_call stepF_box stepF_lit stepF_appZ stepF_app stepF_new stepF_make vMM_two vMM2_max vMM2_min List.map_cons List.map_nil vBin_add vBin_sub vBin_mul vBin_quo vBin_rem vBin_eql vBin_neq vBin_lss vBin_leq vBin_gtr vBin_geq vBin_seql vBin_sneq vBin_slss vBin_sgtr vBinB_eq vBinB_ne vUn_not vUn_neg vConv_int vStrId_str vLenS_str vLen_nil vLen_slc vLen_lst vLen_zer vIx_nat vFld_ptr vFld_fp vChk_ptr vChk_fn vChk_fp vPick2_bool vFldV_one vFldV_agg vBuild_some vMkF_some vLoad_ptr vLoad_fp vLoadR_one vLoadR_all vLoadR_aggs vStore_ptr mkF_boxc mkF_boxa mkF_new mkF_lit0 mkF_lit1 mkF_lit2 mkF_lit3 mkF_lit4 evCaps_cons' evCaps_nil capsC_some pick_c ext_0 ext_1 Int.natCast_zero Int.lt_irrefl tt_beq tf_beq ft_beq ff_beq Bool.false_eq_true eq_self ite_true ite_false decide_eq_true_eq Bool.not_eq_true' decide_eq_false_iff_not true_and and_true Bool.not_true Bool.not_false decide_true decide_false initEnv_0 initEnv_1 initEnv_2 initEnv_3 initEnv_4 initEnv_5 initEnv_6 initEnv_7 closedA closedAs closedC closedCs closedR Bool.and_self Bool.and_true Bool.true_and List.getElem?_cons_zero List.getElem?_cons_succ List.length_cons List.length_nil Nat.zero_add List.take_succ_cons List.take_zero List.drop_succ_cons List.drop_zero Nat.le_refl AVal.cells row_last row_prev mine_last mine_prev put_last put_prev lt_snoc_self lt_snoc_of set_one get_one vStoreR List.nil_append List.append_nil List.cons_append fillA fillR List.replicate List.set_cons_zero List.set_cons_succ

end Go.Proofs.YtpjbjdicdjlmeaaDoor.Eng
