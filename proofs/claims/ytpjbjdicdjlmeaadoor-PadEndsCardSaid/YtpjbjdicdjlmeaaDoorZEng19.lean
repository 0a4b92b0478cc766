/- The engine, part 19: stepping, as equalities. No statement of the seat is proved here. -/
import Derived.Test.YtpjbjdicdjlmeaaDoorZEng18
namespace Go.Proofs.YtpjbjdicdjlmeaaDoor.Eng
open Go
set_option linter.unusedVariables false
set_option linter.unusedSimpArgs false

variable {G : Prog} {p : Post} {k : List Itm} {d : Bool} {e : Env} {H : Heap} {l : List AInstr} {dst : Option Nat}

theorem Run_skip : Run G p (.code .skip :: k) e H = Run G p k e H := by
  refine propext ⟨?_, run_skip⟩
  rintro ⟨x, e1, H1, h1, h2⟩
  cases h1; exact h2
theorem Run_seq {a b : ACode} : Run G p (.code (.seq a b) :: k) e H = Run G p (.code a :: .code b :: k) e H := by
  refine propext ⟨?_, run_seq⟩
  rintro ⟨x, e1, H1, h1, h2⟩
  cases h1 with
  | seq h3 h4 => exact ⟨_, _, _, h3, _, _, _, h4, h2⟩
  | seqOut hx h3 =>
    cases x with
    | normal => exact absurd rfl hx
    | exit id => exact ⟨_, _, _, h3, h2⟩
    | ret => exact ⟨_, _, _, h3, h2⟩
theorem Run_region : Run G p (.code (.region l d) :: k) e H = WL G p k d l e H := by
  refine propext ⟨?_, run_region⟩
  rintro ⟨x, e1, H1, h1, h2⟩
  cases h1 with
  | region h3 => exact ⟨_, _, h3, h2⟩
theorem Run_cond {c : Opd} {a b : ACode} : Run G p (.code (.cond c a b) :: k) e H = condW G p k (c.ev e) a b e H := by
  refine propext ⟨?_, run_cond⟩
  rintro ⟨x, e1, H1, h1, h2⟩
  cases h1 with
  | cond h3 h4 => exact ⟨_, h3, _, _, _, h4, h2⟩
theorem Run_block {id : Nat} {a : ACode} : Run G p (.code (.block id a) :: k) e H = Run G p (.code a :: .blk id :: k) e H := by
  refine propext ⟨?_, run_block⟩
  rintro ⟨x, e1, H1, h1, h2⟩
  cases h1 with
  | block h3 hx =>
    refine ⟨_, _, _, h3, ?_⟩
    cases x with
    | normal => simpa [After] using h2
    | ret => simpa [After] using h2
    | exit i =>
      simp only [After]
      rw [if_neg (by intro h; subst h; exact hx rfl)]
      exact h2
  | blockExit h3 => exact ⟨_, _, _, h3, by simpa [After] using h2⟩
theorem Run_blk {id : Nat} : Run G p (.blk id :: k) e H = Run G p k e H := by simp [Run, After]
theorem Run_ret : Run G p (.code .ret :: k) e H = p.fin e H := by
  refine propext ⟨?_, run_ret⟩
  rintro ⟨x, e1, H1, h1, h2⟩
  cases h1
  rw [After_ret] at h2; exact h2
def exitW (G : Prog) (p : Post) (k : Option (List Itm)) (e : Env) (H : Heap) : Prop := match k with | some k => Run G p k e H | none => False
theorem exitW_some : exitW G p (some k) e H = Run G p k e H := rfl
theorem After_exit_eq {id : Nat} : ∀ {k : List Itm}, After G p k (.exit id) e H = exitW G p (popTo id k) e H
  | [] => by simp [After, popTo, exitW]
  | .code _ :: k => by simp only [After, popTo]; exact After_exit_eq
  | .loop _ :: k => by simp only [After, popTo]; exact After_exit_eq
  | .blk i :: k => by
    simp only [After, popTo]
    by_cases h : id = i
    · simp [h, exitW, Run]
    · rw [if_neg h, if_neg h]; exact After_exit_eq
theorem Run_exit {id : Nat} : Run G p (.code (.exit id) :: k) e H = exitW G p (popTo id k) e H := by
  refine propext ⟨?_, fun h => ⟨_, _, _, .exit, by rw [After_exit_eq]; exact h⟩⟩
  rintro ⟨x, e1, H1, h1, h2⟩
  cases h1
  rw [After_exit_eq] at h2; exact h2
theorem condW_if {t : Bool} {a b : ACode} : condW G p k (.c (.bool t)) a b e H = if t = true then Run G p (.code a :: k) e H else Run G p (.code b :: k) e H := by
  rw [condW_bool]; cases t <;> simp
theorem condW_true' {a b : ACode} : condW G p k (.c (.bool true)) a b e H = Run G p (.code a :: k) e H := by rw [condW_bool]; simp
theorem condW_false' {a b : ACode} : condW G p k (.c (.bool false)) a b e H = Run G p (.code b :: k) e H := by rw [condW_bool]; simp
theorem guardW_split {q : Prop} [Decidable q] {o : AOp} {fz : Bool} (h1 : q → stepW G p k d fz o dst l e H) (h2 : ¬q → o.isBad = false ∧ WL G p k d l (updO e dst undefA) H) : guardW G p k d (decide q) fz o dst l e H := by
  by_cases hq : q
  · simp only [hq, decide_true]; exact .inl ⟨rfl, h1 hq⟩
  · simp only [hq, decide_false]; exact .inr ⟨rfl, h2 hq⟩
theorem guardW_bool {b : Bool} {o : AOp} {fz : Bool} (h1 : b = true → stepW G p k d fz o dst l e H) (h2 : b = false → o.isBad = false ∧ WL G p k d l (updO e dst undefA) H) : guardW G p k d b fz o dst l e H := by
  cases b
  · exact .inr ⟨rfl, h2 rfl⟩
  · exact .inl ⟨rfl, h1 rfl⟩
theorem guardW_if {g : Bool} {o : AOp} {fz : Bool} : guardW G p k d g fz o dst l e H = if g = true then stepW G p k d fz o dst l e H else (o.isBad = false ∧ WL G p k d l (updO e dst undefA) H) := by
  cases g <;> simp [guardW]
theorem popTo_code {id : Nat} {c : ACode} : popTo id (.code c :: k) = popTo id k := rfl
theorem popTo_loop {id : Nat} {c : ACode} : popTo id (.loop c :: k) = popTo id k := rfl
theorem popTo_blk {id i : Nat} : popTo id (.blk i :: k) = if id = i then some k else popTo id k := rfl

theorem callW_fn {f : Nat} {args : List AVal} (h : WCall G f args H (fun v H1 => (d = true → H <+: H1) ∧ WL G p k d l (updO e dst v) H1)) : callW G p k d (.c (.fn f [])) args dst l e H :=
  callW_of (by simpa using h)

/-! ### The end -/
def resW (e : Env) (H : Heap) (rs : List ARes) (R : AVal → Heap → Prop) : Prop := ∃ v, evRes e H rs = some v ∧ R v H
theorem fin_eq {rs : List ARes} {R : AVal → Heap → Prop} : Post.fin ⟨rs, R⟩ e H = resW e H rs R := rfl
theorem resW_tmp {t : Nat} {R : AVal → Heap → Prop} : resW e H [.tmp t] R = R (e t) H := by
  simp [resW, evRes, evRes1]
theorem resW_tmp2 {t u : Nat} {R : AVal → Heap → Prop} : resW e H [.tmp t, .tmp u] R = R (.tup [e t, e u]) H := by
  simp [resW, evRes, evRes1]
def loadW (r : VR0) (R : AVal → Heap → Prop) (H : Heap) : Prop := ∃ v H', r = some (v, H') ∧ R v H
theorem resW_cell {a n : Nat} {agg : Bool} {R : AVal → Heap → Prop} : resW e H [.cell a agg n] R = loadW (vLoad agg n (e a) H) R H := by
  have : evRes e H [.cell a agg n] = (vLoad agg n (e a) H).map (·.1) := by
    simp only [evRes, evRes1]
    have h : ev (.load agg n (.t a)) e H = vLoad agg n (e a) H := rfl
    rw [h]
    cases vLoad agg n (e a) H with
    | none => rfl
    | some x => rfl
  simp only [resW, loadW, this]
  refine propext ⟨?_, ?_⟩
  · rintro ⟨v, h1, h2⟩
    cases hx : vLoad agg n (e a) H with
    | none => rw [hx] at h1; simp at h1
    | some x => rw [hx] at h1; simp at h1; exact ⟨v, x.2, by rw [← h1], h2⟩
  · rintro ⟨v, H', h1, h2⟩
    exact ⟨v, by rw [h1]; rfl, h2⟩
theorem loadW_some {v : AVal} {H' : Heap} {R : AVal → Heap → Prop} : loadW (some (v, H')) R H = R v H := by
  refine propext ⟨?_, fun h => ⟨_, _, rfl, h⟩⟩
  rintro ⟨v', H2, h1, h2⟩
  injection h1 with h1; injection h1 with h1 _; subst h1; exact h2

/-! ### What is frozen -/
section
variable {n sz b i f : Nat} {rows : List (List Cell)} {row : List Cell} {z : Bool} {agg : Bool} {c : Cell} {cs : List Cell} {j : Int} {ik : IntKind} {x : AVal}
theorem mkF_box {k : Blk} (hk : k.own = true) (hl : k.live = true) : mkF H (some (x, H ++ [k])) = if closedA (x.frz H.length k) = true then some (x.frz H.length k) else none := by
  simp only [mkF, List.drop_left, frzE, hk, hl, Bool.true_and]
theorem mkF_same : mkF H (some (.c c, H)) = (weakC c).map .c := by
  simp only [mkF, List.drop_length, frzE]
theorem mkF_none : mkF H none = none := rfl
theorem weak_zer : weakC (.zer sz) = some (.lst sz []) := rfl
theorem weak_slc : weakC (.slc b i 0 sz z) = some (.lst sz []) := rfl
theorem mapc_some : (some c : Option Cell).map AVal.c = some (.c c) := rfl
theorem frzA_c {k : Blk} : AVal.frz b k (.c c) = .c (c.frz b k) := by simp [AVal.frz]
theorem frz_slc {k : Blk} {s : Nat} (h : s + n ≤ k.rows.length) : Cell.frz b k (.slc b s n sz false) = .lst sz ((k.rows.drop s).take n) := by simp [Cell.frz, h]
theorem frz_slcZ {k : Blk} {s : Nat} (h : s + n ≤ k.rows.length) : Cell.frz b k (.slc b s n sz true) = .zer sz := by simp [Cell.frz, h]
theorem frz_ptr {k : Blk} (h : k.rows[i]? = some row) : Cell.frz b k (.ptr b i f) = .fp row f := by simp [Cell.frz, h]
theorem mkF_lit (hl : rows.length = n) (hc : closedR rows = true) (hn : n ≠ 0) : mkF H (vLit sz n (some rows) H) = some (.c (.lst sz rows)) := by
  simp only [vLit]
  rw [mkF_box rfl rfl, frzA_c, show (n == 0) = false by simpa using hn, frz_slc (by simp [hl])]
  simp [closedA, closedC, ← hl, hc]
theorem mkF_lit0 : mkF H (vLit sz 0 (some rows) H) = some (.c (.zer sz)) := by
  simp only [vLit, beq_self_eq_true]
  rw [mkF_box rfl rfl, frzA_c, frz_slcZ (by simp)]
  simp [closedA, closedC]
theorem mkF_boxc (hc : closedC c = true) : mkF H (vBox (.c c) H) = some (.c (.fp [c] 0)) := by
  simp only [vBox]
  rw [mkF_box rfl rfl, frzA_c, frz_ptr (row := [c]) rfl]
  simp [closedA, closedC, closedCs, hc]
theorem mkF_boxa (hc : closedCs cs = true) : mkF H (vBox (.agg cs) H) = some (.c (.fp cs 0)) := by
  simp only [vBox]
  rw [mkF_box rfl rfl, frzA_c, frz_ptr (row := cs) rfl]
  simp [closedA, closedC, hc]
theorem mkF_new (hc : closedCs cs = true) : mkF H (some (.c (.ptr H.length 0 0), H ++ [{ sz := cs.length, rows := [cs] }])) = some (.c (.fp cs 0)) := by
  rw [mkF_box rfl rfl, frzA_c, frz_ptr (row := cs) rfl]
  simp [closedA, closedC, hc]

/-- An append onto what has no room, of a slice whose rows are known. -/
theorem mkF_appZ {bytes : Nat} {y : Cell} (hr : H.rowsOf y = some rows) (hf : fitsSz sz y = true) (hc : closedR rows = true) (hb : rows.length * bytes ≤ 140737488355328) : mkF H (vAppZ sz bytes (.c (.zer sz)) (.c y) H) = some (.c (.lst sz rows)) := by
  simp only [vAppZ, evApp, hr, hf, if_true]
  by_cases h0 : rows.length = 0
  · rw [if_pos h0, mkF_same, weak_zer]
    have : rows = [] := List.eq_nil_of_length_eq_zero h0
    subst this; rfl
  · rw [if_neg h0, if_pos hb, mkF_box rfl rfl, frzA_c, frz_slc (by simp)]
    simp [closedA, closedC, hc]
theorem mkF_appN {bytes : Nat} {y : Cell} (hr : H.rowsOf y = some rows) (hf : fitsSz sz y = true) (hc : closedR rows = true) (hb : rows.length * bytes ≤ 140737488355328) (h0 : rows ≠ []) : mkF H (vAppZ sz bytes (.c .nilS) (.c y) H) = some (.c (.lst sz rows)) := by
  simp only [vAppZ, evApp, hr, hf, if_true]
  have h0 : rows.length ≠ 0 := fun h => h0 (List.eq_nil_of_length_eq_zero h)
  rw [if_neg h0, if_pos hb, mkF_box rfl rfl, frzA_c, frz_slc (by simp)]
  simp [closedA, closedC, hc]

theorem vLen_lst : vLen (.c (.lst sz rows)) H = some (.c (.int .i64 rows.length), H) := rfl
theorem vLen_zer : vLen (.c (.zer sz)) H = some (.c (.int .i64 0), H) := rfl
theorem vFld_fp {off : Nat} : vFld off (.c (.fp row f)) H = some (.c (.fp row (f + off)), H) := rfl
theorem vChk_fp : vChk (.c (.fp row f)) H = some (.c (.fp row f), H) := rfl
theorem vLoad_fp : vLoad agg n (.c (.fp row f)) H = vLoadR agg n f (some row) H := rfl
theorem vIx_lst {q : Nat} (h : j = q) : vIx sz (.c (.lst sz rows)) (.c (.int ik j)) H = match rows[q]? with | some r => some (.c (.fp r 0), H) | none => none := by
  subst h
  simp [vIx]
  all_goals (cases rows[q]? <;> rfl)
theorem frzEnv_at {k : Blk} {t : Nat} : frzEnv b k e t = (e t).frz b k := rfl
end

end Go.Proofs.YtpjbjdicdjlmeaaDoor.Eng
