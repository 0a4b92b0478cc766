/- Contracts of the laws' own groups of states by numbers. No statement of the seat is proved here. -/
import Derived.Test.YtnccbccnjjachaaGreatDoorZPartE
import Derived.Test.YtnccbccnjjachaaGreatDoorZMakeR
import Derived.Test.YtnccbccnjjachaaGreatDoorZPartH
namespace Go.Proofs.YtnccbccnjjachaaGreatDoor.Eng
open Go
set_option linter.unusedVariables false
set_option linter.unusedSimpArgs false

/-! ### Rows in which what is empty may be nil -/
theorem All2.getR {α β : Type} {R : α → β → Prop} : ∀ {l : List α} {r : List β}, All2 R l r → ∀ {i : Nat} {b : β}, r[i]? = some b → ∃ a, l[i]? = some a ∧ R a b
  | _, _, .nil, i, b, h => by simp at h
  | _, _, .cons h t, 0, b, e => by simp at e; subst e; exact ⟨_, rfl, h⟩
  | _, _, .cons h t, i + 1, b, e => by simp at e; obtain ⟨a, h1, h2⟩ := All2.getR t e; exact ⟨a, by simpa using h1, h2⟩
theorem All2.len {α β : Type} {R : α → β → Prop} : ∀ {l : List α} {r : List β}, All2 R l r → l.length = r.length
  | _, _, .nil => rfl
  | _, _, .cons _ t => by simp [All2.len t]
theorem VR.wk_rows {m : LMap} {σ : Mem} {sz : Nat} {rows rows' : List (List Cell)} {v : Value} (h : VR m σ (.lst sz rows) v) (k : All2 (All2 WkC) rows rows') : VR m σ (.lst sz rows') v := by
  have hl := k.len
  cases h with
  | lstN => have : rows' = [] := List.eq_nil_of_length_eq_zero (by simpa using hl.symm); subst this; exact .lstN
  | @lst _ A c g o _ vs h1 h2 h3 h4 h5 h6 =>
    rw [hl] at h1 ⊢
    refine .lst (vs := vs) h1 h2 (fun hne => h3 (fun e => hne (by subst e; exact List.eq_nil_of_length_eq_zero (by simpa using hl.symm)))) (fun i r hr => ?_) (fun i r f x hr hx => ?_) (fun i r f x hr hx => ?_)
    · obtain ⟨a, ha, hk⟩ := k.getR hr
      rw [← hk.len]; exact h4 i a ha
    · obtain ⟨a, ha, hk⟩ := k.getR hr
      obtain ⟨y, hy, _⟩ := hk.getR hx
      exact h5 i a f y ha hy
    · obtain ⟨a, ha, hk⟩ := k.getR hr
      obtain ⟨y, hy, hw⟩ := hk.getR hx
      exact (h6 i a f y ha hy).wk hw
theorem Pure.wkr_rows {P : Program} {f sz : Nat} {args : List AVal} {rows rows' : List (List Cell)} (h : Pure P f args (.c (.lst sz rows))) (k : All2 (All2 WkC) rows rows') : Pure P f args (.c (.lst sz rows')) := fun H =>
  ⟨(h H).there, fun B m w vs r ha => ((h H).calls B m w vs r ha).mono (by
    rintro e w' ⟨u, m', h1, h2, h3⟩
    refine ⟨u, m', h1, h2, ?_⟩
    cases h3 with | c h3 => exact .c (h3.wk_rows k))⟩
/-- A contract of which the answer's cells are not told exactly. -/
theorem pure_ex (hm : Tryz.prog.follows .mixedOrders = true) {f : Nat} {a : AFun} (hf : cmpFun Tryz.prog f = some a.erase) {args : List AVal} (ha : closedAs args = true) {R : AVal → Prop}
    (h : ∀ T, Run (progT Tryz.prog T) ⟨a.res, fun u E => ∃ v, viewA E u = some v ∧ R v⟩ [.code a.body] (initEnv args) []) : ∃ v, Pr f args v ∧ R v := by
  obtain ⟨u, E, h1, v, h2, h3⟩ := wcall_of (G := P1 Tryz.prog f a) (f := f) (by simp [P1, progT, one]) (h _)
  exact ⟨v, fun H => (sound1 (one_ok hf) hm h1).pure ha h2 H, h3⟩

/-- Rows that tell states. -/
def RowsOf (rows : List (List Cell)) (l : List State) : Prop := All2 (fun r s => ∃ c d, r = [c, d] ∧ SC c d s) rows l
theorem RowsOf.wk {rows : List (List Cell)} {l : List State} (h : RowsOf rows l) : All2 (All2 WkC) rows (l.map State.cells) := by
  induction h with
  | nil => exact .nil
  | cons h _ ih =>
    obtain ⟨c, d, rfl, hs⟩ := h
    refine .cons ?_ ih
    have := hs.wk
    cases this with
    | same => exact .cons (.same _) (.cons (.same _) .nil)
    | agg h => exact h
theorem RowsOf.get {rows : List (List Cell)} {l : List State} (h : RowsOf rows l) {i : Nat} {s : State} (hs : l[i]? = some s) : ∃ c d, rows[i]? = some [c, d] ∧ SC c d s := by
  obtain ⟨a, h1, c, d, rfl, h2⟩ := All2.getR h hs
  exact ⟨c, d, h1, h2⟩
theorem RowsOf.set {rows : List (List Cell)} {l : List State} (h : RowsOf rows l) (i : Nat) (s : State) : RowsOf (rows.set i [runsC s.seen, factsC s.facts]) (l.set i s) := by
  induction h generalizing i with
  | nil => exact .nil
  | cons h t ih =>
    cases i with
    | zero => exact .cons ⟨_, _, rfl, .same s⟩ t
    | succ i => exact .cons h (ih i)
theorem RowsOf.len {rows : List (List Cell)} {l : List State} (h : RowsOf rows l) : rows.length = l.length := All2.len h
theorem RowsOf.closed {rows : List (List Cell)} {l : List State} (h : RowsOf rows l) : closedR rows = true := by
  induction h with
  | nil => rfl
  | cons h _ ih =>
    obtain ⟨c, d, rfl, hs⟩ := h
    have h1 : closedC c = true := by rcases hs.h1 with h | ⟨h, _⟩ <;> rw [h]; exact closed_runsC _; rfl
    have h2 : closedC d = true := by rcases hs.h2 with h | ⟨h, _⟩ <;> rw [h]; exact closed_factsC _; rfl
    simp [closedR, closedCs, h1, h2, ih]

theorem row_c0 {H : Heap} {sz q : Nat} {rows : List (List Cell)} {o : Bool} : Heap.row ({ sz := sz, rows := rows, own := o, live := true } :: H) 0 q = rows[q]? := rfl
theorem mine_c0 {H : Heap} {sz : Nat} {rows : List (List Cell)} : Heap.mine ({ sz := sz, rows := rows, own := true, live := true } :: H) 0 = true := rfl
theorem put_c0 {H : Heap} {sz q : Nat} {rows : List (List Cell)} {o l : Bool} {r : List Cell} : Heap.put ({ sz := sz, rows := rows, own := o, live := l } :: H) 0 q r = { sz := sz, rows := rows.set q r, own := o, live := l } :: H := rfl

theorem l9_Apart_run (ns : List Nat) (hb : ∀ n ∈ ns, n < 256) (T : Nat → Option AFun) (R : AVal → Heap → Prop) (hR : ∀ rows H, RowsOf rows (apartS ns) → R (.c (.slc 0 0 4 2 false)) ({ sz := 2, rows := rows } :: H)) :
    Run (progT Tryz.prog T) ⟨c_l9_Apart.res, R⟩ [.code c_l9_Apart.body] (initEnv [.c (bytesC ns)]) [] := by
    unfold c_l9_Apart
    dsimp only [bytesC]
    generalize hv : apartS ns = v at *
    have loop : ∀ (k : Nat) (rest pre : List Nat) (l : List State) (rows : List (List Cell)) (e : Env) (H : Heap), ns = pre ++ rest → k ≤ 40 → pre.length = 3 * (40 - k) → e 0 = .c (.lst 1 (ns.map byteC)) → e 3 = .c (.slc 0 0 4 2 false) → e 4 = iC pre.length →
        Group (40 - k) l → RowsOf rows l → apartFrom k l rest = v →
        Run (progT Tryz.prog T) ⟨[.tmp 2], R⟩ [.loop l9_Apart_L0, .blk 0, .code l9_Apart_K1] e ({ sz := 2, rows := rows } :: H) := by
      intro k
      have fin : ∀ (l : List State) (rows : List (List Cell)) (e : Env) (H : Heap), e 3 = .c (.slc 0 0 4 2 false) → l.length = 4 → RowsOf rows l → l = v →
          Run (progT Tryz.prog T) ⟨[.tmp 2], R⟩ [.code l9_Apart_K1] e ({ sz := 2, rows := rows } :: H) := by
        intro l rows e H h3 hl hr hm
        subst hm
        have hlr : rows.length = 4 := by rw [hr.len, hl]
        unfold l9_Apart_K1
        simp only [go_sem, reduceCtorEq, Nat.reduceEqDiff, Nat.reduceAdd, Nat.reduceSub, Nat.reduceMul, Nat.reduceLeDiff, Int.reduceEq, Int.reduceLT, Int.reduceLE, Int.reduceAdd, Int.reduceMul, Int.reduceSub, Int.reduceNeg, Int.reduceToNat, reduceIte, Nat.reduceLT, h3]
        exact hR rows H hr
      induction k with
      | zero =>
        intro rest pre l rows e H hp hk hpl h0 h3 h4 hg hr hm
        have hd : ¬ ((pre.length : Int) < 120) := by omega
        have w1 : IntKind.wrap .i64 ((pre.length : Int) + 2) = (pre.length : Int) + 2 := wrap64 (by omega)
        simp only [apartFrom] at hm
        refine run_again ?_
        conv => enter [3, 1]; unfold l9_Apart_L0
        by_cases hc : ((pre.length : Int) + 2 < ((ns.map byteC).length : Int))
        all_goals
          simp only [go_sem, reduceCtorEq, Nat.reduceEqDiff, Nat.reduceAdd, Nat.reduceSub, Nat.reduceMul, Nat.reduceLeDiff, Int.reduceEq, Int.reduceLT, Int.reduceLE, Int.reduceAdd, Int.reduceMul, Int.reduceSub, Int.reduceNeg, Int.reduceToNat, reduceIte, Nat.reduceLT, h0, h3, h4, hc, hd, w1]
          exact fin l rows _ H (by simp only [go_sem, reduceCtorEq, Nat.reduceEqDiff, Nat.reduceAdd, Nat.reduceSub, Nat.reduceMul, Nat.reduceLeDiff, Int.reduceEq, Int.reduceLT, Int.reduceLE, Int.reduceAdd, Int.reduceMul, Int.reduceSub, Int.reduceNeg, Int.reduceToNat, reduceIte, Nat.reduceLT, h3]) hg.len hr hm
      | succ k ih =>
        intro rest pre l rows e H hp hk hpl h0 h3 h4 hg hr hm
        have w1 : IntKind.wrap .i64 ((pre.length : Int) + 2) = (pre.length : Int) + 2 := wrap64 (by omega)
        have w9 : IntKind.wrap .i64 ((pre.length : Int) + 1) = (pre.length : Int) + 1 := wrap64 (by omega)
        have hd : ((pre.length : Int) < 120) := by omega
        refine run_again ?_
        conv => enter [3, 1]; unfold l9_Apart_L0
        match rest, hp, hm with
        | [], hp, hm =>
          have hc : ¬ ((pre.length : Int) + 2 < ((ns.map byteC).length : Int)) := by rw [hp]; simp <;> omega
          simp only [apartFrom] at hm
          simp only [go_sem, reduceCtorEq, Nat.reduceEqDiff, Nat.reduceAdd, Nat.reduceSub, Nat.reduceMul, Nat.reduceLeDiff, Int.reduceEq, Int.reduceLT, Int.reduceLE, Int.reduceAdd, Int.reduceMul, Int.reduceSub, Int.reduceNeg, Int.reduceToNat, reduceIte, Nat.reduceLT, h0, h3, h4, hc, hd, w1]
          exact fin l rows _ H (by simp only [go_sem, reduceCtorEq, Nat.reduceEqDiff, Nat.reduceAdd, Nat.reduceSub, Nat.reduceMul, Nat.reduceLeDiff, Int.reduceEq, Int.reduceLT, Int.reduceLE, Int.reduceAdd, Int.reduceMul, Int.reduceSub, Int.reduceNeg, Int.reduceToNat, reduceIte, Nat.reduceLT, h3]) hg.len hr hm
        | [x], hp, hm =>
          have hc : ¬ ((pre.length : Int) + 2 < ((ns.map byteC).length : Int)) := by rw [hp]; simp <;> omega
          simp only [apartFrom] at hm
          simp only [go_sem, reduceCtorEq, Nat.reduceEqDiff, Nat.reduceAdd, Nat.reduceSub, Nat.reduceMul, Nat.reduceLeDiff, Int.reduceEq, Int.reduceLT, Int.reduceLE, Int.reduceAdd, Int.reduceMul, Int.reduceSub, Int.reduceNeg, Int.reduceToNat, reduceIte, Nat.reduceLT, h0, h3, h4, hc, hd, w1]
          exact fin l rows _ H (by simp only [go_sem, reduceCtorEq, Nat.reduceEqDiff, Nat.reduceAdd, Nat.reduceSub, Nat.reduceMul, Nat.reduceLeDiff, Int.reduceEq, Int.reduceLT, Int.reduceLE, Int.reduceAdd, Int.reduceMul, Int.reduceSub, Int.reduceNeg, Int.reduceToNat, reduceIte, Nat.reduceLT, h3]) hg.len hr hm
        | [x, y], hp, hm =>
          have hc : ¬ ((pre.length : Int) + 2 < ((ns.map byteC).length : Int)) := by rw [hp]; simp
          simp only [apartFrom] at hm
          simp only [go_sem, reduceCtorEq, Nat.reduceEqDiff, Nat.reduceAdd, Nat.reduceSub, Nat.reduceMul, Nat.reduceLeDiff, Int.reduceEq, Int.reduceLT, Int.reduceLE, Int.reduceAdd, Int.reduceMul, Int.reduceSub, Int.reduceNeg, Int.reduceToNat, reduceIte, Nat.reduceLT, h0, h3, h4, hc, hd, w1]
          exact fin l rows _ H (by simp only [go_sem, reduceCtorEq, Nat.reduceEqDiff, Nat.reduceAdd, Nat.reduceSub, Nat.reduceMul, Nat.reduceLeDiff, Int.reduceEq, Int.reduceLT, Int.reduceLE, Int.reduceAdd, Int.reduceMul, Int.reduceSub, Int.reduceNeg, Int.reduceToNat, reduceIte, Nat.reduceLT, h3]) hg.len hr hm
        | x :: y :: z :: rest, hp, hm =>
          have hc : ((pre.length : Int) + 2 < ((ns.map byteC).length : Int)) := by rw [hp]; simp <;> omega
          have hx : x < 256 := hb x (by rw [hp]; simp)
          have hy : y < 256 := hb y (by rw [hp]; simp)
          have hz : z < 256 := hb z (by rw [hp]; simp)
          have g1 := map_at' (f := byteC) hp
          have g2 := map_at' (f := byteC) (show ns = (pre ++ [x]) ++ y :: (z :: rest) by rw [hp]; simp)
          have g3 := map_at' (f := byteC) (show ns = (pre ++ [x, y]) ++ z :: rest by rw [hp]; simp)
          have e1 : (pre.length : Int) + 1 = ((pre ++ [x]).length : Int) := by simp
          have e2 : (pre.length : Int) + 2 = ((pre ++ [x, y]).length : Int) := by simp
          have w3 : IntKind.wrap .i64 ((pre.length : Int) + 3) = ((pre ++ [x, y, z]).length : Int) := by rw [wrap64 (by omega)]; simp
          have wx : IntKind.wrap .i64 (x : Int) = (x : Int) := wrap64 (by omega)
          have wy : IntKind.wrap .i64 (y : Int) = (y : Int) := wrap64 (by omega)
          have rx : (x : Int).tmod 4 = ((x % 4 : Nat) : Int) := by rw [Int.tmod_eq_emod_of_nonneg (by omega)]; omega
          have ry : (y : Int).tmod 4 = ((y % 4 : Nat) : Int) := by rw [Int.tmod_eq_emod_of_nonneg (by omega)]; omega
          have mx : x % 4 < 4 := Nat.mod_lt _ (by omega)
          have my : y % 4 < 4 := Nat.mod_lt _ (by omega)
          have sx := getD_some hg.len (x % 4) mx
          have sy := getD_some hg.len (y % 4) my
          have hgs := hg.step (by omega) x y z
          have hm' : apartFrom k (apartStep l x y z) rest = v := hm
          have hst : apartStep l x y z = (if 160 ≤ x then l.set (x % 4) (joinL ((l[x % 4]?).getD ⟨[], []⟩) ((l[y % 4]?).getD ⟨[], []⟩))
            else if (doL ((l[x % 4]?).getD ⟨[], []⟩) ((x % 4 : Nat) : Int) (opOf y z)).2 = 0 then l.set (x % 4) (joinL ((l[x % 4]?).getD ⟨[], []⟩) (doL ((l[x % 4]?).getD ⟨[], []⟩) ((x % 4 : Nat) : Int) (opOf y z)).1) else l) := rfl
          rw [hst] at hgs hm'
          generalize (l[x % 4]?).getD ⟨[], []⟩ = s at *
          generalize (l[y % 4]?).getD ⟨[], []⟩ = t at *
          have hs : s ∈ l := List.mem_of_getElem? sx
          have ht : t ∈ l := List.mem_of_getElem? sy
          obtain ⟨z1, z2⟩ := hg.sizes (by omega) (by omega) hs
          obtain ⟨z3, z4⟩ := hg.sizes (by omega) (by omega) ht
          obtain ⟨c, d, rrx, scx⟩ := hr.get sx
          obtain ⟨c', d', rry, scy⟩ := hr.get sy
          have hlr : rows.length = 4 := by rw [hr.len, hg.len]
          have ixx : ∀ H, vIx 2 (.c (.slc 0 0 4 2 false)) (iC ((x % 4 : Nat) : Int)) H = some (.c (.ptr 0 (x % 4) 0), H) := fun H => vIx_slc mx
          have ixy : ∀ H, vIx 2 (.c (.slc 0 0 4 2 false)) (iC ((y % 4 : Nat) : Int)) H = some (.c (.ptr 0 (y % 4) 0), H) := fun H => vIx_slc my
          by_cases h160 : 160 ≤ x
          · have i160 : (160 : Int) ≤ (x : Int) := by omega
            rw [if_pos h160] at hgs hm'
            simp only [go_sem, reduceCtorEq, Nat.reduceEqDiff, Nat.reduceAdd, Nat.reduceSub, Nat.reduceMul, Nat.reduceLeDiff, Int.reduceEq, Int.reduceLT, Int.reduceLE, Int.reduceAdd, Int.reduceMul, Int.reduceSub, Int.reduceNeg, Int.reduceToNat, reduceIte, Nat.reduceLT, h0, h3, h4, hc, hd, w1, w9, g1, wx, vBin_rem, rx, i160, ixx, row_c0, rrx]
            rw [e1]
            simp only [go_sem, reduceCtorEq, Nat.reduceEqDiff, Nat.reduceAdd, Nat.reduceSub, Nat.reduceMul, Nat.reduceLeDiff, Int.reduceEq, Int.reduceLT, Int.reduceLE, Int.reduceAdd, Int.reduceMul, Int.reduceSub, Int.reduceNeg, Int.reduceToNat, reduceIte, Nat.reduceLT, h0, g2, wy, vBin_rem, ry, ixy, row_c0, rry]
            refine callW_pure ((r7_Join_ok s t (hg.good hs) (hg.good ht) (by omega) (by omega)).wk (.cons scx.wk (.cons scy.wk .nil))) ?_
            simp only [go_sem, reduceCtorEq, Nat.reduceEqDiff, Nat.reduceAdd, Nat.reduceSub, Nat.reduceMul, Nat.reduceLeDiff, Int.reduceEq, Int.reduceLT, Int.reduceLE, Int.reduceAdd, Int.reduceMul, Int.reduceSub, Int.reduceNeg, Int.reduceToNat, reduceIte, Nat.reduceLT, h3, h4, ixx, row_c0, mine_c0, put_c0, rrx, w3]
            refine ih rest (pre ++ [x, y, z]) _ _ _ _ (by rw [hp]; simp) (by omega) (by simp; omega) ?_ ?_ ?_ (hgs.mono (by omega)) (hr.set (x % 4) (joinL s t)) hm'
            all_goals simp only [go_sem, reduceCtorEq, Nat.reduceEqDiff, Nat.reduceAdd, Nat.reduceSub, Nat.reduceMul, Nat.reduceLeDiff, Int.reduceEq, Int.reduceLT, Int.reduceLE, Int.reduceAdd, Int.reduceMul, Int.reduceSub, Int.reduceNeg, Int.reduceToNat, reduceIte, Nat.reduceLT, h0, h3, w3]
          · have i160 : ¬ (160 : Int) ≤ (x : Int) := by omega
            rw [if_neg h160] at hgs hm'
            simp only [go_sem, reduceCtorEq, Nat.reduceEqDiff, Nat.reduceAdd, Nat.reduceSub, Nat.reduceMul, Nat.reduceLeDiff, Int.reduceEq, Int.reduceLT, Int.reduceLE, Int.reduceAdd, Int.reduceMul, Int.reduceSub, Int.reduceNeg, Int.reduceToNat, reduceIte, Nat.reduceLT, h0, h3, h4, hc, hd, w1, w9, g1, wx, vBin_rem, rx, i160, ixx, row_c0, rrx]
            rw [e1]
            simp only [go_sem, reduceCtorEq, Nat.reduceEqDiff, Nat.reduceAdd, Nat.reduceSub, Nat.reduceMul, Nat.reduceLeDiff, Int.reduceEq, Int.reduceLT, Int.reduceLE, Int.reduceAdd, Int.reduceMul, Int.reduceSub, Int.reduceNeg, Int.reduceToNat, reduceIte, Nat.reduceLT, h0, h3, h4, g2, w1]
            rw [e2]
            simp only [go_sem, reduceCtorEq, Nat.reduceEqDiff, Nat.reduceAdd, Nat.reduceSub, Nat.reduceMul, Nat.reduceLeDiff, Int.reduceEq, Int.reduceLT, Int.reduceLE, Int.reduceAdd, Int.reduceMul, Int.reduceSub, Int.reduceNeg, Int.reduceToNat, reduceIte, Nat.reduceLT, h0, g3]
            refine callW_pure (l8_Op_ok y z hy hz) ?_
            simp only [go_sem, reduceCtorEq, Nat.reduceEqDiff, Nat.reduceAdd, Nat.reduceSub, Nat.reduceMul, Nat.reduceLeDiff, Int.reduceEq, Int.reduceLT, Int.reduceLE, Int.reduceAdd, Int.reduceMul, Int.reduceSub, Int.reduceNeg, Int.reduceToNat, reduceIte, Nat.reduceLT]
            refine callW_pure ((r7_Do_ok s ((x % 4 : Nat) : Int) (opOf y z) (hg.good hs) (by omega) (by omega)).wk (.cons scx.wk (.cons (.same _) (.cons (.same _) .nil)))) ?_
            obtain ⟨d1, d2, d3⟩ := doL_good (hg.good hs) (dev := ((x % 4 : Nat) : Int)) (o := opOf y z)
            by_cases hz0 : (doL s ((x % 4 : Nat) : Int) (opOf y z)).2 = 0
            · rw [if_pos hz0] at hgs hm'
              simp only [go_sem, reduceCtorEq, Nat.reduceEqDiff, Nat.reduceAdd, Nat.reduceSub, Nat.reduceMul, Nat.reduceLeDiff, Int.reduceEq, Int.reduceLT, Int.reduceLE, Int.reduceAdd, Int.reduceMul, Int.reduceSub, Int.reduceNeg, Int.reduceToNat, reduceIte, Nat.reduceLT, doneC, h3, h4, hz0, ixx, row_c0, rrx]
              refine callW_pure ((r7_Join_ok s (doL s ((x % 4 : Nat) : Int) (opOf y z)).1 (hg.good hs) d1 (by omega) (by omega)).wk (.cons scx.wk (.cons (.same _) .nil))) ?_
              simp only [go_sem, reduceCtorEq, Nat.reduceEqDiff, Nat.reduceAdd, Nat.reduceSub, Nat.reduceMul, Nat.reduceLeDiff, Int.reduceEq, Int.reduceLT, Int.reduceLE, Int.reduceAdd, Int.reduceMul, Int.reduceSub, Int.reduceNeg, Int.reduceToNat, reduceIte, Nat.reduceLT, h3, h4, ixx, row_c0, mine_c0, put_c0, rrx, w3]
              refine ih rest (pre ++ [x, y, z]) _ _ _ _ (by rw [hp]; simp) (by omega) (by simp; omega) ?_ ?_ ?_ (hgs.mono (by omega)) (hr.set (x % 4) (joinL s (doL s ((x % 4 : Nat) : Int) (opOf y z)).1)) hm'
              all_goals simp only [go_sem, reduceCtorEq, Nat.reduceEqDiff, Nat.reduceAdd, Nat.reduceSub, Nat.reduceMul, Nat.reduceLeDiff, Int.reduceEq, Int.reduceLT, Int.reduceLE, Int.reduceAdd, Int.reduceMul, Int.reduceSub, Int.reduceNeg, Int.reduceToNat, reduceIte, Nat.reduceLT, h0, h3, w3]
            · rw [if_neg hz0] at hgs hm'
              simp only [go_sem, reduceCtorEq, Nat.reduceEqDiff, Nat.reduceAdd, Nat.reduceSub, Nat.reduceMul, Nat.reduceLeDiff, Int.reduceEq, Int.reduceLT, Int.reduceLE, Int.reduceAdd, Int.reduceMul, Int.reduceSub, Int.reduceNeg, Int.reduceToNat, reduceIte, Nat.reduceLT, doneC, h3, h4, hz0, w3]
              refine ih rest (pre ++ [x, y, z]) _ _ _ _ (by rw [hp]; simp) (by omega) (by simp; omega) ?_ ?_ ?_ (hgs.mono (by omega)) hr hm'
              all_goals simp only [go_sem, reduceCtorEq, Nat.reduceEqDiff, Nat.reduceAdd, Nat.reduceSub, Nat.reduceMul, Nat.reduceLeDiff, Int.reduceEq, Int.reduceLT, Int.reduceLE, Int.reduceAdd, Int.reduceMul, Int.reduceSub, Int.reduceNeg, Int.reduceToNat, reduceIte, Nat.reduceLT, h0, h3, w3]
    have hmk : vMake 2 48 [.nilS, .nilS] (.c (.int .i64 4)) (.c (.int .i64 4)) [] = some (.c (.slc 0 0 4 2 false), [{ sz := 2, rows := List.replicate 4 [.nilS, .nilS] }]) := rfl
    simp only [go_sem, reduceCtorEq, Nat.reduceEqDiff, Nat.reduceAdd, Nat.reduceSub, Nat.reduceMul, Nat.reduceLeDiff, Int.reduceEq, Int.reduceLT, Int.reduceLE, Int.reduceAdd, Int.reduceMul, Int.reduceSub, Int.reduceNeg, Int.reduceToNat, reduceIte, Nat.reduceLT]
    rw [hmk]
    simp only [thenW_some, go_sem, reduceCtorEq, Nat.reduceEqDiff, Nat.reduceAdd, Nat.reduceSub, Nat.reduceMul, Nat.reduceLeDiff, Int.reduceEq, Int.reduceLT, Int.reduceLE, Int.reduceAdd, Int.reduceMul, Int.reduceSub, Int.reduceNeg, Int.reduceToNat, reduceIte, Nat.reduceLT]
    refine loop 40 ns [] (List.replicate 4 ⟨[], []⟩) _ _ [] rfl (Nat.le_refl _) rfl ?_ ?_ ?_ (by simpa using Group.nil) ?_ hv
    · simp only [go_sem, reduceCtorEq, Nat.reduceEqDiff, Nat.reduceAdd, Nat.reduceSub, Nat.reduceMul, Nat.reduceLeDiff, Int.reduceEq, Int.reduceLT, Int.reduceLE, Int.reduceAdd, Int.reduceMul, Int.reduceSub, Int.reduceNeg, Int.reduceToNat, reduceIte, Nat.reduceLT]
    · simp only [go_sem, reduceCtorEq, Nat.reduceEqDiff, Nat.reduceAdd, Nat.reduceSub, Nat.reduceMul, Nat.reduceLeDiff, Int.reduceEq, Int.reduceLT, Int.reduceLE, Int.reduceAdd, Int.reduceMul, Int.reduceSub, Int.reduceNeg, Int.reduceToNat, reduceIte, Nat.reduceLT]
    · simp only [go_sem, reduceCtorEq, Nat.reduceEqDiff, Nat.reduceAdd, Nat.reduceSub, Nat.reduceMul, Nat.reduceLeDiff, Int.reduceEq, Int.reduceLT, Int.reduceLE, Int.reduceAdd, Int.reduceMul, Int.reduceSub, Int.reduceNeg, Int.reduceToNat, reduceIte, Nat.reduceLT, List.length_nil, Int.natCast_zero]
    · exact .cons ⟨_, _, rfl, .nil⟩ (.cons ⟨_, _, rfl, .nil⟩ (.cons ⟨_, _, rfl, .nil⟩ (.cons ⟨_, _, rfl, .nil⟩ .nil)))

theorem l9_Apart_ok (ns : List Nat) (hb : ∀ n ∈ ns, n < 256) : Pr 17 [.c (bytesC ns)] (.c (statesC (apartS ns))) := by
  have key : ∃ v, Pr 17 [.c (bytesC ns)] v ∧ ∃ rows, v = .c (.lst 2 rows) ∧ RowsOf rows (apartS ns) := by
    refine pure_ex mixed is_l9_Apart (by simp [closedAs, closedA, closedC, bytesC, closed_bytes]) fun T => ?_
    refine l9_Apart_run ns hb T _ fun rows H hr => ⟨.c (.lst 2 rows), ?_, rows, rfl, hr⟩
    have hlr : rows.length = 4 := by rw [hr.len, (apartS_group ns).len]
    have ht : rows.take 4 = rows := List.take_of_length_le (by omega)
    simp [viewA, viewFn, viewC, viewFs, viewCs, viewAs, closedC, closedCs, hlr, ht, hr.closed]
  obtain ⟨v, h1, rows, rfl, h2⟩ := key
  exact h1.wkr_rows h2.wk

/-- The same, in a block of its own. -/
theorem l9_Apart_own (ns : List Nat) (hb : ∀ n ∈ ns, n < 256) : ∃ H' rows, CallSound Tryz.prog 17 [.c (bytesC ns)] [] (.c (.slc 0 0 4 2 false)) ({ sz := 2, rows := rows } :: H') ∧ RowsOf rows (apartS ns) := by
  obtain ⟨u, E, h1, rows, H, h2, h3, h4⟩ := wcall_of (G := P1 Tryz.prog 17 c_l9_Apart) (f := 17) (R := fun u E => ∃ rows H, u = .c (.slc 0 0 4 2 false) ∧ E = { sz := 2, rows := rows } :: H ∧ RowsOf rows (apartS ns)) (by simp [P1, progT, one])
    (l9_Apart_run ns hb _ _ fun rows H hr => ⟨rows, H, rfl, rfl, hr⟩)
  subst h2; subst h3
  exact ⟨H, rows, sound1 (one_ok is_l9_Apart) mixed h1, h4⟩

end Go.Proofs.YtnccbccnjjachaaGreatDoor.Eng
