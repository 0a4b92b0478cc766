/- The engine, part 5: operands, loads, stores, boxes, built values: slim and machine. No statement of the seat is proved here. -/
import Derived.Test.YtfbkolkkpkonfaaEng4
import Derived.Laws.Entries
import Derived.Laws.BytesString
import Derived.Laws.Slices
import Derived.Laws.StructEq
namespace Go.Proofs.Ytfbkolkkpkonfaa.Eng
open Go
set_option linter.unusedVariables false
set_option linter.unusedSimpArgs false

variable {P : Program} {B : Nat} {m : LMap} {H : Heap} {w : World} {σ : Mem}

/-! ### Constants and operands -/
theorem cellOf_sound {v : Value} {c : Cell} (h : cellOf v = some c) : VR m σ c v := by
  unfold cellOf at h
  split at h <;> first | (injection h with h; subst h; constructor) | cases h

theorem cellsOf_sound : ∀ {vs : List Value} {cs : List Cell}, cellsOf vs = some cs → All2 (VR m σ) cs vs
  | [], cs, h => by simp [cellsOf] at h; subst h; exact .nil
  | v :: r, cs, h => by
    unfold cellsOf at h
    cases h1 : cellOf v with
    | none => simp [h1] at h
    | some c =>
      cases h2 : cellsOf r with
      | none => simp [h1, h2] at h
      | some l => simp [h1, h2] at h; subst h; exact .cons (cellOf_sound h1) (cellsOf_sound h2)

theorem avalOf_sound {v : Value} {a : AVal} (h : avalOf v = some a) : VRA m σ a v := by
  unfold avalOf at h
  split at h
  · split at h
    · rename_i h1
      injection h with h; subst h; exact .agg (cellsOf_sound h1)
    · cases h
  · split at h
    · rename_i h1
      injection h with h; subst h; exact .c (cellOf_sound h1)
    · cases h

/-- The places of the frame that are asked for read as the environment has them. -/
def EnvOn (m : LMap) (σ : Mem) (ts : List Nat) (e : Env) (a : Act) : Prop := ∀ t ∈ ts, VRA m σ (e t) (a.tmps.getD t undef)

theorem EnvOn.mono {m' σ' ts e a} (h : EnvOn m σ ts e a) (hm : MLe m σ m' σ') : EnvOn m' σ' ts e a := fun t ht => (h t ht).mono hm
theorem EnvOn.left {ts us e a} (h : EnvOn m σ (ts ++ us) e a) : EnvOn m σ ts e a := fun t ht => h t (by simp [ht])
theorem EnvOn.right {ts us e a} (h : EnvOn m σ (ts ++ us) e a) : EnvOn m σ us e a := fun t ht => h t (by simp [ht])

theorem opd_sound {x : Operand} {y : Opd} {e : Env} {a : Act} (h : cmpOpd x = some y) (he : EnvOn m σ y.tmps e a) : VRA m σ (y.ev e) (a.eval x) := by
  unfold cmpOpd at h
  split at h
  · injection h with h; subst h; exact he _ (by simp [Opd.tmps])
  · rename_i v
    cases h1 : avalOf v with
    | none => simp [h1] at h
    | some av => simp [h1] at h; subst h; exact avalOf_sound h1
  · injection h with h; subst h
    exact .c (.fn rfl (fun i c v hc => by simp at hc))
  · cases h

theorem opds_sound {e : Env} {a : Act} : ∀ {xs : List Operand} {ys : List Opd}, cmpOpds xs = some ys → EnvOn m σ (ys.flatMap Opd.tmps) e a → All2 (fun y v => VRA m σ (y.ev e) v) ys (xs.map a.eval)
  | [], ys, h, _ => by simp [cmpOpds] at h; subst h; exact .nil
  | x :: r, ys, h, he => by
    unfold cmpOpds at h
    cases h1 : cmpOpd x with
    | none => simp [h1] at h
    | some y => cases h2 : cmpOpds r with
      | none => simp [h1, h2] at h
      | some l =>
        simp [h1, h2] at h
        subst h
        rw [List.flatMap_cons] at he
        exact .cons (opd_sound h1 he.left) (opds_sound h2 he.right)

/-! ### Types -/
theorem run_isAggT {t : TypeId} {g : Bool} (h : isAggT P t = some g) (w : World) : (isAgg t).run P w = .ok g w := by
  unfold isAggT at h
  cases hd : P.underlying t with
  | none => simp [hd] at h
  | some d => cases d <;> simp [hd] at h <;> subst h <;> simp [isAgg, run_underlying hd]

theorem sizeT_info {t : TypeId} {n : Nat} (h : sizeT P t = some n) : ∃ i, P.info? t = some i ∧ i.size = n := by
  unfold sizeT at h
  cases hi : P.info? t with
  | none => simp [hi] at h
  | some i => simp [hi] at h; exact ⟨i, rfl, h⟩

theorem run_sizeT {t : TypeId} {n : Nat} (h : sizeT P t = some n) (w : World) : (sizeOf t).run P w = .ok n w := by
  obtain ⟨i, hi, rfl⟩ := sizeT_info h
  simp [sizeOf, typeInfo, hi]

theorem run_zeroT {t : TypeId} {z : List Cell} (h : zeroT P t = some z) : ∃ v, (∀ w, (zeroValue t).run P w = .ok v w) ∧ ∀ m σ, All2 (VR m σ) z v.cells.toList := by
  unfold zeroT at h
  cases hi : P.info? t with
  | none => simp [hi] at h
  | some i =>
    cases hz : i.zero with
    | none => simp [hi, hz] at h
    | some v => simp [hi, hz] at h; exact ⟨v, fun w => by simp [zeroValue, typeInfo, hi, hz], fun m σ => cellsOf_sound h⟩

/-! ### Rows of memory as lists of values -/
theorem row_vals {L : Loc} {i : Nat} {r : List Cell} (h : RowAt m w L i r) : ∃ vs : List Value, All2 (VR m (cellsIn w)) r vs ∧ ∀ (f : Nat) v, vs[f]? = some v → w.cell? ⟨L.g, L.o + i * L.sz + f, none⟩ = some v := by
  obtain ⟨_, h2⟩ := h
  refine ⟨(List.range r.length).map fun f => (w.cell? ⟨L.g, L.o + i * L.sz + f, none⟩).getD undef, All2.of_get (by simp) ?_, ?_⟩
  · intro f c v hc hv
    obtain ⟨u, e1, e2⟩ := h2 f c hc
    have hf : f < r.length := (List.getElem?_eq_some_iff.1 hc).1
    simp [hf, e1] at hv
    subst hv
    exact e2
  · intro f v hv
    have hf : f < r.length := by
      have := (List.getElem?_eq_some_iff.1 hv).1
      simpa using this
    obtain ⟨u, e1, _⟩ := h2 f r[f] (List.getElem?_eq_getElem hf)
    simp [hf, e1] at hv
    subst hv
    exact e1

theorem Heap.row_some {b i : Nat} {r : List Cell} (h : H.row b i = some r) : ∃ k, H[b]? = some k ∧ k.live = true ∧ k.rows[i]? = some r := by
  unfold Heap.row at h
  cases hk : H[b]? with
  | none => simp [hk] at h
  | some k => cases hl : k.live with
    | false => simp [hk, hl] at h
    | true => simp [hk, hl] at h; exact ⟨k, rfl, hl, h⟩

theorem Rel.rowAt (r : Rel B m H w) {b i : Nat} {L : Loc} {q : List Cell} (hb : m b = some L) (h : H.row b i = some q) : RowAt m w L i q := by
  obtain ⟨k, hk, hl, hq⟩ := Heap.row_some h
  obtain ⟨k', hk', hat⟩ := r.blk b L hb
  rw [hk] at hk'; injection hk' with hk'; subst hk'
  exact hat.rows hl i q hq

theorem addr_add (g o n : Nat) : (⟨g, o, none⟩ : Addr).add n = ⟨g, o + n, none⟩ := by
  unfold Addr.add; split
  · subst_vars; rfl
  · rfl

theorem ofCells_sound {g : Bool} {cs : List Cell} {v : AVal} {vs : List Value} (h : ofCells g cs = some v) (hr : All2 (VR m σ) cs vs) :
    (g = true ∧ VRA m σ v (.agg vs.toArray)) ∨ (g = false ∧ ∃ u, vs = [u] ∧ VRA m σ v u) := by
  unfold ofCells at h
  cases g with
  | true => simp at h; subst h; exact .inl ⟨rfl, .agg (by simpa using hr)⟩
  | false =>
    simp at h
    split at h
    · rename_i x
      injection h with h; subst h
      obtain ⟨u, rfl, hu⟩ := hr.inv_single
      exact .inr ⟨rfl, u, rfl, .c hu⟩
    · cases h

/-! ### Load -/
theorem load_at {t : TypeId} {g : Bool} {n : Nat} (hg : isAggT P t = some g) (hn : sizeT P t = some n) (A : Addr) {cs : List Cell} {us : List Value} (h3 : All2 (VR m (cellsIn w)) cs us) (hlen : us.length = n)
    (hcell : ∀ (j : Nat) u, us[j]? = some u → w.cell? (A.add j) = some u) {v : AVal} (hv : ofCells g cs = some v) :
    ∃ v', (Instr.loadAt t (.pointer (some A))).run P w = .ok v' w ∧ VRA m (cellsIn w) v v' := by
  rcases ofCells_sound hv h3 with ⟨rfl, hr⟩ | ⟨rfl, u, hu, hr⟩
  · refine ⟨_, ?_, hr⟩
    have := run_loadCells_list (P := P) w A _ hcell
    rw [hlen] at this
    simp [Instr.loadAt, Instr.sureAddr, loadVar, run_isAggT hg, run_sizeT hn, this]
  · refine ⟨u, ?_, hr⟩
    have h0 := hcell 0 u (by rw [hu]; rfl)
    have ha : A.add 0 = A := by simp [Addr.add]
    rw [ha] at h0
    simp [Instr.loadAt, Instr.sureAddr, loadVar, run_isAggT hg, h0]

theorem loadF_sound {t : TypeId} {g : Bool} {n : Nat} (hg : isAggT P t = some g) (hn : sizeT P t = some n) {f : Nat} {q : List Cell} {v : AVal} {va : Value}
    (ha : VR m (cellsIn w) (.fp q f) va) (hfn : f + n ≤ q.length) (hv : ofCells g ((q.drop f).take n) = some v) :
    ∃ v', (Instr.loadAt t va).run P w = .ok v' w ∧ VRA m (cellsIn w) v v' := by
  cases ha with
  | @fp _ gg o _ vs h1 h2 h3 =>
    have hl : ((q.drop f).take n).length = n := by simp; omega
    have hget : ∀ (j : Nat) x, ((q.drop f).take n)[j]? = some x → q[f + j]? = some x := fun j x e => by
      rw [List.getElem?_take] at e
      split at e
      · rw [List.getElem?_drop] at e; exact e
      · cases e
    refine load_at hg hn ⟨gg, o + f, none⟩ (cs := (q.drop f).take n) (us := (List.range n).map fun j => vs (f + j)) (All2.of_get (by simp; omega) fun j x u e1 e2 => ?_) (by simp) (fun j u e => ?_) hv
    · have hj : j < n := by have := (List.getElem?_eq_some_iff.1 e1).1; omega
      simp [hj] at e2
      subst e2
      exact h3 _ x (hget j x e1)
    · have hj : j < n := by have := (List.getElem?_eq_some_iff.1 e).1; simpa using this
      simp [hj] at e
      subst e
      have := h2 (f + j) _ (hget j _ (List.getElem?_eq_getElem (by omega)))
      rw [addr_add, Nat.add_assoc]
      exact this

theorem load_sound (r : Rel B m H w) {t : TypeId} {g : Bool} {n : Nat} (hg : isAggT P t = some g) (hn : sizeT P t = some n) {b i f : Nat} {q : List Cell} {v : AVal} {va : Value}
    (ha : VRA m (cellsIn w) (.c (.ptr b i f)) va) (hq : H.row b i = some q) (hfn : f + n ≤ q.length) (hv : ofCells g ((q.drop f).take n) = some v) :
    ∃ v', (Instr.loadAt t va).run P w = .ok v' w ∧ VRA m (cellsIn w) v v' := by
  cases ha with
  | c ha =>
    cases ha with
    | ptr hb =>
      rename_i L
      obtain ⟨vs, h1, h2⟩ := row_vals (r.rowAt hb hq)
      have hl := h1.length
      have h3 : All2 (VR m (cellsIn w)) ((q.drop f).take n) ((vs.drop f).take n) := (h1.drop f).take n
      have hlen : ((vs.drop f).take n).length = n := by simp; omega
      have hcell : ∀ (j : Nat) u, ((vs.drop f).take n)[j]? = some u → w.cell? ((⟨L.g, L.o + i * L.sz + f, none⟩ : Addr).add j) = some u := by
        intro j u hj
        rw [addr_add, Nat.add_assoc]
        refine h2 (f + j) u ?_
        rw [List.getElem?_take] at hj
        split at hj
        · rw [List.getElem?_drop] at hj; exact hj
        · cases hj
      rcases ofCells_sound hv h3 with ⟨rfl, hr⟩ | ⟨rfl, u, hu, hr⟩
      · refine ⟨_, ?_, hr⟩
        have := run_loadCells_list (P := P) w ⟨L.g, L.o + i * L.sz + f, none⟩ _ hcell
        rw [hlen] at this
        simp [Instr.loadAt, Instr.sureAddr, loadVar, run_isAggT hg, run_sizeT hn, this]
      · refine ⟨u, ?_, hr⟩
        have h0 := hcell 0 u (by rw [hu]; rfl)
        rw [addr_add, Nat.add_zero] at h0
        simp [Instr.loadAt, Instr.sureAddr, loadVar, run_isAggT hg, h0]

/-! ### Store -/
theorem mul_row_lt {i j f sz : Nat} (h : i < j) (hf : f < sz) : i * sz + f < j * sz := by
  have : (i + 1) * sz ≤ j * sz := Nat.mul_le_mul_right sz h
  rw [Nat.add_mul, Nat.one_mul] at this
  omega

theorem rowsIn_of (r : Rel B m H w) {b : Nat} {L : Loc} {k : Blk} (hb : m b = some L) (hk : H[b]? = some k) (ho : L.own = true) (hl : k.live = true) {cur : Array Value} {t : TypeId} (hg : w.heap[L.g]? = some (.cells cur t (0, 0))) :
    RowsIn m (cellsIn w) L.sz k.rows cur := by
  obtain ⟨k', hk', hat⟩ := r.blk b L hb
  rw [hk] at hk'; injection hk' with hk'; subst hk'
  intro i q e
  obtain ⟨h1, h2⟩ := hat.rows hl i q e
  refine ⟨h1, fun f c ef => ?_⟩
  obtain ⟨v, e1, e2⟩ := h2 f c ef
  rw [(hat.ours ho).2, Nat.zero_add, cell_of_row _ _ _ _ _ _ hg] at e1
  exact ⟨v, e1, e2⟩

theorem getElem?_splice (cur : List Value) (o : Nat) (vs : List Value) (h : o + vs.length ≤ cur.length) (j : Nat) :
    (cur.take o ++ vs ++ cur.drop (o + vs.length))[j]? = if o ≤ j ∧ j < o + vs.length then vs[j - o]? else cur[j]? := by
  have hl : (cur.take o).length = o := by simp; omega
  by_cases h1 : j < o
  · rw [if_neg (by omega), List.append_assoc, List.getElem?_append_left (by omega), List.getElem?_take, if_pos h1]
  · by_cases h2 : j < o + vs.length
    · rw [if_pos (by omega), List.append_assoc, List.getElem?_append_right (by omega), hl, List.getElem?_append_left (by omega)]
    · rw [if_neg (by omega), List.getElem?_append_right (by simp; omega), List.getElem?_drop]
      congr 1
      simp
      omega

theorem store_sound (r : Rel B m H w) {t : TypeId} {n : Nat} (hn : sizeT P t = some n) {b i f : Nat} {q : List Cell} {v : AVal} {va vv : Value}
    (ha : VRA m (cellsIn w) (.c (.ptr b i f)) va) (hv : VRA m (cellsIn w) v vv) (hc : v.cells ≠ [] ∨ ∃ cs, v = .agg cs) (hq : H.row b i = some q) (hm : H.mine b = true) (hcl : v.cells.length = n) (hn0 : 0 < n) (hfn : f + n ≤ q.length) :
    ∃ w', (Instr.storeAt t va vv).run P w = .ok () w' ∧ St B H m w (H.put b i (q.take f ++ v.cells ++ q.drop (f + n))) m w' := by
  cases ha with
  | c ha =>
    cases ha with
    | ptr hb =>
      rename_i L
      obtain ⟨k, hk, hl, hkq⟩ := Heap.row_some hq
      have hown : k.own = true := by simp [Heap.mine, hk, hl] at hm; exact hm
      obtain ⟨k', hk', hat⟩ := r.blk b L hb
      rw [hk] at hk'; injection hk' with hk'; subst hk'
      have ho : L.own = true := by rw [← hat.own]; exact hown
      obtain ⟨cur, ct, hg⟩ := hat.row ho hl
      have hrows := rowsIn_of r hb hk ho hl hg
      have hvs := hv.cells hc
      have hvl := hvs.length
      obtain ⟨hq1, hq2⟩ := hrows i q hkq
      have hin : i * L.sz + f + vv.cells.toList.length ≤ cur.size := by
        rw [← hvl, hcl]
        obtain ⟨u, e1, _⟩ := hq2 (f + n - 1) (q[f + n - 1]'(by omega)) (List.getElem?_eq_getElem (by omega))
        have := (Array.getElem?_eq_some_iff.1 e1).1
        omega
      have hst := run_storeCells_at P L.g (i * L.sz + f) ct vv.cells.toList 0 cur w hg (by simpa using hin) (by
        intro u hu
        obtain ⟨c, _, hc⟩ := hvs.right_mem u hu
        exact hc.oneCell)
      simp only [Nat.add_zero] at hst
      have hrun : (Instr.storeAt t (.pointer (some ⟨L.g, L.o + i * L.sz + f, none⟩)) vv).run P w = .ok () (w.setRow L.g (List.take (i * L.sz + f) cur.toList ++ vv.cells.toList ++ List.drop (i * L.sz + f + vv.cells.toList.length) cur.toList).toArray) := by
        have h0 : L.o = 0 := (hat.ours ho).2
        have hsz : vv.cells.size = n := by rw [← hcl, hvl]; simp
        simp [Instr.storeAt, Instr.sureAddr, storeVar, run_sizeT hn, hsz, h0, hst]
      refine ⟨_, hrun, ?_⟩
      · have hput : H.put b i (q.take f ++ v.cells ++ q.drop (f + n)) = H.set b { k with rows := k.rows.set i (q.take f ++ v.cells ++ q.drop (f + n)) } := by simp [Heap.put, hk]
        rw [hput]
        refine St.turn r hb hk ho hl hg _ ?_ rfl rfl ?_
        · have hin' := hin
          simp only [Array.length_toList] at hin'
          simp only [List.size_toArray, List.length_append, List.length_take, List.length_drop, Array.length_toList]
          omega
        · intro _ i' q' e'
          simp only [List.getElem?_set] at e'
          split at e'
          · rename_i hii
            subst hii
            split at e'
            · injection e' with e'
              subst e'
              refine ⟨by simp [hcl]; omega, fun f' c' ef => ?_⟩
              rw [List.getElem?_toArray, getElem?_splice _ _ _ (by simpa using hin)]
              by_cases hff : f ≤ f' ∧ f' < f + n
              · have h1 : (q.take f ++ v.cells ++ q.drop (f + n))[f']? = v.cells[f' - f]? := by
                  rw [List.append_assoc, List.getElem?_append_right (by simp; omega)]
                  rw [List.getElem?_append_left (by simp; omega)]
                  congr 1
                  simp
                  omega
                rw [h1] at ef
                obtain ⟨u, e1, e2⟩ := hvs.get ef
                refine ⟨u, ?_, e2⟩
                rw [if_pos (by rw [← hvl, hcl]; omega)]
                rw [show i * L.sz + f' - (i * L.sz + f) = f' - f by omega]
                exact e1
              · have h1 : (q.take f ++ v.cells ++ q.drop (f + n))[f']? = q[f']? := by
                  by_cases hlt : f' < f
                  · rw [List.append_assoc, List.getElem?_append_left (by simp; omega), List.getElem?_take, if_pos hlt]
                  · rw [List.getElem?_append_right (by simp; omega), List.getElem?_drop]
                    congr 1
                    simp
                    omega
                rw [h1] at ef
                obtain ⟨u, e1, e2⟩ := hq2 f' c' ef
                refine ⟨u, ?_, e2⟩
                rw [if_neg (by rw [← hvl, hcl]; omega)]
                simpa using e1
            · cases e'
          · rename_i hii
            obtain ⟨g1, g2⟩ := hrows i' q' e'
            refine ⟨g1, fun f' c' ef => ?_⟩
            obtain ⟨u, e1, e2⟩ := g2 f' c' ef
            refine ⟨u, ?_, e2⟩
            have hf' : f' < L.sz := by rw [← g1]; exact (List.getElem?_eq_some_iff.1 ef).1
            rw [List.getElem?_toArray, getElem?_splice _ _ _ (by simpa using hin), if_neg]
            · simpa using e1
            · rw [← hvl, hcl]
              rcases Nat.lt_or_gt_of_ne hii with h | h
              · have := mul_row_lt (sz := L.sz) (f := f + n - 1) h (by omega)
                omega
              · have := mul_row_lt (sz := L.sz) h hf'
                omega

end Go.Proofs.Ytfbkolkkpkonfaa.Eng
