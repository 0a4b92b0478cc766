/- The engine, part 7: what makes blocks, parts of values, appends: slim and machine. No statement of the seat is proved here. -/
import Derived.Test.YtfbkolkkpkonfaaEng6
import Derived.Laws.Tables
import Derived.Laws.MakeOwn
namespace Go.Proofs.Ytfbkolkkpkonfaa.Eng
open Go
set_option linter.unusedVariables false
set_option linter.unusedSimpArgs false

variable {P : Program} {B : Nat} {m : LMap} {H : Heap} {w : World} {σ : Mem}

/-! ### New blocks -/
theorem RowsIn.one {cs : List Cell} {vs : Array Value} (h : All2 (VR m σ) cs vs.toList) : RowsIn m σ cs.length [cs] vs := by
  intro i r e
  cases i with
  | succ i => simp at e
  | zero =>
    simp at e
    subst e
    refine ⟨rfl, fun f c ef => ?_⟩
    obtain ⟨v, e1, e2⟩ := h.get ef
    exact ⟨v, by simpa using e1, e2⟩

theorem ptr_new {k : Nat} {σ' : Mem} (g b sz : Nat) : VRA (addLoc m b ⟨g, 0, sz, true⟩) σ' (.c (.ptr b 0 0)) (.pointer (some ⟨g, 0, none⟩)) := by
  have := VR.ptr (σ := σ') (i := 0) (f := 0) (addLoc_same m b ⟨g, 0, sz, true⟩)
  simp only [Nat.zero_mul, Nat.add_zero] at this
  exact .c this

theorem newVar_sound (r : Rel B m H w) (t : TypeId) {cs : List Cell} {v : Value} (h : All2 (VR m (cellsIn w)) cs v.cells.toList) :
    ∃ w' m' u, (do pure (.pointer (some (← newVar t v))) : Sem Value).run P w = .ok u w' ∧ St B H m w (H ++ [{ sz := cs.length, rows := [cs] }]) m' w' ∧ VRA m' (cellsIn w') (.c (.ptr H.length 0 0)) u := by
  have hs := St.new r t { sz := cs.length, rows := [cs] } v.cells rfl (RowsIn.one h)
  exact ⟨_, _, _, by simp [newVar, newRow], hs, ptr_new (k := 0) _ _ _⟩

theorem new_sound (r : Rel B m H w) {t : TypeId} {z : List Cell} (hz : zeroT P t = some z) :
    ∃ w' m' u, (Instr.alloc t true (.tuple #[])).run P w = .ok u w' ∧ St B H m w (H ++ [{ sz := z.length, rows := [z] }]) m' w' ∧ VRA m' (cellsIn w') (.c (.ptr H.length 0 0)) u := by
  obtain ⟨v, h1, h2⟩ := run_zeroT hz
  obtain ⟨w', m', u, h3, h4, h5⟩ := newVar_sound (P := P) r t (h2 m (cellsIn w))
  exact ⟨w', m', u, by simp only [Instr.alloc, Sem.run_bind, h1, Result.andThen_ok]; simpa using h3, h4, h5⟩

theorem box_sound (r : Rel B m H w) {t : TypeId} {x : AVal} {v : Value} (hx : VRA m (cellsIn w) x v) (hc : x.cells ≠ [] ∨ ∃ cs, x = .agg cs) :
    ∃ w' m' u, (Instr.box t v).run P w = .ok u w' ∧ St B H m w (H ++ [{ sz := x.cells.length, rows := [x.cells] }]) m' w' ∧ VRA m' (cellsIn w') (.c (.ptr H.length 0 0)) u := by
  obtain ⟨w', m', u, h3, h4, h5⟩ := newVar_sound (P := P) r t (hx.cells hc)
  exact ⟨w', m', u, by simpa [Instr.box] using h3, h4, h5⟩

/-! ### Values out of parts -/
theorem fold_set (off : Nat) : ∀ (l : List Value) (j : Nat) (cells : Array Value), off + j + l.length ≤ cells.size →
    ((l.zipIdx j).foldl (fun cs (p : Value × Nat) => cs.setIfInBounds (off + p.2) p.1) cells).toList = cells.toList.take (off + j) ++ l ++ cells.toList.drop (off + j + l.length)
  | [], j, cells, h => by simp
  | v :: l, j, cells, h => by
    simp only [List.zipIdx_cons, List.foldl_cons, List.length_cons] at h ⊢
    rw [fold_set off l (j + 1) _ (by simp; omega)]
    simp only [Array.toList_setIfInBounds]
    have hlt : off + j < cells.toList.length := by simp; omega
    rw [show off + (j + 1) = off + j + 1 by omega, List.take_succ_eq_append_getElem (by simpa using hlt), List.take_set_of_le (Nat.le_refl _), List.getElem_set_self]
    rw [show off + j + 1 + l.length = off + j + (l.length + 1) by omega, List.drop_set_of_lt (by omega)]
    simp [List.append_assoc]

theorem fill_cons {place : Nat → Option (Nat × Nat)} {i off n : Nat} {v : Value} {rest : List (Nat × Value)} {cells : Array Value} (hp : place i = some (off, n)) (hv : v.cells.size = n) (hl : off + n ≤ cells.size) :
    Instr.fill place cells ((i, v) :: rest) = Instr.fill place (cells.toList.take off ++ v.cells.toList ++ cells.toList.drop (off + n)).toArray rest := by
  have hf : (v.cells.zipIdx.foldl (fun cs (p : Value × Nat) => cs.setIfInBounds (off + p.2) p.1) cells) = (cells.toList.take off ++ v.cells.toList ++ cells.toList.drop (off + n)).toArray := by
    apply Array.ext'
    rw [← Array.foldl_toList, Array.toList_zipIdx]
    rw [fold_set off v.cells.toList 0 cells (by simp only [Array.length_toList, hv]; omega)]
    simp [hv]
  have hcond : ¬ ((decide (v.cells.size ≠ n) || decide (off + v.cells.size > cells.size)) = true) := by rw [hv]; simp; omega
  simp only [Instr.fill, hp]
  rw [if_neg hcond]
  exact congrArg (fun c => Instr.fill place c rest) hf

theorem All2.splice {R : Cell → Value → Prop} {zs cs : List Cell} {vs us : List Value} (h : All2 R zs vs) (k : All2 R cs us) (o n : Nat) : All2 R (zs.take o ++ cs ++ zs.drop (o + n)) (vs.take o ++ us ++ vs.drop (o + n)) :=
  ((h.take o).append k).append (h.drop (o + n))

theorem fillA_sound {place : Nat → Option (Nat × Nat)} {e : Env} {a : Act} {fs : Array Field} (hp : ∀ (i : Nat) f n, fs[i]? = some f → sizeT P f.type = some n → place i = some (f.offset, n)) :
    ∀ (parts : List (Nat × Operand)) (ps : List (Nat × Nat × Opd)) (zs cs : List Cell) (cells : Array Value), partsB P fs parts = some ps → EnvOn m σ (ps.flatMap fun p => p.2.2.tmps) e a →
      (∀ p ∈ ps, 0 < p.2.1) → All2 (VR m σ) zs cells.toList → fillA zs e ps = some cs →
      ∃ out, Instr.fill place cells (parts.map fun p => (p.1, a.eval p.2)) = some out ∧ All2 (VR m σ) cs out.toList
  | [], ps, zs, cs, cells, h1, _, _, h3, h4 => by
    simp [partsB] at h1
    subst h1
    simp [fillA] at h4
    subst h4
    exact ⟨cells, rfl, h3⟩
  | (i, x) :: parts, ps, zs, cs, cells, h1, h2, hn0, h3, h4 => by
    simp only [partsB] at h1
    split at h1
    · rename_i f y ys e1 e2 e3
      split at h1
      · rename_i n e4
        injection h1 with h1
        subst h1
        simp only [List.flatMap_cons] at h2
        simp only [fillA] at h4
        split at h4
        · rename_i hc
          have hx := opd_sound e2 h2.left
          have hn : 0 < n := hn0 (f.offset, n, y) (by simp)
          have hxc := hx.cells (.inl (by intro h0; rw [h0] at hc; simp at hc; omega))
          have hsz : (a.eval x).cells.size = n := by have := hxc.length; simp at this; omega
          have hzl := h3.length
          simp only [Array.length_toList] at hzl
          obtain ⟨out, g1, g2⟩ := fillA_sound hp parts ys _ cs (cells.toList.take f.offset ++ (a.eval x).cells.toList ++ cells.toList.drop (f.offset + n)).toArray e3 h2.right (fun p hp' => hn0 p (by simp [hp'])) (by simpa using h3.splice hxc f.offset n) h4
          refine ⟨out, ?_, g2⟩
          simp only [List.map_cons]
          rw [fill_cons (hp i f n e1 e4) hsz (by omega)]
          exact g1
        · cases h4
      · cases h1
    · cases h1

theorem build_sound {t : TypeId} {fs : Array Field} {z : List Cell} (ht : P.underlying t = some (.struct fs)) (hz : zeroT P t = some z) (hall : fs.all (fun f => (sizeT P f.type).isSome) = true) {parts : Array (Nat × Operand)} {ps : List (Nat × Nat × Opd)}
    (hp : partsB P fs parts.toList = some ps) {e : Env} {a : Act} (he : EnvOn m σ (ps.flatMap fun p => p.2.2.tmps) e a) (hn0 : ∀ p ∈ ps, 0 < p.2.1) {cs : List Cell} (hf : fillA z e ps = some cs) :
    ∃ v, (Instr.build t (parts.map fun (i, x) => (i, a.eval x))).run P w = .ok v w ∧ VRA m σ (.agg cs) v := by
  unfold zeroT at hz
  cases hi : P.info? t with
  | none => simp [hi] at hz
  | some it =>
    cases hzv : it.zero with
    | none => simp [hi, hzv] at hz
    | some zv =>
      simp [hi, hzv] at hz
      have hpl : ∀ (l : List Field), (∀ f ∈ l, (sizeT P f.type).isSome) → ∃ places, l.mapM (fun f => (P.info? f.type).map fun i => (f.offset, i.size)) = some places ∧ ∀ (i : Nat) f n, l[i]? = some f → sizeT P f.type = some n → places[i]? = some (f.offset, n) := by
        intro l
        induction l with
        | nil => intro _; exact ⟨[], by simp, fun i f n h => by simp at h⟩
        | cons f l ih =>
          intro hl
          obtain ⟨pl, g1, g2⟩ := ih fun f' hf' => hl f' (by simp [hf'])
          obtain ⟨n, hn⟩ := Option.isSome_iff_exists.1 (hl f (by simp))
          obtain ⟨i, hi', rfl⟩ := sizeT_info hn
          refine ⟨(f.offset, i.size) :: pl, by simp [List.mapM_cons, hi', g1], fun j f' n' h1 h2 => ?_⟩
          cases j with
          | zero =>
            simp at h1
            subst h1
            rw [hn] at h2
            injection h2 with h2
            simp [h2]
          | succ j => simpa using g2 j f' n' (by simpa using h1) h2
      obtain ⟨pl, g1, g2⟩ := hpl fs.toList (fun f hf' => by
        have := Array.all_eq_true_iff_forall_mem.1 hall f (by simpa using hf')
        exact this)
      obtain ⟨out, k1, k2⟩ := fillA_sound (m := m) (σ := σ) (a := a) (place := (pl.toArray[·]?)) (fs := fs) (fun i f n h1 h2 => by simpa using g2 i f n (by simpa using h1) h2) parts.toList ps z cs zv.cells hp he hn0 (cellsOf_sound hz) hf
      refine ⟨.agg out, run_build w t _ out ?_, .agg k2⟩
      simp only [Program.built, hi, ht, hzv, g1]
      rw [← k1]
      simp

theorem RowsIn.set {sz : Nat} {rows : List (List Cell)} {cur : List Value} {i : Nat} {cs : List Cell} {vs : List Value} (h : RowsIn m σ sz rows cur.toArray) (hi : i < rows.length) (hl : rows.length * sz ≤ cur.length) (hc : All2 (VR m σ) cs vs) (hcs : cs.length = sz) :
    RowsIn m σ sz (rows.set i cs) (cur.take (i * sz) ++ vs ++ cur.drop (i * sz + sz)).toArray := by
  have hvl := hc.length
  have hin : i * sz + vs.length ≤ cur.length := by
    have : (i + 1) * sz ≤ rows.length * sz := Nat.mul_le_mul_right sz hi
    rw [Nat.add_mul, Nat.one_mul] at this
    omega
  have hsp : cur.take (i * sz) ++ vs ++ cur.drop (i * sz + sz) = cur.take (i * sz) ++ vs ++ cur.drop (i * sz + vs.length) := by rw [← hvl, hcs]
  rw [hsp]
  intro j r e
  by_cases hij : i = j
  · subst hij
    rw [List.getElem?_set_self hi] at e
    injection e with e
    subst e
    refine ⟨hcs, fun f c ef => ?_⟩
    obtain ⟨v, e1, e2⟩ := hc.get ef
    refine ⟨v, ?_, e2⟩
    have hf : f < vs.length := (List.getElem?_eq_some_iff.1 e1).1
    rw [List.getElem?_toArray, getElem?_splice _ _ _ hin, if_pos (by omega), show i * sz + f - i * sz = f by omega]
    exact e1
  · rw [List.getElem?_set_ne hij] at e
    obtain ⟨g1, g2⟩ := h j r e
    refine ⟨g1, fun f c ef => ?_⟩
    obtain ⟨v, e1, e2⟩ := g2 f c ef
    refine ⟨v, ?_, e2⟩
    have hf : f < sz := by rw [← g1]; exact (List.getElem?_eq_some_iff.1 ef).1
    rw [List.getElem?_toArray, getElem?_splice _ _ _ hin, if_neg]
    · simpa using e1
    · rcases Nat.lt_or_gt_of_ne hij with hlt | hgt
      · have h5 : (i + 1) * sz ≤ j * sz := Nat.mul_le_mul_right sz hlt
        rw [Nat.add_mul, Nat.one_mul] at h5
        omega
      · have := mul_row_lt (sz := sz) (f := f) hgt hf
        omega

theorem RowsIn.made {z : List Cell} {zv : Array Value} (h : All2 (VR m σ) z zv.toList) (n : Nat) (hz : 0 < z.length) : RowsIn m σ z.length (List.replicate n z) ((Array.range (n * z.length)).map (zv[· % zv.size]!)) := by
  intro i r e
  have hi : i < n := by have := (List.getElem?_eq_some_iff.1 e).1; simpa using this
  have hr : r = z := by simp [List.getElem?_replicate, hi] at e; exact e.symm
  subst hr
  refine ⟨rfl, fun f c ef => ?_⟩
  obtain ⟨v, e1, e2⟩ := h.get ef
  have hf : f < r.length := (List.getElem?_eq_some_iff.1 ef).1
  have hzl : zv.size = r.length := by have := h.length; simpa using this.symm
  refine ⟨v, ?_, e2⟩
  have hlt : i * r.length + f < n * r.length := mul_row_lt hi hf
  have hmod : (i * r.length + f) % zv.size = f := by rw [hzl, Nat.add_comm, Nat.add_mul_mod_self_right, Nat.mod_eq_of_lt hf]
  have hfv : f < zv.size := by omega
  have e1' : zv[f]? = some v := by simpa using e1
  rw [Array.getElem?_map, Array.getElem?_range, if_pos hlt, Option.map_some, hmod, getElem!_pos zv f hfv]
  rw [Array.getElem?_eq_getElem hfv] at e1'
  exact e1'

theorem slc_new {σ' : Mem} (g b n sz c : Nat) (z : Bool) (hn : n ≤ c) (hz : z = true → c = 0) (hm : c ≤ maxLen) (hs : c * sz = σ' g) : VRA (addLoc m b ⟨g, 0, sz, true⟩) σ' (.c (.slc b 0 n sz z)) (.slice (some ⟨g, 0, none⟩) n c) :=
  .c (.slc hn hz hm ⟨⟨g, 0, sz, true⟩, addLoc_same _ _ _, rfl, fun _ => ⟨by simp, fun _ => by simpa using hs⟩⟩)

theorem fillR_sound {sz : Nat} {e : Env} {a : Act} (hsz : 0 < sz) : ∀ (parts : List (Nat × Operand)) (ps : List (Nat × Opd)) (rows out : List (List Cell)) (cells : Array Value), partsL parts = some ps → EnvOn m σ (ps.flatMap fun p => p.2.tmps) e a →
      RowsIn m σ sz rows cells → cells.size = rows.length * sz → fillR sz rows e ps = some out →
      ∃ vs, Instr.fill (fun i => some (i * sz, sz)) cells (parts.map fun p => (p.1, a.eval p.2)) = some vs ∧ RowsIn m σ sz out vs ∧ out.length = rows.length ∧ vs.size = cells.size
  | [], ps, rows, out, cells, h1, _, h3, hl, h4 => by
    simp [partsL] at h1
    subst h1
    simp [fillR] at h4
    subst h4
    exact ⟨cells, rfl, h3, rfl, rfl⟩
  | (i, x) :: parts, ps, rows, out, cells, h1, h2, h3, hl, h4 => by
    simp only [partsL] at h1
    split at h1
    · rename_i y ys e2 e3
      injection h1 with h1
      subst h1
      simp only [List.flatMap_cons] at h2
      simp only [fillR] at h4
      split at h4
      · rename_i hc
        have hx := opd_sound e2 h2.left
        have hxc := hx.cells (.inl (by intro h0; rw [h0] at hc; simp at hc; omega))
        have hxs : (a.eval x).cells.size = sz := by have := hxc.length; simp at this; omega
        have hr := RowsIn.set (cur := cells.toList) (by simpa using h3) hc.2 (by simp; omega) hxc hc.1
        have hle : i * sz + sz ≤ cells.size := by
          have : (i + 1) * sz ≤ rows.length * sz := Nat.mul_le_mul_right sz hc.2
          rw [Nat.add_mul, Nat.one_mul] at this
          omega
        have hsize : (cells.toList.take (i * sz) ++ (a.eval x).cells.toList ++ cells.toList.drop (i * sz + sz)).toArray.size = cells.size := by
          simp; omega
        obtain ⟨vs, g1, g2, g3, g4⟩ := fillR_sound hsz parts ys _ out _ e3 h2.right hr (by rw [hsize]; simpa using hl) h4
        refine ⟨vs, ?_, g2, by simpa using g3, by rw [g4, hsize]⟩
        simp only [List.map_cons]
        rw [fill_cons (off := i * sz) (n := sz) rfl hxs hle]
        exact g1
      · cases h4
    · cases h1

theorem lit_sound (r : Rel B m H w) {t q : TypeId} {n len : Nat} {z : List Cell} (ht : P.underlying t = some (.slice q)) (hn : sizeT P q = some n) (hz : zeroT P q = some z) (hzl : z.length = n) (h0 : 0 < n) (hlim : len * n ≤ 16777216)
    {parts : Array (Nat × Operand)} {ps : List (Nat × Opd)} (hp : partsL parts.toList = some ps) {e : Env} {a : Act} (he : EnvOn m (cellsIn w) (ps.flatMap fun p => p.2.tmps) e a) {rows : List (List Cell)} (hf : fillR n (List.replicate len z) e ps = some rows) :
    ∃ w' m' u, (Instr.buildSlice t len (parts.map fun (i, x) => (i, a.eval x))).run P w = .ok u w' ∧ St B H m w (H ++ [{ sz := n, rows := rows }]) m' w' ∧ VRA m' (cellsIn w') (.c (.slc H.length 0 len n (len == 0))) u := by
  obtain ⟨zv, k1, k2⟩ := run_zeroT hz
  have hzs : zv.cells.size = n := by have := (k2 m (cellsIn w)).length; simp at this; omega
  have hmade : RowsIn m (cellsIn w) n (List.replicate len z) ((Array.range (len * n)).map (zv.cells[· % zv.cells.size]!)) := by
    have := RowsIn.made (k2 m (cellsIn w)) len (by omega)
    rw [hzl] at this
    exact this
  obtain ⟨vs, g1, g2, g3, g4⟩ := fillR_sound h0 parts.toList ps _ rows _ hp he hmade (by simp) hf
  have hs := St.new r q { sz := n, rows := rows } vs rfl g2
  have hmap : (parts.map fun (i, x) => (i, a.eval x)).toList = parts.toList.map fun p => (p.1, a.eval p.2) := by simp
  have hcells : cellsIn (w.alloc (.cells vs q)) w.heap.size = vs.size := cellsIn_row (heap_alloc_new w _)
  have hlen : rows.length = len := by simpa using g3
  have hvs : vs.size = len * n := by rw [g4]; simp
  refine ⟨_, _, .slice (some ⟨w.heap.size, 0, none⟩) len len, ?_, hs, slc_new _ _ _ _ _ _ (Nat.le_refl _) (fun hz => by simpa using hz) ?_ (by rw [hcells, hvs])⟩
  · simp only [Instr.buildSlice, Sem.run_bind, run_underlying ht, Result.andThen_ok, run_sizeT hn]
    rw [if_neg (by omega)]
    by_cases hl0 : len * n = 0
    · rw [if_pos hl0]
      have hr : (Array.range (len * n)).map ((#[] : Array Value)[· % (#[] : Array Value).size]!) = (Array.range (len * n)).map (zv.cells[· % zv.cells.size]!) := by simp [hl0]
      simp only [Sem.run_bind, Sem.run_pure, Result.andThen_ok, hmap, hr, g1]
      simp [newRow]
    · rw [if_neg hl0]
      simp only [Sem.run_bind, k1, Result.andThen_ok, Sem.run_pure, hmap, g1]
      simp [newRow]
  · have : len ≤ len * n := Nat.le_mul_of_pos_right len h0
    unfold maxLen
    omega

theorem make_sound (r : Rel B m H w) {t q : TypeId} {n by_ : Nat} {z : List Cell} (ht : P.underlying t = some (.slice q)) (hn : sizeT P q = some n) (hb : bytesT P q = some by_) (hz : zeroT P q = some z) (hzl : z.length = n) (h0 : 0 < n)
    {kl kc : IntKind} {l : Int} (hl0 : 0 ≤ l) (hbytes : l * by_ ≤ 140737488355328) (hmax : l ≤ 9223372036854775807) :
    ∃ w' m' u, (Instr.makeSlice t (.int kl l) (.int kc l)).run P w = .ok u w' ∧ St B H m w (H ++ [{ sz := n, rows := List.replicate l.toNat z }]) m' w' ∧ VRA m' (cellsIn w') (.c (.slc H.length 0 l.toNat n (l.toNat == 0))) u := by
  unfold zeroT at hz
  unfold bytesT at hb
  obtain ⟨i, hi, hin⟩ := sizeT_info hn
  cases hzv : i.zero with
  | none => simp [hi, hzv] at hz
  | some zv =>
    simp [hi, hzv] at hz
    simp [hi] at hb
    have hz2 : All2 (VR m (cellsIn w)) z zv.cells.toList := cellsOf_sound hz
    have hrun := run_make (P := P) w t q i zv ht hi hzv kl kc l l hl0 (Int.le_refl _) (by rw [hb, Int.mul_comm]; omega) hmax
    have hmade : RowsIn m (cellsIn w) n (List.replicate l.toNat z) (madeCells zv.cells (l.toNat * i.size)) := by
      have := RowsIn.made hz2 l.toNat (by omega)
      rw [hzl] at this
      rw [hin]
      exact this
    have hs := St.new r q { sz := n, rows := List.replicate l.toNat z } _ rfl hmade
    have hcells : cellsIn (w.alloc (.cells (madeCells zv.cells (l.toNat * i.size)) q)) w.heap.size = l.toNat * n := by
      rw [cellsIn_row (heap_alloc_new w _)]
      simp [madeCells, hin]
    exact ⟨_, _, _, hrun, hs, slc_new _ _ _ _ _ _ (Nat.le_refl _) (fun hz => by simpa using hz) (by unfold maxLen; omega) hcells.symm⟩

end Go.Proofs.Ytfbkolkkpkonfaa.Eng
