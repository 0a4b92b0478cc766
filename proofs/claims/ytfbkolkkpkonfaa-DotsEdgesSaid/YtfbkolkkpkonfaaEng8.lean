/- The engine, part 8: append: slim and machine. No statement of the seat is proved here. -/
import Derived.Test.YtfbkolkkpkonfaaEng7
namespace Go.Proofs.Ytfbkolkkpkonfaa.Eng
open Go
set_option linter.unusedVariables false
set_option linter.unusedSimpArgs false

variable {P : Program} {B : Nat} {m : LMap} {H : Heap} {w : World}

theorem loadCells_zero (a : Addr) (w : World) : (loadCells a 0).run P w = .ok #[] w := by simp [loadCells, loadCellsFrom]

/-- What an append takes its elements from. -/
theorem source_sound (r : Rel B m H w) {y : Cell} {vy : Value} (hy : VR m (cellsIn w) y vy) {sz : Nat} (h0 : 0 < sz) (hf : fitsSz sz y = true) {new : List (List Cell)} (hn : H.rowsOf y = some new) :
    ∃ news : List Value, news.length = new.length * sz ∧ RowsIn m (cellsIn w) sz new news.toArray ∧ (∀ u ∈ news, u.oneCell' = true) ∧ (Builtin.lenOf vy).run P w = .ok new.length w ∧
      (∀ w', w'.heap = w.heap → (Builtin.firstCells sz new.length vy).run P w' = .ok news.toArray w') := by
  have none_ : new = [] → (∃ base, vy = .slice base 0 0) → ∃ news : List Value, news.length = new.length * sz ∧ RowsIn m (cellsIn w) sz new news.toArray ∧ (∀ u ∈ news, u.oneCell' = true) ∧ (Builtin.lenOf vy).run P w = .ok new.length w ∧
      (∀ w', w'.heap = w.heap → (Builtin.firstCells sz new.length vy).run P w' = .ok news.toArray w') := by
    rintro rfl ⟨base, rfl⟩
    refine ⟨[], by simp, (fun i r e => by simp at e), by simp, by simp [Builtin.lenOf], fun w' _ => ?_⟩
    cases base <;> simp [Builtin.firstCells, loadCells_zero]
  have mem : ∀ (A : Addr) (c n : Nat), new.length = n → (∀ (i : Nat) q, new[i]? = some q → q.length = sz ∧ ∀ (f : Nat) x, q[f]? = some x → ∃ v, w.cell? (A.add (i * sz + f)) = some v ∧ VR m (cellsIn w) x v) → vy = .slice (some A) n c →
      ∃ news : List Value, news.length = new.length * sz ∧ RowsIn m (cellsIn w) sz new news.toArray ∧ (∀ u ∈ news, u.oneCell' = true) ∧ (Builtin.lenOf vy).run P w = .ok new.length w ∧
      (∀ w', w'.heap = w.heap → (Builtin.firstCells sz new.length vy).run P w' = .ok news.toArray w') := by
    rintro A c n hlen hrow rfl
    have hcell : ∀ j, j < n * sz → ∃ v, w.cell? (A.add j) = some v ∧ v.oneCell' = true := by
      intro j hj
      have hi : j / sz < n := Nat.div_lt_of_lt_mul (by rw [Nat.mul_comm]; exact hj)
      obtain ⟨g1, g2⟩ := hrow (j / sz) _ (List.getElem?_eq_getElem (by omega))
      have hfm : j % sz < sz := Nat.mod_lt _ h0
      obtain ⟨v, k1, k2⟩ := g2 (j % sz) _ (List.getElem?_eq_getElem (by rw [g1]; exact hfm))
      refine ⟨v, ?_, k2.oneCell⟩
      rw [← k1]
      congr 2
      have := Nat.div_add_mod j sz
      rw [Nat.mul_comm] at this
      omega
    refine ⟨(List.range (n * sz)).map fun j => (w.cell? (A.add j)).getD undef, by rw [List.length_map, List.length_range, hlen], ?_, ?_, by simp only [Builtin.lenOf, Sem.run_pure, hlen], ?_⟩
    · intro i q e
      obtain ⟨g1, g2⟩ := hrow i q e
      have hi : i < n := by have := (List.getElem?_eq_some_iff.1 e).1; omega
      refine ⟨g1, fun f c' ef => ?_⟩
      obtain ⟨v, k1, k2⟩ := g2 f c' ef
      refine ⟨v, ?_, k2⟩
      have hfs : f < sz := by have := (List.getElem?_eq_some_iff.1 ef).1; omega
      have hlt := mul_row_lt hi hfs
      simp [hlt, k1]
    · intro u hu
      simp at hu
      obtain ⟨j, hj, rfl⟩ := hu
      obtain ⟨v, k1, k2⟩ := hcell j hj
      simp [k1, k2]
    · intro w' hw'
      rw [hlen]
      have hc' : ∀ a, w'.cell? a = w.cell? a := fun a => by simp [World.cell?, hw']
      refine run_firstCells_some (P := P) w' sz n A n c _ (by simp) (fun j v hj => ?_)
      have hj' : j < n * sz := by have := (List.getElem?_eq_some_iff.1 hj).1; simpa using this
      obtain ⟨v', k1, _⟩ := hcell j hj'
      rw [hc', k1]
      simp [hj', k1] at hj
      rw [hj]
  cases hy with
  | nilS =>
    simp [Heap.rowsOf] at hn
    exact none_ hn ⟨_, rfl⟩
  | zerN =>
    simp [Heap.rowsOf] at hn
    exact none_ hn ⟨_, rfl⟩
  | zerS =>
    simp [Heap.rowsOf] at hn
    exact none_ hn ⟨_, rfl⟩
  | emp hc =>
    rename_i sz' A c
    simp [Heap.rowsOf] at hn
    subst hn
    exact mem A c 0 rfl (fun i q e => by simp at e) rfl
  | lstN =>
    simp [Heap.rowsOf] at hn
    exact none_ hn ⟨_, rfl⟩
  | lst g1 g2 g3 g4 g5 g6 =>
    rename_i sz' A c g o rows vs
    have hsz : sz' = sz := by simpa [fitsSz] using hf
    subst hsz
    simp [Heap.rowsOf] at hn
    subst hn
    refine mem A c _ rfl (fun i q e => ⟨g4 i q e, fun f x ef => ?_⟩) rfl
    have ha := (g3 (by intro h; subst h; simp at e)).1
    refine ⟨vs i f, ?_, g6 i q f x e ef⟩
    rw [ha, addr_add, ← Nat.add_assoc]
    exact g5 i q f x e ef
  | str s =>
    simp [Heap.rowsOf] at hn
    subst hn
    have hs1 : sz = 1 := by simpa [fitsSz] using hf
    subst hs1
    refine ⟨s.data.toList.map fun b => .int .u8 (b.toNat : Int), by simp [bytesOf], ?_, ?_, by simp [Builtin.lenOf, bytesOf], ?_⟩
    · intro i r e
      simp only [bytesOf, List.map_map, List.getElem?_map] at e
      cases hb : s.data.toList[i]? with
      | none => rw [hb] at e; cases e
      | some b =>
        rw [hb] at e
        simp at e
        subst e
        refine ⟨rfl, fun f c ef => ?_⟩
        cases f with
        | succ f => simp at ef
        | zero =>
          simp at ef
          subst ef
          exact ⟨.int .u8 (b.toNat : Int), by simp only [Nat.mul_one, Nat.add_zero, List.getElem?_toArray, List.getElem?_map, hb, Option.map_some], .int _ _⟩
    · intro u hu
      simp at hu
      obtain ⟨b, _, rfl⟩ := hu
      rfl
    · intro w' _
      have hl : ((bytesOf s).map fun c => [c]).length = s.size := by simp [bytesOf]
      rw [hl]
      simp only [Builtin.firstCells, Sem.run_pure]
      congr 1
      have hx : (s.extract 0 s.size).data = s.data := by
        rw [ByteArray.data_extract]
        exact Array.extract_size
      rw [hx]
      apply Array.ext'
      simp
  | slc h1 h2 h3 h4 =>
    rename_i b s n sz' z A c
    have hsz : sz' = sz := by simpa [fitsSz] using hf
    subst hsz
    simp only [Heap.rowsOf] at hn
    by_cases hn0 : n = 0
    · rw [if_pos hn0] at hn
      injection hn with hn
      subst hn
      subst hn0
      exact ⟨[], by simp, (fun i r e => by simp at e), by simp, by simp [Builtin.lenOf], fun w' _ => by simp [Builtin.firstCells, loadCells_zero]⟩
    · rw [if_neg hn0] at hn
      obtain ⟨L, e1, ez, h5⟩ := h4
      obtain ⟨ea, eo⟩ := h5 (by omega)
      cases hk : H[b]? with
      | none => simp [hk] at hn
      | some k =>
        simp only [hk] at hn
        split at hn
        · rename_i hc
          obtain ⟨hl, hle⟩ := hc
          injection hn with hn
          subst hn
          obtain ⟨k', hk', hat⟩ := r.blk b L e1
          rw [hk] at hk'; injection hk' with hk'; subst hk'
          refine mem A c n (by simp; omega) (fun i q e => ?_) rfl
          rw [List.getElem?_take] at e
          split at e
          · rw [List.getElem?_drop] at e
            obtain ⟨g1, g2⟩ := hat.rows hl _ q e
            refine ⟨g1.trans ez, fun f x ef => ?_⟩
            obtain ⟨v, k1, k2⟩ := g2 f x ef
            refine ⟨v, ?_, k2⟩
            rw [ea, addr_add, ← k1]
            congr 2
            rw [ez, Nat.add_mul]
            omega
          · cases e
        · cases hn
  | _ => simp [Heap.rowsOf] at hn

theorem notInt {e : TypeId} {d : TypeDesc} (h : srcOk e d = true) : (match d with | .int _ => true | _ => false) = false := by
  cases d <;> simp [srcOk] at h ⊢

/-- There is room: the new elements are written behind the old ones. -/
theorem run_app_room (w : World) {t u ty e : TypeId} {i : TypeInfo} {d : TypeDesc} (ht : P.underlying t = some (.slice e)) (hu : P.underlying u = some d) (hd : srcOk e d = true) (hi : P.info? e = some i)
    (g sLen sCap n : Nat) (cur : Array Value) {ct : TypeId} (hg : w.heap[g]? = some (.cells cur ct (0, 0))) (vy : Value) (news : List Value) (hl : (Builtin.lenOf vy).run P w = .ok n w) (hf : (Builtin.firstCells i.size n vy).run P w = .ok news.toArray w) (h1 : ∀ u ∈ news, u.oneCell' = true)
    (hroom : sLen + n ≤ sCap) (hfit : sLen * i.size + news.length ≤ cur.size) :
    (Builtin.append_ #[t, u] ty #[.slice (some ⟨g, 0, none⟩) sLen sCap, vy]).run P w =
      .ok (.slice (some ⟨g, 0, none⟩) (sLen + n) sCap) (w.setRow g (cur.toList.take (sLen * i.size) ++ news ++ cur.toList.drop (sLen * i.size + news.length)).toArray) := by
  have hst := run_storeCells_at P g (sLen * i.size) ct news 0 cur w hg (by simpa using hfit) h1
  simp only [Nat.add_zero] at hst
  have hz := notInt hd
  cases d <;> simp [srcOk] at hd <;>
    simp [Builtin.append_, run_underlying ht, run_underlying hu, sizeOf, typeInfo, hi, hl, hroom, hf, addr_add, hst]

theorem run_app_grow (w : World) {t u ty e : TypeId} {i : TypeInfo} {d : TypeDesc} {z : Value} (ht : P.underlying t = some (.slice e)) (hu : P.underlying u = some d) (hd : srcOk e d = true) (hi : P.info? e = some i) (hz : i.zero = some z)
    (base : Option Addr) (sLen sCap n : Nat) (olds news : List Value) (vy : Value) (hfo : (Builtin.firstCells i.size sLen (.slice base sLen sCap)).run P w.drew = .ok olds.toArray w.drew)
    (hl : (Builtin.lenOf vy).run P w = .ok n w) (hf : (Builtin.firstCells i.size n vy).run P w.drew = .ok news.toArray w.drew)
    (hg : sCap < sLen + n) (h63 : ((sLen + n : Nat) : Int) ≤ 9223372036854775807) (hfit : Builtin.nextslicecap (sLen + n) sCap * i.bytes ≤ 281474976710656) :
    (Builtin.append_ #[t, u] ty #[.slice base sLen sCap, vy]).run P w =
      .ok (.slice (some ⟨w.heap.size, 0, none⟩) (sLen + n) (grownCap w (sLen + n) sCap e))
        (w.drew.alloc (.cells (olds.toArray ++ news.toArray ++ Builtin.zeroCells z.cells (grownCap w (sLen + n) sCap e - (sLen + n))) e)) := by
  have hn : ¬ (sLen + n ≤ sCap) := by omega
  have h63' : ¬ (9223372036854775807 < ((sLen : Int) + (n : Int))) := by omega
  have h48' : ¬ (281474976710656 < Builtin.nextslicecap (sLen + n) sCap * i.bytes) := by omega
  cases d <;> simp [srcOk] at hd <;>
    (simp [Builtin.append_, run_underlying ht, run_underlying hu, sizeOf, typeInfo, zeroValue, hi, hz, hl, hn, h63', h48', Question.forced, hf, hfo, newRow, grownCap]
     congr 2
     apply Array.ext'
     simp [List.append_assoc])

theorem run_app_none (w : World) {t u ty e : TypeId} {i : TypeInfo} {d : TypeDesc} (ht : P.underlying t = some (.slice e)) (hu : P.underlying u = some d) (hd : srcOk e d = true) (hi : P.info? e = some i)
    (base : Option Addr) (sLen sCap : Nat) (hle : sLen ≤ sCap) (vy : Value) (hl : (Builtin.lenOf vy).run P w = .ok 0 w) (hf : (Builtin.firstCells i.size 0 vy).run P w = .ok #[] w) :
    (Builtin.append_ #[t, u] ty #[.slice base sLen sCap, vy]).run P w = .ok (.slice base sLen sCap) w := by
  cases d <;> simp [srcOk] at hd <;> cases base <;>
    simp [Builtin.append_, run_underlying ht, run_underlying hu, sizeOf, typeInfo, hi, hl, hf, hle, storeCells]

theorem RowsIn.append {σ : Mem} {sz : Nat} {rows new : List (List Cell)} {olds news rest : List Value} (h : RowsIn m σ sz rows olds.toArray) (hl : olds.length = rows.length * sz) (k : RowsIn m σ sz new news.toArray) (hk : news.length = new.length * sz) :
    RowsIn m σ sz (rows ++ new) (olds ++ news ++ rest).toArray := by
  intro i r e
  by_cases hi : i < rows.length
  · rw [List.getElem?_append_left hi] at e
    obtain ⟨g1, g2⟩ := h i r e
    refine ⟨g1, fun f c ef => ?_⟩
    obtain ⟨v, e1, e2⟩ := g2 f c ef
    refine ⟨v, ?_, e2⟩
    have hf : f < sz := by rw [← g1]; exact (List.getElem?_eq_some_iff.1 ef).1
    have := mul_row_lt hi hf
    simp only [List.getElem?_toArray] at e1 ⊢
    rw [List.append_assoc, List.getElem?_append_left (by omega)]
    exact e1
  · rw [List.getElem?_append_right (by omega)] at e
    obtain ⟨g1, g2⟩ := k _ r e
    refine ⟨g1, fun f c ef => ?_⟩
    obtain ⟨v, e1, e2⟩ := g2 f c ef
    refine ⟨v, ?_, e2⟩
    have hf : f < sz := by rw [← g1]; exact (List.getElem?_eq_some_iff.1 ef).1
    have hj : i - rows.length < new.length := (List.getElem?_eq_some_iff.1 e).1
    have hlt := mul_row_lt hj hf
    simp only [List.getElem?_toArray] at e1 ⊢
    have hsub : i * sz + f - olds.length = (i - rows.length) * sz + f := by
      rw [hl, Nat.sub_mul]
      have : rows.length * sz ≤ i * sz := Nat.mul_le_mul_right sz (by omega)
      omega
    have hge : olds.length ≤ i * sz + f := by
      rw [hl]
      have : rows.length * sz ≤ i * sz := Nat.mul_le_mul_right sz (by omega)
      omega
    rw [List.append_assoc, List.getElem?_append_right hge, hsub, List.getElem?_append_left (by omega)]
    exact e1

theorem RowsIn.take {σ : Mem} {sz : Nat} {rows : List (List Cell)} {vs : List Value} (h : RowsIn m σ sz rows vs.toArray) (n : Nat) : RowsIn m σ sz (rows.take n) (vs.take (n * sz)).toArray := by
  intro i r e
  rw [List.getElem?_take] at e
  split at e
  · rename_i hi
    obtain ⟨g1, g2⟩ := h i r e
    refine ⟨g1, fun f c ef => ?_⟩
    obtain ⟨v, e1, e2⟩ := g2 f c ef
    refine ⟨v, ?_, e2⟩
    have hf : f < sz := by rw [← g1]; exact (List.getElem?_eq_some_iff.1 ef).1
    have := mul_row_lt hi hf
    simp only [List.getElem?_toArray] at e1 ⊢
    rw [List.getElem?_take, if_pos this]
    exact e1
  · cases e

theorem St.adopts {B H m w H1 w1} (s : St B H m w H1 m w1) {g sz : Nat} {k : Blk} (hr : Rel B (addLoc m H1.length ⟨g, 0, sz, true⟩) (H1 ++ [k]) w1) (hext : ∀ b L, m b = some L → addLoc m H1.length ⟨g, 0, sz, true⟩ b = some L) (hi : ownImg m H g) :
    St B H m w (H1 ++ [k]) (addLoc m H1.length ⟨g, 0, sz, true⟩) w1 where
  ext := hext
  dom := fun b L h h' => by
    by_cases e : b = H1.length
    · subst e; exact s.hle.len
    · rw [addLoc_ne e, h] at h'; cases h'
  rel := hr
  frame := s.frame
  fresh := fun b L h h' => by
    by_cases e : b = H1.length
    · subst e
      rw [addLoc_same] at h'
      injection h' with h'
      subst h'
      exact .inr hi
    · rw [addLoc_ne e, h] at h'; cases h'
  size := s.size
  szs := s.szs
  os := s.os
  tape := s.tape
  output := s.output
  hle := s.hle.trans (HLe.append _ _)
  zext := s.zext
  zfresh := s.zfresh
  drawn := s.drawn

theorem app_sound (r : Rel B m H w) {t u ty e : TypeId} {d : TypeDesc} {sz by_ : Nat} {z : List Cell} (ht : P.underlying t = some (.slice e)) (hu : P.underlying u = some d) (hd : srcOk e d = true) (hn : sizeT P e = some sz) (hb : bytesT P e = some by_) (hz : zeroT P e = some z)
    (h0 : 0 < sz) (hb0 : 0 < by_) (hzl : z.length = sz) {x y : Cell} {vx vy : Value} (hx : VR m (cellsIn w) x vx) (hy : VR m (cellsIn w) y vy) {v : AVal} {H' : Heap} (h : evApp H sz by_ x y = some (v, H')) :
    ∃ w' m' u', (Builtin.append_ #[t, u] ty #[vx, vy]).run P w = .ok u' w' ∧ St B H m w H' m' w' ∧ VRA m' (cellsIn w') v u' := by
  obtain ⟨i, hi, hin⟩ := sizeT_info hn
  unfold bytesT at hb
  simp [hi] at hb
  unfold zeroT at hz
  cases hzv : i.zero with
  | none => simp [hi, hzv] at hz
  | some zv =>
    simp [hi, hzv] at hz
    have hzs : zv.cells.size = sz := by have := (cellsOf_sound (m := m) (σ := cellsIn w) hz).length; simp at this; omega
    unfold evApp at h
    cases hnew : H.rowsOf y with
    | none => simp [hnew] at h
    | some new =>
      simp only [hnew] at h
      split at h
      case isFalse => cases h
      case isTrue hfit =>
        obtain ⟨news, n1, n2, n3, n4, n5⟩ := source_sound (P := P) r hy h0 hfit hnew
        -- the new row, whatever it continues
        have grown : ∀ (H1 : Heap) (r1 : Rel B m H1 w) (s1 : St B H m w H1 m w) (base : Option Addr) (n c : Nat) (rows : List (List Cell)) (olds : List Value), vx = .slice base n c → c < n + new.length → (n + new.length) * by_ ≤ 140737488355328 → rows.length = n →
            olds.length = n * sz → RowsIn m (cellsIn w) sz rows olds.toArray → (Builtin.firstCells sz n (.slice base n c)).run P w.drew = .ok olds.toArray w.drew →
            ∃ w' m' u', (Builtin.append_ #[t, u] ty #[vx, vy]).run P w = .ok u' w' ∧ St B H m w (H1 ++ [{ sz := sz, rows := rows ++ new }]) m' w' ∧ VRA m' (cellsIn w') (.c (.slc H1.length 0 (n + new.length) sz false)) u' := by
          intro H1 r1 s1 base n c rows olds hvx hlt hbytes hrl hol hor hfo
          subst hvx
          have hsmall : n + new.length ≤ 140737488355328 := Nat.le_trans (Nat.le_mul_of_pos_right _ hb0) hbytes
          have hrun := run_app_grow (P := P) w ht hu hd hi hzv (ty := ty) base n c new.length olds news vy (by rw [hin]; exact hfo) n4 (by rw [hin]; exact n5 w.drew rfl) hlt (by omega) (growslice_fits hlt (by rw [hb]; exact hbytes))
          have sd := St.drew r1
          have hrows : RowsIn m (cellsIn w.drew) sz (rows ++ new) (olds.toArray ++ news.toArray ++ Builtin.zeroCells zv.cells (grownCap w (n + new.length) c e - (n + new.length))) := by
            have := RowsIn.append (rest := (Builtin.zeroCells zv.cells (grownCap w (n + new.length) c e - (n + new.length))).toList) hor (by rw [hol, hrl]) n2 n1
            have heq : (olds ++ news ++ (Builtin.zeroCells zv.cells (grownCap w (n + new.length) c e - (n + new.length))).toList).toArray = olds.toArray ++ news.toArray ++ Builtin.zeroCells zv.cells (grownCap w (n + new.length) c e - (n + new.length)) := by
              apply Array.ext'; simp
            rw [heq] at this
            exact this
          have sn := St.new sd.rel e { sz := sz, rows := rows ++ new } _ rfl hrows
          have hge := grownCap_ge w (n + new.length) c e
          have hcells : cellsIn (w.drew.alloc (.cells (olds.toArray ++ news.toArray ++ Builtin.zeroCells zv.cells (grownCap w (n + new.length) c e - (n + new.length))) e)) w.heap.size = grownCap w (n + new.length) c e * sz := by
            show cellsIn _ w.drew.heap.size = _
            rw [cellsIn_row (heap_alloc_new w.drew _)]
            simp only [Array.size_append, List.size_toArray, size_zeroCells, hzs, hol, n1, ← Nat.add_mul]
            congr 1
            omega
          refine ⟨_, _, _, hrun, (s1.trans r (sd.trans r1 sn)), slc_new _ _ _ _ _ _ hge (fun h => by cases h) ?_ hcells.symm⟩
          exact grownCap_le_maxLen w _ c e (by unfold maxLen; omega)
        have hnil : (∀ n c base, vx = .slice base n c → n ≤ c → new.length = 0 → (Builtin.append_ #[t, u] ty #[vx, vy]).run P w = .ok vx w) := by
          intro n c base hvx hle hn0
          subst hvx
          have hnews : news = [] := List.eq_nil_of_length_eq_zero (by rw [n1, hn0]; simp)
          subst hnews
          rw [hn0] at n4 n5
          exact run_app_none w ht hu hd hi base n c hle vy n4 (by rw [hin]; exact n5 w rfl)
        have hnewpos : new.length ≠ 0 → 0 < new.length := fun h => by omega
        cases hx with
        | nilS =>
          simp only at h
          split at h
          · rename_i hn0
            injection h with h
            injection h with hv hh
            subst hv; subst hh
            exact ⟨w, m, _, hnil 0 0 none rfl (Nat.le_refl _) hn0, St.refl r, .c .nilS⟩
          · rename_i hn0
            split at h
            · rename_i hbytes
              injection h with h
              injection h with hv hh
              subst hv; subst hh
              have := grown H r (St.refl r) none 0 0 [] [] rfl (by omega) (by rw [Nat.zero_add]; exact hbytes) rfl (by simp) (fun i r e => by simp at e) (by simp [Builtin.firstCells])
              simpa using this
            · cases h
        | zerN =>
          simp only at h
          split at h
          · rename_i hn0
            injection h with h
            injection h with hv hh
            subst hv; subst hh
            exact ⟨w, m, _, hnil 0 0 _ rfl (Nat.le_refl _) hn0, St.refl r, .c .zerN⟩
          · rename_i hn0
            split at h
            · rename_i hbytes
              injection h with h
              injection h with hv hh
              subst hv; subst hh
              have := grown H r (St.refl r) _ 0 0 [] [] rfl (by omega) (by rw [Nat.zero_add]; exact hbytes) rfl (by simp) (fun i r e => by simp at e) (by simp [Builtin.firstCells, loadCells_zero])
              simpa using this
            · cases h
        | zerS =>
          simp only at h
          split at h
          · rename_i hn0
            injection h with h
            injection h with hv hh
            subst hv; subst hh
            exact ⟨w, m, _, hnil 0 0 _ rfl (Nat.le_refl _) hn0, St.refl r, .c .zerS⟩
          · rename_i hn0
            split at h
            · rename_i hbytes
              injection h with h
              injection h with hv hh
              subst hv; subst hh
              have := grown H r (St.refl r) _ 0 0 [] [] rfl (by omega) (by rw [Nat.zero_add]; exact hbytes) rfl (by simp) (fun i r e => by simp at e) (by simp [Builtin.firstCells, loadCells_zero])
              simpa using this
            · cases h
        | emp hcc =>
          simp only at h
          split at h <;> try (cases h; done)
          rename_i hn0
          injection h with h
          injection h with hv hh
          subst hv; subst hh
          exact ⟨w, m, _, hnil _ _ _ rfl (Nat.zero_le _) hn0, St.refl r, .c (.emp hcc)⟩
        | lstN =>
          simp only at h
          split at h <;> try (cases h; done)
          rename_i hn0
          injection h with h
          injection h with hv hh
          subst hv; subst hh
          exact ⟨w, m, _, hnil 0 0 _ rfl (Nat.le_refl _) hn0, St.refl r, .c .lstN⟩
        | lst g1 g2 g3 g4 g5 g6 =>
          simp only at h
          split at h <;> try (cases h; done)
          rename_i hn0
          injection h with h
          injection h with hv hh
          subst hv; subst hh
          exact ⟨w, m, _, hnil _ _ _ rfl g1 hn0, St.refl r, .c (.lst g1 g2 g3 g4 g5 g6)⟩
        | slc h1 h2 h3 h4 =>
          rename_i b s n sz' zz A c
          simp only at h
          split at h
          · rename_i hn0
            injection h with h
            injection h with hv hh
            subst hv; subst hh
            exact ⟨w, m, _, hnil n c (some A) rfl h1 hn0, St.refl r, .c (.slc h1 h2 h3 h4)⟩
          · rename_i hn0
            split at h
            case isFalse => cases h
            case isTrue hc =>
              obtain ⟨hszz, hbytes⟩ := hc
              subst hszz
              split at h
              · rename_i hzz
                split at h
                · rename_i hn00
                  subst hn00
                  injection h with h
                  injection h with hv hh
                  subst hv; subst hh
                  have hc0 := h2 hzz
                  subst hc0
                  have := grown H r (St.refl r) (some A) 0 0 [] [] rfl (by omega) hbytes rfl (by simp) (fun i r e => by simp at e) (by simp [Builtin.firstCells, loadCells_zero])
                  simpa using this
                · cases h
              · rename_i hzz
                cases hk : H[b]? with
                | none => simp [hk] at h
                | some k =>
                  simp only [hk] at h
                  split at h
                  case isFalse => cases h
                  case isTrue hcond =>
                    obtain ⟨hown, hlive, hs0, hnle⟩ := hcond
                    subst hs0
                    injection h with h
                    injection h with hv hh
                    subst hv; subst hh
                    have sdrop := St.drop r hk
                    have hlen1 : (H.set b { k with live := false }).length = H.length := by simp
                    by_cases hc0 : c = 0
                    · subst hc0
                      have hn00 : n = 0 := by omega
                      subst hn00
                      have := grown _ sdrop.rel sdrop (some A) 0 0 [] [] rfl (by omega) hbytes rfl (by simp) (fun i r e => by simp at e) (by simp [Builtin.firstCells, loadCells_zero])
                      simp only [hlen1] at this
                      simpa using this
                    · obtain ⟨L, e1, ez, h5⟩ := h4
                      obtain ⟨ea, eo⟩ := h5 hc0
                      obtain ⟨k', hk', hat⟩ := r.blk b L e1
                      rw [hk] at hk'; injection hk' with hk'; subst hk'
                      have ho : L.own = true := by rw [← hat.own]; exact hown
                      obtain ⟨cur, ct, hg⟩ := hat.row ho hlive
                      have hLo : L.o = 0 := (hat.ours ho).2
                      have hrows := rowsIn_of r e1 hk ho hlive hg
                      rw [ez] at hrows
                      have hA : A = ⟨L.g, 0, none⟩ := by rw [ea, hLo]; simp
                      subst hA
                      have hcap : c * sz' = cur.size := by have := eo ho; rw [cellsIn_row hg] at this; simpa using this
                      have hnc : n * sz' ≤ cur.size := by rw [← hcap]; exact Nat.mul_le_mul_right _ h1
                      have hol : (cur.toList.take (n * sz')).length = n * sz' := by simp; omega
                      have hor : RowsIn m (cellsIn w) sz' (k.rows.take n) (cur.toList.take (n * sz')).toArray := RowsIn.take (by simpa using hrows) n
                      by_cases hroom : n + new.length ≤ c
                      · have hfit2 : n * i.size + news.length ≤ cur.size := by
                          rw [hin, n1, ← Nat.add_mul, ← hcap]
                          exact Nat.mul_le_mul_right _ hroom
                        have hrun := run_app_room (P := P) w (ty := ty) ht hu hd hi L.g n c new.length cur hg vy news n4 (by rw [hin]; exact n5 w rfl) n3 hroom hfit2
                        rw [hin] at hrun hfit2
                        have hsize : (cur.toList.take (n * sz') ++ news ++ cur.toList.drop (n * sz' + news.length)).toArray.size = cur.size := by
                          simp only [List.size_toArray, List.length_append, List.length_take, List.length_drop, Array.length_toList]
                          omega
                        have st := St.turn r e1 hk ho hlive hg _ hsize (k' := { k with live := false }) rfl rfl (fun h => by cases h)
                        have hg1 := setRow_heap w L.g cur (cur.toList.take (n * sz') ++ news ++ cur.toList.drop (n * sz' + news.length)).toArray ct (0, 0) hg
                        have hb1 : (H.set b { k with live := false })[b]? = some { k with live := false } := by simp [r.lt e1]
                        have hrows1 : RowsIn m (cellsIn (w.setRow L.g (cur.toList.take (n * sz') ++ news ++ cur.toList.drop (n * sz' + news.length)).toArray)) L.sz (k.rows.take n ++ new) (cur.toList.take (n * sz') ++ news ++ cur.toList.drop (n * sz' + news.length)).toArray := by
                          rw [ez]
                          exact (RowsIn.append hor (by rw [hol, List.length_take, Nat.min_eq_left hnle]) n2 n1).mono (st.mle r)
                        have had := St.adopt st.rel (k := { sz := sz', rows := k.rows.take n ++ new }) e1 hb1 rfl ho rfl ez.symm hg1 hrows1 (by
                          intro b' L' q' hm' ho' hq' hl' hgg
                          by_cases hbb : b = b'
                          · subst hbb
                            rw [hb1] at hq'; injection hq' with hq'; subst hq'
                            cases hl'
                          · rw [List.getElem?_set_ne hbb] at hq'
                            exact hbb (r.inj b b' L L' k q' e1 hm' ho ho' hk hq' hlive hl' hgg.symm)) (r.zown b L k e1 ho hk hlive)
                        have sad := st.adopts had.1 had.2 ⟨b, L, k, e1, ho, rfl, hk, hlive⟩
                        refine ⟨_, _, _, hrun, sad, ?_⟩
                        have := slc_new (m := m) (σ' := cellsIn (w.setRow L.g (cur.toList.take (n * sz') ++ news ++ cur.toList.drop (n * sz' + news.length)).toArray)) L.g (H.set b { k with live := false }).length (n + new.length) L.sz c false hroom (fun h => by cases h) h3 (by rw [cellsIn_row hg1, hsize, ez, hcap])
                        rw [hlen1, ez] at this
                        rw [hlen1, ez]
                        exact this
                      · have := grown _ sdrop.rel sdrop (some ⟨L.g, 0, none⟩) n c (k.rows.take n) (cur.toList.take (n * sz')) rfl (by omega) hbytes (by simp; omega) hol hor (by
                          refine run_firstCells_some (P := P) w.drew sz' n ⟨L.g, 0, none⟩ n c _ hol (fun j v hj => ?_)
                          rw [addr_add, Nat.zero_add, World.cell?_drew, cell_of_row _ _ _ _ _ _ hg]
                          rw [List.getElem?_take] at hj
                          split at hj
                          · simpa using hj
                          · cases hj)
                        simp only [hlen1] at this
                        simpa using this
        | _ => simp only at h; cases h

/-- Noughts behind nil. -/
theorem appM_sound (r : Rel B m H w) {t u ty e : TypeId} {k : IntKind} {sz by_ : Nat} {z : List Cell} (ht : P.underlying t = some (.slice e)) (hu : P.underlying u = some (.int k)) (hn : sizeT P e = some sz) (hb : bytesT P e = some by_) (hz : zeroT P e = some z)
    (h0 : 0 < sz) (hb0 : 0 < by_) (hzl : z.length = sz) {k' : IntKind} {l : Int} (hl0 : 0 < l) (hl1 : l ≤ 9223372036854775807) (hl2 : l * by_ ≤ 140737488355328) :
    ∃ w' m' u', (Builtin.append_ #[t, u] ty #[.slice none 0 0, .int k' l]).run P w = .ok u' w' ∧ St B H m w (H ++ [{ sz := sz, rows := List.replicate l.toNat z }]) m' w' ∧ VRA m' (cellsIn w') (.c (.slc H.length 0 l.toNat sz false)) u' := by
  obtain ⟨i, hi, hin⟩ := sizeT_info hn
  unfold bytesT at hb
  simp [hi] at hb
  unfold zeroT at hz
  cases hzv : i.zero with
  | none => simp [hi, hzv] at hz
  | some zv =>
    simp [hi, hzv] at hz
    have hzs : All2 (VR m (cellsIn w)) z zv.cells.toList := cellsOf_sound hz
    have hzsz : zv.cells.size = sz := by have := hzs.length; simp at this; omega
    have hw : IntKind.i64.wrap l = l := by
      unfold IntKind.wrap
      simp [IntKind.bits, IntKind.signed, IntKind.min, IntKind.max]
      omega
    have hbytes : l.toNat * by_ ≤ 140737488355328 := by
      have h1 : ((l.toNat * by_ : Nat) : Int) = l * by_ := by rw [Int.natCast_mul, Int.toNat_of_nonneg (by omega)]
      omega
    have hsmall : l.toNat ≤ 140737488355328 := Nat.le_trans (Nat.le_mul_of_pos_right _ hb0) hbytes
    have hge := grownCap_ge w l.toNat 0 e
    have hfit := growslice_fits (old := 0) (bytes := i.bytes) (show 0 < l.toNat by omega) (by rw [hb]; exact hbytes)
    have h48 : ¬ (281474976710656 < Builtin.nextslicecap l.toNat 0 * i.bytes) := by omega
    have h48' : ¬ (281474976710656 < l * (i.bytes : Int)) := by rw [hb]; omega
    have h63 : ¬ (9223372036854775807 < l) := by omega
    have hpos : ¬ (l < 0) := by omega
    have hne : ¬ (l.toNat = 0) := by omega
    have hle : ¬ (l ≤ 0) := by omega
    have hmax : ¬ (9223372036854775807 < max l 0) := by omega
    have hsz : ¬ (l.toNat * i.size = 0) := by rw [hin]; exact Nat.mul_ne_zero hne (by omega)
    have hrun : (Builtin.append_ #[t, u] ty #[.slice none 0 0, .int k' l]).run P w =
        .ok (.slice (some ⟨w.heap.size, 0, none⟩) l.toNat (grownCap w l.toNat 0 e)) (w.drew.alloc (.cells (Builtin.zeroCells zv.cells l.toNat ++ Builtin.zeroCells zv.cells (grownCap w l.toNat 0 e - l.toNat)) e)) := by
      simp [Builtin.append_, run_underlying ht, run_underlying hu, sizeOf, typeInfo, zeroValue, asInt, asIntOf, hi, hzv, hw, hpos, hle, hmax, h48, h48', h63, hne, hsz, Builtin.firstCells, Question.forced, newRow, grownCap]
    have sd := St.drew r
    have hmade := RowsIn.made hzs l.toNat (by omega)
    rw [hzl] at hmade
    have hrows : RowsIn m (cellsIn w.drew) sz (List.replicate l.toNat z) (Builtin.zeroCells zv.cells l.toNat ++ Builtin.zeroCells zv.cells (grownCap w l.toNat 0 e - l.toNat)) := by
      intro q row eq
      obtain ⟨g1, g2⟩ := hmade q row eq
      refine ⟨g1, fun f c ec => ?_⟩
      obtain ⟨v, e1, e2⟩ := g2 f c ec
      refine ⟨v, ?_, e2⟩
      have hlt : q * sz + f < (Builtin.zeroCells zv.cells l.toNat).size := by
        have hq : q < l.toNat := by have := (List.getElem?_eq_some_iff.1 eq).1; simpa using this
        have hf : f < sz := by rw [← g1]; exact (List.getElem?_eq_some_iff.1 ec).1
        rw [size_zeroCells, hzsz]
        exact mul_row_lt hq hf
      rw [Array.getElem?_append_left hlt]
      unfold Builtin.zeroCells
      rw [hzsz]
      rw [hzsz] at e1
      exact e1
    have sn := St.new sd.rel e { sz := sz, rows := List.replicate l.toNat z } _ rfl hrows
    have hcells : cellsIn (w.drew.alloc (.cells (Builtin.zeroCells zv.cells l.toNat ++ Builtin.zeroCells zv.cells (grownCap w l.toNat 0 e - l.toNat)) e)) w.heap.size = grownCap w l.toNat 0 e * sz := by
      show cellsIn _ w.drew.heap.size = _
      rw [cellsIn_row (heap_alloc_new w.drew _)]
      simp only [Array.size_append, size_zeroCells, hzsz, ← Nat.add_mul]
      congr 1
      omega
    exact ⟨_, _, _, hrun, sd.trans r sn, slc_new _ _ _ _ _ _ hge (fun h => by cases h) (grownCap_le_maxLen w _ 0 e (by unfold maxLen; omega)) hcells.symm⟩

end Go.Proofs.Ytfbkolkkpkonfaa.Eng
