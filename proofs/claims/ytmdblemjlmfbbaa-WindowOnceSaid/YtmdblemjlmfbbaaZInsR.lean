/- The contract of slices.Insert at api.Got, one value. No statement of the seat is proved here. -/
import Derived.Test.YtmdblemjlmfbbaaZInsR0
import Derived.Test.YtmdblemjlmfbbaaZLitI
namespace Go.Proofs.Ytmdblemjlmfbbaa.Eng
open Go Go.RowKit Go.Lib
set_option linter.unusedVariables false
set_option linter.unusedSimpArgs false

theorem rowsIn_at {m : LMap} {σ : Mem} {rows : List (List Cell)} {vs : Array Value} (h : RowsIn m σ 2 rows vs) {j : Nat} (hj : j < rows.length * 2) : ∃ v, vs[j]? = some v ∧ v.oneCell' = true := by
  have hq : j / 2 < rows.length := by omega
  obtain ⟨g1, g2⟩ := h (j / 2) _ (List.getElem?_eq_getElem hq)
  obtain ⟨v, e1, e2⟩ := g2 (j % 2) _ (List.getElem?_eq_getElem (by rw [g1]; omega))
  refine ⟨v, ?_, e2.oneCell⟩
  rw [← e1]
  congr 1
  omega
theorem rowsIn_size {m : LMap} {σ : Mem} {rows : List (List Cell)} {vs : Array Value} (h : RowsIn m σ 2 rows vs) : rows.length * 2 ≤ vs.size := by
  by_cases h0 : rows.length = 0
  · omega
  · obtain ⟨v, e, _⟩ := rowsIn_at h (j := rows.length * 2 - 1) (by omega)
    have := (Array.getElem?_eq_some_iff.1 e).1
    omega

set_option maxHeartbeats 2000000 in
theorem slices_Insert_Got_mid {H : Heap} {b b' i : Nat} {rows : List (List Cell)} {row : List Cell} (hk : H[b]? = some { sz := 2, rows := rows, own := true, live := true }) (hv : H[b']? = some { sz := 2, rows := [row], own := true, live := true }) (hne : b' ≠ b)
    (hi : i < rows.length) (hbig : rows.length ≤ 1000000) :
    CallSound Try.prog 21 [.c (.slc b 0 rows.length 2 false), iC i, .c (.slc b' 0 1 2 false)] H (.c (.slc H.length 0 (rows.length + 1) 2 false)) ((H.set b { sz := 2, rows := rows, own := true, live := false }) ++ [{ sz := 2, rows := rows.take i ++ [row] ++ rows.drop i, own := true, live := true }]) := by
  refine ⟨⟨_, Try.func21, rfl, rfl⟩, fun B m w vs r ha => ?_⟩
  obtain ⟨vs⟩ := vs
  cases ha with
  | cons a1 ha => cases ha with
  | cons a2 ha => cases ha with
  | cons a3 ha =>
  cases ha
  cases a1 with | c a1 =>
  cases a2 with | c a2 =>
  cases a3 with | c a3 =>
  cases a2
  cases a1 with | slc h1 h2 h3 h4 =>
  rename_i A c
  cases a3 with | slc j1 j2 j3 j4 =>
  rename_i A' c'
  obtain ⟨L, e1, ez, h5⟩ := h4
  obtain ⟨L', e1', ez', h5'⟩ := j4
  obtain ⟨ea, eo⟩ := h5 (by omega)
  obtain ⟨ea', eo'⟩ := h5' (by omega)
  obtain ⟨k, hk', hat⟩ := r.blk b L e1
  rw [hk] at hk'; injection hk' with hk'; subst hk'
  obtain ⟨k, hv', hat'⟩ := r.blk b' L' e1'
  rw [hv] at hv'; injection hv' with hv'; subst hv'
  have ho : L.own = true := by rw [← hat.own]
  have ho' : L'.own = true := by rw [← hat'.own]
  obtain ⟨cur, ct, hg⟩ := hat.row ho rfl
  obtain ⟨va, vt, hgv⟩ := hat'.row ho' rfl
  have hrows : RowsIn m (cellsIn w) 2 rows cur := by have := rowsIn_of r e1 hk ho rfl hg; rw [ez] at this; exact this
  have hrowv : RowsIn m (cellsIn w) 2 [row] va := by have := rowsIn_of r e1' hv ho' rfl hgv; rw [ez'] at this; exact this
  have hA : A = ⟨L.g, 0, none⟩ := by simp [ea, (hat.ours ho).2]
  have hA' : A' = ⟨L'.g, 0, none⟩ := by simp [ea', (hat'.ours ho').2]
  subst hA
  subst hA'
  have hcur : c * 2 = cur.size := by have := eo ho; rw [cellsIn_row hg] at this; simpa using this
  have hgg : L'.g ≠ L.g := fun e => hne (r.inj b' b L' L _ _ e1' e1 ho' ho hv hk rfl rfl e)
  have hsz := rowsIn_size hrows
  have hszv := rowsIn_size hrowv
  simp only [List.length_singleton] at hszv
  have hc63 : c ≤ 9223372036854775807 := by unfold maxLen at h3; omega
  obtain ⟨f, hf⟩ : ∃ f, f = cur.toList.take (i * 2) := ⟨_, rfl⟩
  obtain ⟨s, hs⟩ : ∃ s, s = (cur.toList.drop (i * 2)).take ((rows.length - i) * 2) := ⟨_, rfl⟩
  obtain ⟨v, hvv⟩ : ∃ v, v = va.toList.take 2 := ⟨_, rfl⟩
  have lf : f.length = i * 2 := by rw [hf]; simp; omega
  have ls : s.length = (rows.length - i) * 2 := by rw [hs]; simp; omega
  have lv : v.length = 2 := by rw [hvv]; simp; omega
  have hfc : ∀ (j : Nat) (u : Value), f[j]? = some u → cur[j]? = some u := fun j u h => by
    rw [hf, List.getElem?_take] at h
    split at h
    · simpa using h
    · cases h
  have hsc : ∀ (j : Nat) (u : Value), s[j]? = some u → cur[i * 2 + j]? = some u := fun j u h => by
    rw [hs, List.getElem?_take] at h
    split at h
    · simpa using h
    · cases h
  have hvc : ∀ (j : Nat) (u : Value), v[j]? = some u → va[0 + j]? = some u := fun j u h => by
    rw [hvv, List.getElem?_take] at h
    split at h
    · simpa using h
    · cases h
  have h1s : ∀ u ∈ s, u.oneCell' = true := fun u hu => by
    obtain ⟨j, hj, e⟩ := List.getElem_of_mem hu
    have h := hsc j u (by rw [← e]; exact List.getElem?_eq_getElem hj)
    obtain ⟨v', e1, e2⟩ := rowsIn_at hrows (j := i * 2 + j) (by omega)
    rw [h] at e1; injection e1 with e1; rw [e1]; exact e2
  have h1v : ∀ u ∈ v, u.oneCell' = true := fun u hu => by
    obtain ⟨j, hj, e⟩ := List.getElem_of_mem hu
    have h := hvc j u (by rw [← e]; exact List.getElem?_eq_getElem hj)
    obtain ⟨v', e1, e2⟩ := rowsIn_at hrowv (j := 0 + j) (by simp; omega)
    rw [h] at e1; injection e1 with e1; rw [e1]; exact e2
  have hcl : cur.toList.toArray = cur := by simp
  have hvl : va.toList.toArray = va := by simp
  have p1 : RowsIn m (cellsIn w) 2 (rows.take i) f.toArray := by rw [hf]; exact RowsIn.take (by rw [hcl]; exact hrows) i
  have p3 : RowsIn m (cellsIn w) 2 (rows.drop i) s.toArray := by
    rw [hs]
    have := (RowsIn.drop (vs := cur.toList) (by rw [hcl]; exact hrows) i).take (rows.length - i)
    rw [List.take_of_length_le (by simp)] at this
    exact this
  have p2 : RowsIn m (cellsIn w) 2 [row] v.toArray := by
    rw [hvv]
    exact RowsIn.take (vs := va.toList) (by rw [hvl]; exact hrowv) 1
  have q2 := fun rest => RowsIn.append (rest := rest) p1 (by rw [lf]; simp; omega) p2 (by rw [lv]; rfl)
  have q2' := q2 []
  rw [List.append_nil] at q2'
  have q3 := fun rest => RowsIn.append (rest := rest) q2' (by simp [lf, lv]; omega) p3 (by rw [ls]; simp)
  have sdrop := St.drop r hk
  have hlen1 : (H.set b { sz := 2, rows := rows, own := true, live := false }).length = H.length := by simp
  by_cases hroom : rows.length + 1 ≤ c
  · refine (ins_shift w L.g rows.length c i L'.g 0 c' cur va hg hgv hgg hi hroom hc63 (by omega) (by omega) s v ls lv hsc hvc h1s h1v).mono ?_
    rintro e w' ⟨rfl, rfl⟩
    have sd := St.drew r
    have hgd : w.drew.heap[L.g]? = some (.cells cur ct (0, 0)) := hg
    rw [← hf]
    have hsize : (f ++ v ++ s ++ cur.toList.drop ((rows.length + 1) * 2)).toArray.size = cur.size := by
      simp [lf, lv, ls]; omega
    have st := St.turn sd.rel e1 hk ho rfl hgd _ hsize (k' := { sz := 2, rows := rows, own := true, live := false }) rfl rfl (fun h => by cases h)
    have hg1 := setRow_heap w.drew L.g cur (f ++ v ++ s ++ cur.toList.drop ((rows.length + 1) * 2)).toArray ct (0, 0) hgd
    have hb1 : (H.set b { sz := 2, rows := rows, own := true, live := false })[b]? = some { sz := 2, rows := rows, own := true, live := false } := by simp [r.lt e1]
    have st' := sd.trans r st
    have hrows1 : RowsIn m (cellsIn (w.drew.setRow L.g (f ++ v ++ s ++ cur.toList.drop ((rows.length + 1) * 2)).toArray)) L.sz (rows.take i ++ [row] ++ rows.drop i) (f ++ v ++ s ++ cur.toList.drop ((rows.length + 1) * 2)).toArray := by
      rw [ez]
      exact (q3 _).mono (st'.mle r)
    have had := St.adopt st'.rel (k := { sz := 2, rows := rows.take i ++ [row] ++ rows.drop i, own := true, live := true }) e1 hb1 rfl ho rfl ez.symm hg1 hrows1 (by
      intro b2 L2 q hm2 ho2 hq2 hl2 hgg2
      by_cases hbb : b = b2
      · subst hbb
        rw [hb1] at hq2; injection hq2 with hq2; subst hq2
        cases hl2
      · rw [List.getElem?_set_ne hbb] at hq2
        exact hbb (r.inj b b2 L L2 _ q e1 hm2 ho ho2 hk hq2 rfl hl2 hgg2.symm)) (r.zown b L _ e1 ho hk rfl)
    have sad := st'.adopts had.1 had.2 ⟨b, L, _, e1, ho, rfl, hk, rfl⟩
    refine ⟨_, _, rfl, sad, ?_⟩
    have := slc_new (m := m) (σ' := cellsIn (w.drew.setRow L.g (f ++ v ++ s ++ cur.toList.drop ((rows.length + 1) * 2)).toArray)) L.g (H.set b { sz := 2, rows := rows, own := true, live := false }).length (rows.length + 1) L.sz c false hroom (fun h => by cases h) h3 (by rw [cellsIn_row hg1, hsize, ez, hcur])
    rw [hlen1, ez] at this
    rw [hlen1, ez]
    exact this
  · refine (ins_grow w L.g rows.length c i L'.g 0 c' cur va hg hgv hi h1 (by omega) hc63 (by omega) f s v lf ls lv hfc hsc hvc h1s h1v).mono ?_
    rintro e w' ⟨G, z, hG, hz, rfl, rfl⟩
    have sd1 := St.drew sdrop.rel
    have sd2 := St.drew sd1.rel
    have hrows1 : RowsIn m (cellsIn w.drew.drew) 2 (rows.take i ++ [row] ++ rows.drop i) (f ++ v ++ s ++ z).toArray := q3 z
    have sn := St.new sd2.rel 27 { sz := 2, rows := rows.take i ++ [row] ++ rows.drop i, own := true, live := true } _ rfl hrows1
    have hge := grownCap_ge w (rows.length + 1) c 27
    rw [← hG] at hge
    have hcells : cellsIn (w.drew.drew.alloc (.cells (f ++ v ++ s ++ z).toArray 27)) w.heap.size = G * 2 := by
      show cellsIn _ w.drew.drew.heap.size = _
      rw [cellsIn_row (heap_alloc_new w.drew.drew _)]
      simp [lf, lv, ls, hz]; omega
    have hmx := grownCap_le_maxLen w (rows.length + 1) c 27 (by unfold maxLen; omega)
    rw [← hG] at hmx
    refine ⟨_, _, rfl, sdrop.trans r (sd1.trans sdrop.rel (sd2.trans sd1.rel sn)), ?_⟩
    have := slc_new (m := m) (σ' := cellsIn (w.drew.drew.alloc (.cells (f ++ v ++ s ++ z).toArray 27))) w.heap.size (H.set b { sz := 2, rows := rows, own := true, live := false }).length (rows.length + 1) 2 G false hge (fun h => by cases h) hmx hcells.symm
    rw [hlen1] at this
    rw [hlen1]
    exact this

end Go.Proofs.Ytmdblemjlmfbbaa.Eng
