/- slices.Insert at api.Got, one value ahead of the end: Go's text walked, where there is room and where there is none. (The numbers of types are those of round r4's seat.) No statement of the seat is proved here. -/
import Derived.Test.YtmdblemjlmfbbaaZPartC
import Derived.Test.YtmdblemjlmfbbaaChecked
import Derived.Shelf.Spec.SlicesInsertGrow
import Derived.WalkKit
import Derived.LaidEql
import Derived.RowKitTokens
import Derived.KernelRfl
namespace Go.Proofs.Ytmdblemjlmfbbaa.Eng
set_option linter.unusedVariables false
set_option linter.unusedSimpArgs false
open Go Go.RowKit Go.Lib

theorem run_cpy2 {P : Program} (w : World) {t u ty e : TypeId} {i : TypeInfo} (ht : P.underlying t = some (.slice e)) (hi : P.info? e = some i) (hsz : i.size = 2) (g o dl dc k sl : Nat) (cur : Array Value) {ct : TypeId} (hg : w.heap[g]? = some (.cells cur ct (0, 0))) (vy : Value) (news : List Value)
    (hl : (Builtin.lenOf vy).run P w = .ok sl w) (hm : Nat.min sl dl = k) (hf : (Builtin.firstCells 2 k vy).run P w = .ok news.toArray w) (h1 : ∀ u ∈ news, u.oneCell' = true) (hfit : o + news.length ≤ cur.size) :
    (Builtin.copy_ #[t, u] ty #[.slice (some ⟨g, o, none⟩) dl dc, vy]).run P w = .ok (goInt k) (w.setRow g (cur.toList.take o ++ news ++ cur.toList.drop (o + news.length)).toArray) := by
  have hst := run_storeCells_at P g o ct news 0 cur w hg (by simpa using hfit) h1
  simp only [Nat.add_zero] at hst
  simp [Builtin.copy_, run_underlying ht, sizeOf, typeInfo, hi, hsz, hl, hm, hf, hst]

theorem take_self {α : Type} (l : List α) (n k : Nat) (h : n ≤ k) : (l.take k).take n = l.take n := by
  rw [List.take_take, Nat.min_eq_left h]

set_option maxHeartbeats 4000000 in
set_option maxRecDepth 100000 in
/-- There is room. -/
theorem ins_shift (w : World) (g n c i vb vo vc : Nat) (cur va : Array Value) {ct vt : TypeId} (hg : w.heap[g]? = some (.cells cur ct (0, 0))) (hv : w.heap[vb]? = some (.cells va vt (0, 0))) (hvb : vb ≠ g)
    (hi : i < n) (hroom : n + 1 ≤ c) (hc63 : c ≤ 9223372036854775807) (hcur : c * 2 ≤ cur.size) (hva0 : va.size ≠ 0) (s v : List Value) (hs : s.length = (n - i) * 2) (hv2 : v.length = 2)
    (hsc : ∀ (j : Nat) (u : Value), s[j]? = some u → cur[i * 2 + j]? = some u) (hvc : ∀ (j : Nat) (u : Value), v[j]? = some u → va[vo + j]? = some u) (h1s : ∀ u ∈ s, u.oneCell' = true) (h1v : ∀ u ∈ v, u.oneCell' = true) :
    Calls Try.prog 21 #[.slice (some ⟨g, 0, none⟩) n c, .int .i64 i, .slice (some ⟨vb, vo, none⟩) 1 vc] w fun e w' =>
      e = .returned (.slice (some ⟨g, 0, none⟩) (n + 1) c) ∧ w' = w.drew.setRow g (cur.toList.take (i * 2) ++ v ++ s ++ cur.toList.drop ((n + 1) * 2)).toArray := by
  obtain ⟨i0, hi0, hz0⟩ := sizeT_info (P := Try.prog) (t := 27) (n := 2) (by kernel_rfl)
  have u22 := Try.underlying22
  have hg0 : w.drew.heap[g]? = some (.cells cur ct (0, 0)) := hg
  have hv0 : w.drew.heap[vb]? = some (.cells va vt (0, 0)) := hv
  have hdup : (s.length : Nat) + (i + 1) * 2 ≤ cur.size := by omega
  have hmin1 : Nat.min (n + 1 - i) (n - i) = n - i := Nat.min_eq_right (by omega)
  have hsrc : ∀ l c', (Builtin.firstCells 2 (n - i) (.slice (some ⟨g, i * 2, none⟩) l c')).run Try.prog w.drew = .ok s.toArray w.drew := fun l c' =>
    run_firstCells_some w.drew 2 (n - i) ⟨g, i * 2, none⟩ l c' s hs (fun j u hj => by
      rw [Addr.add_lit, cell_of_row _ _ _ _ _ _ hg0]
      exact hsc j u hj)
  have hcp1 : ∀ ty dc sc, (Builtin.copy_ #[22, 22] ty #[.slice (some ⟨g, (i + 1) * 2, none⟩) (n - i) dc, .slice (some ⟨g, i * 2, none⟩) (n + 1 - i) sc]).run Try.prog w.drew = .ok (goInt (n - i : Nat)) (w.drew.setRow g (cur.toList.take ((i + 1) * 2) ++ s ++ cur.toList.drop ((i + 1) * 2 + s.length)).toArray) := fun ty dc sc =>
    run_cpy2 w.drew u22 hi0 hz0 g _ _ dc (n - i) (n + 1 - i) cur hg0 _ s rfl hmin1 (hsrc _ _) h1s (by omega)
  obtain ⟨R1, hR1⟩ : ∃ R1, R1 = (cur.toList.take ((i + 1) * 2) ++ s ++ cur.toList.drop ((i + 1) * 2 + s.length)).toArray := ⟨_, rfl⟩
  rw [← hR1] at hcp1
  have hR1s : R1.size = cur.size := by rw [hR1]; simp; omega
  have hg1 : (w.drew.setRow g R1).heap[g]? = some (.cells R1 ct (0, 0)) := setRow_heap w.drew g cur R1 ct (0, 0) hg0
  have hv1 : (w.drew.setRow g R1).heap[vb]? = some (.cells va vt (0, 0)) := by rw [setRow_other _ _ _ _ hvb]; exact hv0
  have hfin : (R1.toList.take (i * 2) ++ v ++ R1.toList.drop (i * 2 + v.length)).toArray = (cur.toList.take (i * 2) ++ v ++ s ++ cur.toList.drop ((n + 1) * 2)).toArray := by
    have a1 : (cur.toList.take ((i + 1) * 2)).length = (i + 1) * 2 := by simp; omega
    have a2 : i * 2 + v.length = (i + 1) * 2 := by omega
    have a3 : (i + 1) * 2 + s.length = (n + 1) * 2 := by omega
    rw [hR1, a2, a3]
    simp only [List.append_assoc]
    rw [List.take_append_of_le_length (by rw [a1]; omega), take_self _ _ _ (by omega), List.drop_append_of_le_length (by rw [a1]; exact Nat.le_refl _), List.drop_of_length_le (by rw [a1]; exact Nat.le_refl _), List.nil_append]
  have hcp2 : ∀ ty dc, (Builtin.copy_ #[22, 22] ty #[.slice (some ⟨g, i * 2, none⟩) (n + 1 - i) dc, .slice (some ⟨vb, vo, none⟩) 1 vc]).run Try.prog (w.drew.setRow g R1) = .ok (goInt (1 : Nat)) (w.drew.setRow g (cur.toList.take (i * 2) ++ v ++ s ++ cur.toList.drop ((n + 1) * 2)).toArray) := fun ty dc => by
    have h := run_cpy2 (P := Try.prog) (u := 22) (ty := ty) (w.drew.setRow g R1) u22 hi0 hz0 g (i * 2) (n + 1 - i) dc 1 1 R1 hg1 (.slice (some ⟨vb, vo, none⟩) 1 vc) v rfl (Nat.min_eq_left (by omega))
      (run_firstCells_some _ 2 1 ⟨vb, vo, none⟩ 1 vc v (by omega) (fun j u hj => by
        rw [Addr.add_lit, cell_of_row _ _ _ _ _ _ hv1]
        exact hvc j u hj)) h1v (by omega)
    rw [hfin, setRow_setRow] at h
    exact h
  have hov : ∀ lb cb, (callFunc 38 #[.slice (some ⟨vb, vo, none⟩) 1 vc, .slice (some ⟨g, (i + 1) * 2, none⟩) lb cb]).run Try.prog w = .ok (.value (.bool false)) w := fun lb cb => by
    have hc2 : cur.size ≠ 0 := by omega
    rw [run_callFunc_extern Try.func38 (by kernel_rfl) (by kernel_rfl) (by kernel_rfl) (e := Extern.SlicesOverlaps.overlaps #[22, 22] #[4]) (by kernel_rfl),
      Lib.run_overlaps_apart w 22 4 27 u22 2 (fun w => by simp [sizeOf, typeInfo, hi0, hz0]) ⟨vb, vo, none⟩ ⟨g, (i + 1) * 2, none⟩ 1 vc lb cb hvb vt ct va.size cur.size (by simp [World.shape?, hv]) (by simp [World.shape?, hg]) hc2 (by simp [World.frozen?, hv]) (by simp [World.frozen?, hv])]
    rfl
  have hz2 : ¬ ((i : Int) = (n : Int)) := by omega
  have mixed := mixed
  have hw1 : IntKind.i64.wrap ((i : Int) + 1) = (i : Int) + 1 := wrap64 (by omega)
  have hw2 : IntKind.i64.wrap ((n : Int) + 1) = (n : Int) + 1 := wrap64 (by omega)
  have hroom' : ¬ ((c : Int) < (n : Int) + 1) := by omega
  have hb1 : (0 : Int) ≤ (i : Int) + 1 := by omega
  have hin : i ≤ n := by omega
  have hin1 : i ≤ n + 1 := by omega
  have hb2 : ¬ (c = i + 1) := by omega
  have hb3 : (i : Int) ≤ (n : Int) + 1 := by omega
  have hb4 : ¬ (c = i) := by omega
  clear hfin hR1
  go_enter Try.func21, Try.ntmps21
  go_wp2_with (simp only [hov])
  go_region_law_o (refine step_copy_runI rfl _ _ 22 22 rfl _ _ (by simp [Act.eval, Act.put]) (by simp [Act.eval, Act.put]) (hcp1 _ _ _) ?_)
  go_wp2_with (at_builtin; refine wpList_copy_runI _ rfl _ _ 22 22 rfl _ _ rfl rfl (hcp2 _ _) ?_)
  go_ret
  exact ⟨rfl, by simp only [List.append_assoc]⟩

set_option maxHeartbeats 4000000 in
set_option maxRecDepth 100000 in
/-- There is none. -/
theorem ins_grow (w : World) (g n c i vb vo vc : Nat) (cur va : Array Value) {ct vt : TypeId} (hg : w.heap[g]? = some (.cells cur ct (0, 0))) (hv : w.heap[vb]? = some (.cells va vt (0, 0)))
    (hi : i < n) (hnc : n ≤ c) (hroom : c < n + 1) (hc63 : c ≤ 9223372036854775807) (hbig : (n + 1) * 32 ≤ 140737488355328) (f s v : List Value) (hfl : f.length = i * 2) (hs : s.length = (n - i) * 2) (hv2 : v.length = 2)
    (hfc : ∀ (j : Nat) (u : Value), f[j]? = some u → cur[j]? = some u) (hsc : ∀ (j : Nat) (u : Value), s[j]? = some u → cur[i * 2 + j]? = some u) (hvc : ∀ (j : Nat) (u : Value), v[j]? = some u → va[vo + j]? = some u) (h1s : ∀ u ∈ s, u.oneCell' = true) (h1v : ∀ u ∈ v, u.oneCell' = true) :
    Calls Try.prog 21 #[.slice (some ⟨g, 0, none⟩) n c, .int .i64 i, .slice (some ⟨vb, vo, none⟩) 1 vc] w fun e w' =>
      ∃ (G : Nat) (z : List Value), G = grownCap w (n + 1) c 27 ∧ z.length = (G - (n + 1)) * 2 ∧ e = .returned (.slice (some ⟨w.heap.size, 0, none⟩) (n + 1) G) ∧ w' = w.drew.drew.alloc (.cells (f ++ v ++ s ++ z).toArray 27) := by
  obtain ⟨i0, hi0, hz0⟩ := sizeT_info (P := Try.prog) (t := 27) (n := 2) (by kernel_rfl)
  have hby : bytesT Try.prog 27 = some 32 := by kernel_rfl
  have hzz : zeroT Try.prog 27 = some [.int .i64 0, .nilS] := by kernel_rfl
  unfold bytesT at hby
  simp [hi0] at hby
  unfold zeroT at hzz
  cases hzv : i0.zero with
  | none => simp [hi0, hzv] at hzz
  | some zv =>
  simp [hi0, hzv] at hzz
  have hzsz : zv.cells.size = 2 := by have := (cellsOf_sound (m := ⟨fun _ => none, fun _ => False⟩) (σ := cellsIn w) hzz).length; simp at this; omega
  have u22 := Try.underlying22
  have u3 := Try.underlying3
  have hkk : (n : Int) + 1 - (i : Int) = ((n + 1 - i : Nat) : Int) := by omega
  have hik : i + (n + 1 - i) = n + 1 := by omega
  have hgd : w.drew.heap[g]? = some (.cells cur ct (0, 0)) := hg
  have hold : (Builtin.firstCells i0.size i (.slice (some ⟨g, 0, none⟩) i c)).run Try.prog w.drew = .ok f.toArray w.drew := by
    rw [hz0]
    exact run_firstCells_some w.drew 2 i ⟨g, 0, none⟩ i c f hfl (fun j u hj => by
      rw [Addr.add_lit, cell_of_row _ _ _ _ _ _ hgd, Nat.zero_add]
      exact hfc j u hj)
  have hfit := growslice_fits (old := c) (bytes := i0.bytes) (show c < n + 1 by omega) (by rw [hby]; exact hbig)
  obtain ⟨G, hG⟩ : ∃ G, G = grownCap w (n + 1) c 27 := ⟨_, rfl⟩
  have hGn : n + 1 ≤ G := by rw [hG]; exact grownCap_ge w _ _ _
  have hG63 : G ≤ 9223372036854775807 := by
    have := grownCap_le_maxLen w (n + 1) c 27 (by unfold maxLen; omega)
    rw [← hG] at this
    unfold maxLen at this
    omega
  obtain ⟨Z1, hZ1⟩ : ∃ Z, Z = (Builtin.zeroCells zv.cells (n + 1 - i)).toList := ⟨_, rfl⟩
  obtain ⟨z, hz⟩ : ∃ Z, Z = (Builtin.zeroCells zv.cells (G - (n + 1))).toList := ⟨_, rfl⟩
  have hZ1l : Z1.length = (n + 1 - i) * 2 := by rw [hZ1]; simp [Builtin.zeroCells, hzsz]
  have hzl : z.length = (G - (n + 1)) * 2 := by rw [hz]; simp [Builtin.zeroCells, hzsz]
  obtain ⟨ROW, hROW⟩ : ∃ ROW : Array Value, ROW = (f ++ Z1 ++ z).toArray := ⟨_, rfl⟩
  have hrz : ∀ ty, (Builtin.append_ #[22, 3] ty #[.slice (some ⟨g, 0, none⟩) i c, .int .i64 ((n : Int) + 1 - (i : Int))]).run Try.prog w =
      .ok (.slice (some ⟨w.heap.size, 0, none⟩) (n + 1) G) (w.drew.alloc (.cells ROW 27)) := fun ty => by
    have h := Lib.run_append_grow_zeros w 22 3 ty 27 i0 zv .i64 .i64 u22 u3 hi0 hzv (some ⟨g, 0, none⟩) i c f hold (n + 1 - i) (by omega) (by omega) (by omega) (by omega) (by rw [hby]; omega) (by rw [hik]; exact Nat.le_trans hfit (by omega))
    rw [hik, ← hG] at h
    rw [hkk, h, hROW, hZ1, hz]
    congr 3
    apply Array.toList_inj.1
    simp
  have hgb : g < w.heap.size := (Array.getElem?_eq_some_iff.1 hg).1
  have hvb : vb < w.heap.size := (Array.getElem?_eq_some_iff.1 hv).1
  obtain ⟨W1, hW1⟩ : ∃ W1, W1 = w.drew.alloc (.cells ROW 27) := ⟨_, rfl⟩
  have hWn : W1.heap[w.heap.size]? = some (.cells ROW 27 (0, 0)) := by rw [hW1]; exact heap_alloc_new w.drew _
  have hWg : W1.heap[g]? = some (.cells cur ct (0, 0)) := by rw [hW1]; exact (heap_alloc_old w.drew _ hgb).trans hg
  have hWv : W1.heap[vb]? = some (.cells va vt (0, 0)) := by rw [hW1]; exact (heap_alloc_old w.drew _ hvb).trans hv
  have hRl : ROW.size = G * 2 := by rw [hROW]; simp [hfl, hZ1l, hzl]; omega
  obtain ⟨R1, hR1⟩ : ∃ R1, R1 = (ROW.toList.take (i * 2) ++ v ++ ROW.toList.drop (i * 2 + v.length)).toArray := ⟨_, rfl⟩
  have hcpA : ∀ (W : World), W.heap = W1.heap → ∀ ty dc, (Builtin.copy_ #[22, 22] ty #[.slice (some ⟨w.heap.size, i * 2, none⟩) (n + 1 - i) dc, .slice (some ⟨vb, vo, none⟩) 1 vc]).run Try.prog W = .ok (goInt (1 : Nat)) (W.setRow w.heap.size R1) := fun W hW ty dc => by
    rw [hR1]
    exact run_cpy2 (P := Try.prog) (u := 22) (ty := ty) W u22 hi0 hz0 w.heap.size (i * 2) (n + 1 - i) dc 1 1 ROW (by rw [hW]; exact hWn) (.slice (some ⟨vb, vo, none⟩) 1 vc) v rfl (Nat.min_eq_left (by omega))
      (run_firstCells_some _ 2 1 ⟨vb, vo, none⟩ 1 vc v (by omega) (fun j u hj => by
        rw [Addr.add_lit, cell_of_row _ _ _ _ _ _ (show W.heap[vb]? = _ by rw [hW]; exact hWv)]
        exact hvc j u hj)) h1v (by omega)
  have hR1s : R1.size = G * 2 := by rw [hR1]; simp [hv2]; omega
  have hfin : (R1.toList.take ((i + 1) * 2) ++ s ++ R1.toList.drop ((i + 1) * 2 + s.length)).toArray = (f ++ v ++ s ++ z).toArray := by
    have a3 : (i + 1) * 2 + s.length = (n + 1) * 2 := by omega
    have e1 : R1.toList = f ++ v ++ (Z1.drop 2 ++ z) := by
      rw [hR1, hROW, hv2]
      simp only [List.toList_toArray]
      rw [List.append_assoc f, List.take_append_of_le_length (by omega), List.take_of_length_le (by omega)]
      congr 1
      rw [List.drop_append, hfl, List.drop_of_length_le (by omega), List.nil_append, show i * 2 + 2 - i * 2 = 2 by omega, List.drop_append_of_le_length (by omega)]
    have l1 : (f ++ v).length = (i + 1) * 2 := by simp [hfl, hv2]; omega
    rw [a3, e1, List.take_append_of_le_length (by omega), List.take_of_length_le (by omega), List.drop_append, List.drop_of_length_le (by omega), List.nil_append, l1, List.drop_append, List.drop_drop]
    have l2 : (Z1.drop 2).length = (n - i) * 2 := by rw [List.length_drop]; omega
    rw [List.drop_of_length_le (l := Z1) (by omega), List.nil_append, l2, show (n + 1) * 2 - (i + 1) * 2 - (n - i) * 2 = 0 by omega, List.drop_zero]
  have hcpB : ∀ (W : World), W.heap = (W1.setRow w.heap.size R1).heap → ∀ ty dc sc, (Builtin.copy_ #[22, 22] ty #[.slice (some ⟨w.heap.size, (i + 1) * 2, none⟩) (n - i) dc, .slice (some ⟨g, i * 2, none⟩) (n - i) sc]).run Try.prog W = .ok (goInt (n - i : Nat)) (W.setRow w.heap.size (f ++ v ++ s ++ z).toArray) := fun W hW ty dc sc => by
    rw [← hfin]
    exact run_cpy2 (P := Try.prog) (u := 22) (ty := ty) W u22 hi0 hz0 w.heap.size ((i + 1) * 2) (n - i) dc (n - i) (n - i) R1 (by rw [hW]; exact setRow_heap _ _ _ _ _ _ hWn) (.slice (some ⟨g, i * 2, none⟩) (n - i) sc) s rfl (Nat.min_self _)
      (run_firstCells_some _ 2 (n - i) ⟨g, i * 2, none⟩ (n - i) sc s hs (fun j u hj => by
        rw [Addr.add_lit, cell_of_row _ _ _ _ _ _ (show W.heap[g]? = _ by rw [hW, setRow_other _ _ _ _ (by omega)]; exact hWg)]
        exact hsc j u hj)) h1s (by omega)
  obtain ⟨R2, hR2⟩ : ∃ R2, R2 = (f ++ v ++ s ++ z).toArray := ⟨_, rfl⟩
  rw [← hR2] at hcpB
  have hlast : ((W1.setRow w.heap.size R1).drew.setRow w.heap.size R2) = w.drew.drew.alloc (.cells R2 27) := by
    have h1 : ∀ (a b : Array Value) (W : World), (W.alloc (.cells a 27)).setRow W.heap.size b = W.alloc (.cells b 27) := fun a b W => by
      unfold World.setRow World.alloc
      simp only [World.mk.injEq, and_true, true_and]
      refine Array.ext_getElem? fun j => ?_
      rw [Array.getElem?_modify]
      by_cases hj : W.heap.size = j
      · subst hj
        simp
      · simp [hj]
        rw [Array.getElem?_push, Array.getElem?_push]
        split <;> rename_i hh
        · exact absurd hh.symm hj
        · rfl
    rw [hW1]
    have h2 := h1 ROW R1 w.drew
    rw [show w.drew.heap.size = w.heap.size from rfl] at h2
    rw [h2]
    have h3 := h1 R1 R2 w.drew.drew
    rw [show w.drew.drew.heap.size = w.heap.size from rfl] at h3
    exact h3
  rw [← hW1] at hrz
  have hz2 : ¬ ((i : Int) = (n : Int)) := by omega
  have mixed := mixed
  have hw1 : IntKind.i64.wrap ((i : Int) + 1) = (i : Int) + 1 := wrap64 (by omega)
  have hw2 : IntKind.i64.wrap ((n : Int) + 1) = (n : Int) + 1 := wrap64 (by omega)
  have hw3 : IntKind.i64.wrap ((n : Int) + 1 - (i : Int)) = (n : Int) + 1 - (i : Int) := wrap64 (by omega)
  have hroom' : ((c : Int) < (n : Int) + 1) := by omega
  have hb1 : (0 : Int) ≤ (i : Int) + 1 := by omega
  have hin : i ≤ n := by omega
  have hic : i ≤ c := by omega
  have hin1 : i ≤ n + 1 := by omega
  have hb3 : (i : Int) ≤ (n : Int) + 1 := by omega
  have hGi : ¬ (G = i) := by omega
  have hGim : ¬ (G = i + 1) := by omega
  have hci : ¬ (c = i) := by omega
  have hE : W1.heap = W1.heap := rfl
  have hsz0 : w.heap.size = w.heap.size := rfl
  obtain ⟨K, hK⟩ : ∃ K : Prop, K = (z.length = (G - (n + 1)) * 2 ∧ (G = grownCap w (n + 1) c 27) ∧ ((W1.setRow w.heap.size R1).drew.setRow w.heap.size R2) = w.drew.drew.alloc (.cells (f ++ v ++ s ++ z).toArray 27)) := ⟨_, rfl⟩
  have kk : K := by rw [hK]; exact ⟨hzl, hG, by rw [← hR2]; exact hlast⟩
  subst hW1
  clear hE
  clear hfin hR1 hROW hRl hR1s hWn hWg hWv hold hkk hik hG hR2 hlast hz hZ1 hzl hZ1l
  go_enter Try.func21, Try.ntmps21
  go_wp2_with (at_builtin; refine Lib.wpList_append_run _ rfl _ _ _ _ rfl _ _ rfl rfl _ _ (hrz _) ?_)
  rw [hcpA ((w.alloc (.cells ROW 27)).drew) rfl 3 (G - i)]
  go_wp2
  go_region_law_o (refine step_copy_runI rfl _ _ 22 22 rfl (.slice (some ⟨w.heap.size, (i + 1) * 2, none⟩) (n - i) (G - (i + 1))) (.slice (some ⟨g, i * 2, none⟩) (n - i) (c - i)) (by simp [Act.eval, Act.put]) (by simp [Act.eval, Act.put]) (hcpB (((w.alloc (.cells ROW 27)).drew.setRow w.heap.size R1).drew) rfl 3 (G - (i + 1)) (c - i)) ?_)
  go_wp2
  go_ret
  rw [hK] at kk
  obtain ⟨k1, k2, k3⟩ := kk
  exact ⟨G, z, k2, k1, rfl, k3⟩

end Go.Proofs.Ytmdblemjlmfbbaa.Eng
