/- The engine, part 26: the library's sort, by the kit's contract, as a call of the engine. No statement of the seat is proved here. -/
import Derived.Test.YtpjbjdicdjlmeaaGreatDoorZPartC
import Derived.Shelf.SlSortCmp.WholeK
import Derived.Shelf.SlSortCmp.NoneTotal
namespace Go.Proofs.YtpjbjdicdjlmeaaGreatDoor.Eng
open Go Go.Sort Go.Shelf Go.RowKit
set_option linter.unusedVariables false
set_option linter.unusedSimpArgs false

variable {P : Program}

theorem enters_of_there {g : Nat} (ht : ∃ fn, P.funcs[g]? = some fn ∧ fn.body.isSome = true ∧ (fn.name == "runtime.NumGoroutine") = false) : ∀ args w, (callFunc g args).run P w = .ok (.enter g args) w := by
  intro args w
  obtain ⟨fn, hfn, hbody, hname⟩ := ht
  have hbody' : fn.body.isNone = false := by cases h : fn.body <;> simp_all
  have hname' : ¬ fn.name = "runtime.NumGoroutine" := by simpa using hname
  have hbody2 : ¬ fn.body = none := by intro h; rw [h] at hbody'; simp at hbody'
  simp [callFunc, hfn, hname', hbody2]

/-- What only laid blocks and drew. -/
theorem below_grow {W w' : World} (h : RowKit.Below W.heap.size W w') (hd : W.drawn ≤ w'.drawn) : ∃ q os, w' = grow (W.drewN q) os := by
  refine ⟨w'.drawn - W.drawn, w'.heap.extract W.heap.size w'.heap.size, ?_⟩
  have hheap : w'.heap = W.heap ++ w'.heap.extract W.heap.size w'.heap.size := by
    apply Array.ext_getElem?
    intro i
    by_cases hi : i < W.heap.size
    · rw [Array.getElem?_append_left hi]; exact h.block i hi
    · rw [Array.getElem?_append_right (by omega), Array.getElem?_extract]
      by_cases hi2 : i < w'.heap.size
      · rw [if_pos (by omega)]; congr 1; omega
      · rw [if_neg (by omega), Array.getElem?_eq_none (by omega)]
  obtain ⟨hp, tp, dr, o, ou⟩ := w'
  simp only [grow, World.drewN, World.mk.injEq]
  exact ⟨hheap, h.tape, by simp only at hd ⊢; omega, h.os, h.output⟩

theorem cmpLays_of {α : Type} {g : Nat} {f : α → List Cell} {enc : α → List Value} (hfe : ∀ x m σ, All2 (VR m σ) (f x) (enc x)) {cf : α → α → Int} (h : ∀ x y, Pure P g [.agg (f x), .agg (f y)] (.c (.int .i64 (cf x y)))) (k blk off size : Nat) [Inhabited α] (w : World) (hlib : LibW w) (hne : ∀ g c, LibAt g c → g ≠ blk ∧ g < w.heap.size) :
    CmpLays P g #[] enc k cf blk off size w := by
  intro m os dk _ x y
  have hl : LibW (sortWorldK enc k w blk off m dk os) := fun g c h => by
    obtain ⟨h1, h2⟩ := hne g c h
    rw [← hlib g c h]
    refine World.cell?_of_block ?_
    show (sortWorldK enc k w blk off m dk os).heap[g]? = w.heap[g]?
    simp only [sortWorldK, grow, putRowK, putRow, mapBlock, ahead]
    rw [Array.getElem?_append_left (by simpa using h2), Array.getElem?_modify, if_neg (Ne.symm h1)]
    rfl
  generalize sortWorldK enc k w blk off m dk os = W at hl
  have r0 : Rel W.heap.size (flat fun g => g < W.heap.size) [] W := Rel.flat (fun _ h => h) fun g c h => ⟨hl.lt h, hl g c h⟩
  refine ((h x y []).calls W.heap.size _ W _ r0 (.cons (.agg (by simpa using hfe x _ _)) (.cons (.agg (by simpa using hfe y _ _)) .nil))).mono ?_
  rintro e w' ⟨u, m1, rfl, hst, hr⟩
  refine ⟨?_, below_grow (hst.below r0) (hst.drawn.resolve_left (by decide))⟩
  cases hr with
  | c hr => cases hr; rfl

/-- What the sort makes of a list. -/
def sortL {α : Type} [Inhabited α] (cf : α → α → Int) (l : List α) : List α := (pdq (ltOf cf) l.toArray 0 l.length (Lib.bitLen l.length) true true).toList

theorem sortL_spec {α : Type} [Inhabited α] {cf : α → α → Int} (hO : SWO (ltOf cf)) (l : List α) : (sortL cf l).Perm l ∧ (sortL cf l).Pairwise (fun a b => ¬ (cf b a < 0)) := by
  have h := pdq_sorts (ltOf cf) hO l.toArray 0 l.toArray.size (Lib.bitLen l.length) true true (Nat.zero_le _) (Nat.le_refl _) (Or.inl rfl)
  unfold sortL
  simp only [List.size_toArray] at h
  generalize pdq (ltOf cf) l.toArray 0 l.length (Lib.bitLen l.length) true true = d at h
  obtain ⟨⟨hs, _, hp⟩, hsort⟩ := h
  have hsz : d.size = l.length := by simpa using hs
  constructor
  · have h1 : d.extract 0 l.length = d := by rw [← hsz]; simp
    have h2 : l.toArray.extract 0 l.length = l.toArray := by simp
    rw [h1, h2] at hp
    simpa using hp
  · rw [List.pairwise_iff_getElem]
    intro i j hi hj hij
    have hi' : i < d.size := by simpa using hi
    have hj' : j < d.size := by simpa using hj
    have := hsort i j (Nat.zero_le _) hij (by omega)
    rw [getElem!_pos d j hj', getElem!_pos d i hi'] at this
    simp only [ltOf, decide_eq_false_iff_not] at this
    simpa using this

theorem get_flat {α : Type} [Inhabited α] {enc : α → List Value} {k : Nat} (hk : ∀ x, (enc x).length = k) {d : Array α} {i f : Nat} (hi : i < d.size) (hf : f < k) : (flatK enc k d)[i * k + f]! = (enc d[i])[f]'(by rw [hk]; exact hf) := by
  have hlt : i * k + f < d.size * k := mul_row_lt hi hf
  rw [get_flatK enc k d _ hlt]
  have h1 : (i * k + f) / k = i := by rw [Nat.mul_comm, Nat.mul_add_div (by omega), Nat.div_eq_of_lt hf, Nat.add_zero]
  have h2 : (i * k + f) % k = f := by rw [Nat.mul_comm, Nat.mul_add_mod, Nat.mod_eq_of_lt hf]
  rw [h1, h2, getElem!_pos d i hi, getElem!_pos _ f (by rw [hk]; exact hf)]

theorem bears_there {f : Nat} {B : Func} (h : Bears P f B) (hb : B.body.isSome = true) : ∃ fn, P.funcs[f]? = some fn ∧ fn.body.isSome = true ∧ (fn.name == "runtime.NumGoroutine") = false := by
  obtain ⟨nm, h1, h2⟩ := h
  exact ⟨_, h2, hb, h1⟩

theorem sort_sound {ρ : Ren} (L : SlLaysF0.n6 P ρ) {k : Nat} (hag : isAggT P (ρ.t 24) = some true) (hsz : sizeT P (ρ.t 24) = some k) (hk0 : 0 < k) {α : Type} [Inhabited α] {f : α → List Cell} {enc : α → List Value} (hk : ∀ x, (enc x).length = k)
    (hfe : ∀ x m σ, All2 (VR m σ) (f x) (enc x)) (hdet : ∀ x m σ vs, All2 (VR m σ) (f x) vs → vs = enc x) {cf : α → α → Int} (hO : SWO (ltOf cf)) {g : Nat} (hc : ∀ x y, Pure P g [.agg (f x), .agg (f y)] (.c (.int .i64 (cf x y))))
    {H : Heap} {b : Nat} {l : List α} (hb : H[b]? = some { sz := k, rows := l.map f, own := true, live := true }) (hl : l.length < 4611686018427387904) (hl0 : l ≠ []) :
    CallSound P (ρ.f 6) [.c (.slc b 0 l.length k false), .c (.fn g [])] H (.tup []) (H.set b { sz := k, rows := (sortL cf l).map f, own := true, live := true }) := by
  refine ⟨bears_there L.f6 rfl, fun B m w vs r ha => ?_⟩
  obtain ⟨vs⟩ := vs
  have hfl : ∀ x, (f x).length = k := fun x => by rw [(hfe x ⟨fun _ => none, fun _ => False⟩ (cellsIn w)).length, hk]
  have h1 : ∀ x, ∀ v ∈ enc x, v.oneCell' = true := fun x v hv => by
    obtain ⟨c, _, hr⟩ := (hfe x ⟨fun _ => none, fun _ => False⟩ (cellsIn w)).right_mem v hv
    exact hr.oneCell
  have hpos : 0 < l.length := by cases l with | nil => exact absurd rfl hl0 | cons => simp
  cases ha with
  | cons a1 a2 =>
    cases a2 with
    | cons a2 a3 =>
      cases a3
      cases a2 with
      | c a2 =>
        cases a2 with
        | @fn _ _ cb hcb _ =>
          have hcb0 : cb = #[] := by simp at hcb; exact Array.eq_empty_of_size_eq_zero hcb.symm
          subst hcb0
          cases a1 with
          | c a1 =>
            cases a1 with
            | @slc _ _ _ _ _ A cap q1 q2 q3 q4 =>
              obtain ⟨Lo, e, ez, h5⟩ := q4
              obtain ⟨ea, eo⟩ := h5 (by omega)
              obtain ⟨kb, hkb, hat⟩ := r.blk b Lo e
              rw [hb] at hkb; injection hkb with hkb; subst hkb
              have ho : Lo.own = true := by rw [← hat.own]
              have hLo : Lo.o = 0 := (hat.ours ho).2
              obtain ⟨cur, ct, hg⟩ := hat.row ho rfl
              have hA : A = ⟨Lo.g, 0, none⟩ := by rw [ea, hLo]; simp
              subst hA
              have hgl : Lo.g < w.heap.size := hat.lt (.inl ho)
              have hrows := rowsIn_of r e hb ho rfl hg
              rw [ez] at hrows
              have hcap : cap * k = cur.size := by have := eo ho; rw [cellsIn_row hg] at this; simpa using this
              have hcells : ∀ i (hi : i < l.length) (p : Nat) (hp : p < k), cur[i * k + p]? = some ((enc l[i])[p]'(by rw [hk]; exact hp)) := by
                intro i hi p hp
                obtain ⟨g1, g2⟩ := hrows i (f l[i]) (by simp [hi])
                -- the row as values
                have hall : All2 (VR m (cellsIn w)) (f l[i]) ((List.range k).map fun p => (cur[i * k + p]?).getD undef) := by
                  refine All2.of_get (by simp [hfl]) fun p c v hc hv => ?_
                  obtain ⟨u, e1, e2⟩ := g2 p c hc
                  have hp : p < k := by have := (List.getElem?_eq_some_iff.1 hc).1; rw [hfl] at this; exact this
                  simp [hp, e1] at hv
                  subst hv
                  exact e2
                have hd := hdet _ _ _ _ hall
                obtain ⟨u, e1, _⟩ := g2 p ((f l[i])[p]'(by rw [hfl]; exact hp)) (List.getElem?_eq_getElem _)
                rw [e1]
                have : ((List.range k).map fun p => (cur[i * k + p]?).getD undef)[p]? = some u := by simp [hp, e1]
                rw [hd] at this
                rw [List.getElem?_eq_getElem (by rw [hk]; exact hp)] at this
                exact this.symm
              have hH : HoldsK enc k w Lo.g 0 l.toArray := by
                intro j hj
                rw [size_flatK] at hj
                simp only [List.size_toArray] at hj
                have hi : j / k < l.length := Nat.div_lt_of_lt_mul (by rw [Nat.mul_comm]; exact hj)
                have hp : j % k < k := Nat.mod_lt _ hk0
                have hjj : j / k * k + j % k = j := by rw [Nat.mul_comm]; exact Nat.div_add_mod j k
                constructor
                · rw [Nat.zero_add, cell_of_row _ _ _ _ _ _ hg]
                  have := hcells (j / k) hi (j % k) hp
                  rw [hjj] at this
                  rw [this]
                  have hf := get_flat hk (d := l.toArray) (i := j / k) (f := j % k) (by simpa using hi) hp
                  rw [hjj] at hf
                  simp only [id]
                  rw [hf]
                  simp
                · simp [World.frozen?, hg]
              have hrun := AnyQ.slices_SortFunc_eq L k (fun w => run_isAggT hag w) (fun w => run_sizeT hsz w) enc hk h1 cf hO g #[] Lo.g 0 cap l.toArray w (enters_of_there ((hc default default []).there)) (cmpLays_of hfe hc k Lo.g 0 _ w r.lib.w (fun g c h => ⟨fun e2 => r.zown b Lo _ e ho hb rfl (e2 ▸ (r.lib g c h).1), r.lib.w.lt h⟩)) hH hgl (by simpa using hl)
              refine hrun.mono ?_
              rintro e' w' ⟨rfl, n, os, rfl⟩
              have hD : (pdq (ltOf cf) l.toArray 0 l.toArray.size (Lib.bitLen l.toArray.size) true true) = (sortL cf l).toArray := by simp [sortL]
              rw [hD]
              have hsl : (sortL cf l).length = l.length := (sortL_spec hO l).1.length_eq
              generalize sortL cf l = s at hsl
              -- the row's new cells
              have hput : putRowK enc k (Sort.ahead w n) Lo.g 0 s.toArray = (w.setRow Lo.g (putCells id 0 (flatK enc k s.toArray) cur)).drewN n := by
                unfold putRowK putRow mapBlock Sort.ahead World.setRow World.drewN
                simp only [World.mk.injEq, and_true]
                apply Array.ext_getElem?
                intro i
                rw [Array.getElem?_modify, Array.getElem?_modify]
                by_cases hi : Lo.g = i
                · subst hi
                  simp only [if_true, hg, Option.map_some]
                  rfl
                · simp only [hi, if_false]
              have hcs : (putCells id 0 (flatK enc k s.toArray) cur).size = cur.size := by simp [putCells]
              have hnew : RowsIn m (cellsIn w) Lo.sz (s.map f) (putCells id 0 (flatK enc k s.toArray) cur) := by
                intro i row er
                rw [List.getElem?_map] at er
                cases hsi : s[i]? with
                | none => rw [hsi] at er; cases er
                | some x =>
                  rw [hsi] at er
                  simp at er
                  subst er
                  have hi : i < s.length := (List.getElem?_eq_some_iff.1 hsi).1
                  rw [ez]
                  refine ⟨hfl x, fun p c hpc => ?_⟩
                  have hp : p < k := by have := (List.getElem?_eq_some_iff.1 hpc).1; rw [hfl] at this; exact this
                  have hx : s.toArray[i]'(by simpa using hi) = x := by
                    have := (List.getElem?_eq_some_iff.1 hsi).2
                    simpa using this
                  obtain ⟨u, hu, hr⟩ := (hfe x m (cellsIn w)).get hpc
                  refine ⟨u, ?_, hr⟩
                  have hlt : i * k + p < cur.size := by
                    have := mul_row_lt (sz := k) (f := p) hi hp
                    have h2 : s.length * k ≤ cap * k := Nat.mul_le_mul_right k (by rw [hsl]; exact q1)
                    omega
                  have hlt2 : i * k + p < (flatK enc k s.toArray).size := by rw [size_flatK]; simpa using mul_row_lt (sz := k) (f := p) hi hp
                  have hgf := get_flat hk (d := s.toArray) (i := i) (f := p) (by simpa using hi) hp
                  simp only [putCells, Array.getElem?_mapIdx, Array.getElem?_eq_getElem hlt, Option.map_some, Nat.zero_le, Nat.zero_add, true_and, hlt2, if_true, Nat.sub_zero, id]
                  rw [hgf]
                  have hu2 := (List.getElem?_eq_some_iff.1 hu).2
                  rw [← hu2]
                  simp only [hx]
              have st := St.turn r e hb ho rfl hg (putCells id 0 (flatK enc k s.toArray) cur) hcs (k' := { sz := k, rows := s.map f, own := true, live := true }) rfl rfl (fun _ => hnew)
              have sd : RowKit.Below (w.setRow Lo.g (putCells id 0 (flatK enc k s.toArray) cur)).heap.size (w.setRow Lo.g (putCells id 0 (flatK enc k s.toArray) cur)) (sortWorldK enc k w Lo.g 0 n s.toArray os) := by
                unfold sortWorldK
                rw [hput]
                refine ⟨rfl, rfl, rfl, ?_, fun i hi => ?_⟩
                · simp [grow, World.drewN]
                · show ((w.setRow Lo.g _).heap ++ os)[i]? = _
                  exact Array.getElem?_append_left hi
              have hdr : (w.setRow Lo.g (putCells id 0 (flatK enc k s.toArray) cur)).drawn ≤ (sortWorldK enc k w Lo.g 0 n s.toArray os).drawn := by
                unfold sortWorldK
                rw [hput]
                show _ ≤ _ + n
                exact Nat.le_add_right _ _
              have st2 := St.ofBelow st.rel sd (Or.inr hdr) (z := m.z) (fun _ h => h) (fun _ h => .inl h)
              exact ⟨_, _, rfl, st.trans r st2, .tup rfl fun i x v hx => by simp at hx⟩

theorem sort_none {ρ : Ren} (L : SlLaysF0.n6 P ρ) {sz g : Nat} {H : Heap} : CallSound P (ρ.f 6) [.c (.lst sz []), .c (.fn g [])] H (.tup []) H := by
  refine ⟨bears_there L.f6 rfl, fun B m w vs r ha => ?_⟩
  obtain ⟨vs⟩ := vs
  cases ha with
  | cons a1 a2 =>
    cases a2 with
    | cons a2 a3 =>
      cases a3
      have key : ∀ (p : Option Addr) (cap : Nat) (fv : Value), Calls P (ρ.f 6) #[.slice p 0 cap, fv] w fun e w' => ∃ u m', e = .returned u ∧ St B H m w H m' w' ∧ VRA m' (cellsIn w') (.tup []) u := by
        intro p cap fv
        refine (AnyF.slices_SortFunc_none L p cap fv w).mono ?_
        rintro e w' ⟨rfl, rfl⟩
        exact ⟨_, m, rfl, St.refl r, .tup rfl fun i x v hx => by simp at hx⟩
      cases a1 with
      | c a1 =>
        cases a1 with
        | lstN => exact key _ _ _
        | lst => exact key _ _ _

end Go.Proofs.YtpjbjdicdjlmeaaGreatDoor.Eng
