/- What all states of a group are, as one; two deeds apart. No statement of the seat is proved here. -/
import Derived.Test.YtnccbccnjjachaaGreatDoorZLawM0
import Derived.Test.YtnccbccnjjachaaGreatDoorZBufT
import Derived.Test.YtnccbccnjjachaaGreatDoorZApartR
import Derived.Test.YtnccbccnjjachaaGreatDoorZAllR
import Derived.Test.YtnccbccnjjachaaGreatDoorZDoU
namespace Go.Proofs.YtnccbccnjjachaaGreatDoor.Eng
open Go
set_option linter.unusedVariables false
set_option linter.unusedSimpArgs false

/-- A state of which little is known: four devices, forty deeds each. -/
structure Small (s : State) : Prop where
  fine : Fine s
  dots : ∀ d, hasDot s.seen d = true → 0 ≤ d.dev ∧ d.dev < 4 ∧ 1 ≤ d.n ∧ d.n ≤ 40
theorem Small.good {s : State} (h : Small s) : Good s := h.fine.toGood
theorem Small.sizes {s : State} (h : Small s) : s.seen.length ≤ 164 ∧ s.facts.length ≤ 164 := by
  have h1 := facts_len h.good (k := 40) (by omega) h.dots
  have h2 := seen_len h.good (k := 40) (by omega) h.dots
  omega
theorem fold_fine : ∀ {l : List State} {s : State}, (∀ d ∈ l, Fine d) → Fine s → Fine (l.foldl joinL s)
  | [], s, _, hs => hs
  | d :: l, s, h, hs => fold_fine (l := l) (fun e he => h e (by simp [he])) (joinL_fine hs (h d (by simp)))
theorem all_small (ns : List Nat) : Small (allL (apartS ns)) := by
  have g := apartS_group ns
  have hp : Part (apartS ns) (allL (apartS ns)) := Part.foldl (fun d hd => g.good hd) (.none _) fun d hd => hd
  refine ⟨fold_fine g.fine .nil, fun d hd => ?_⟩
  obtain ⟨t, ht, h⟩ := hp.seen d hd
  exact g.dots ht d h
theorem all_ok (ns : List Nat) : Pr 19 [.c (statesC (apartS ns))] (.agg (allL (apartS ns)).cells) := by
  have g := apartS_group ns
  refine r7_All_ok (apartS ns) (fun d hd => g.good hd) (fun d hd => ?_) (by rw [g.len]; omega)
  obtain ⟨a, b⟩ := g.sizes (by omega) (by omega) hd
  omega

theorem deeds_agree {s : State} {d e : Int} (h : d ≠ e) (o p : OpR) : Agree (deltaL s d o) (deltaL s e p) := fun f hf g hg he => by
  obtain ⟨_, rfl⟩ := delta_facts.1 hf
  obtain ⟨_, rfl⟩ := delta_facts.1 hg
  exact absurd (congrArg Dot.dev he) h

theorem three_of {α : Type} {l : List α} (h : l.length = 3) : ∃ a b c, l = [a, b, c] := by
  match l, h with
  | [a, b, c], _ => exact ⟨a, b, c, rfl⟩
/-- A box is given up: its pointer is a pointer into what nobody writes. -/
theorem run_fz_box {G : Prog} {p : Post} {k : List Itm} {e : Env} {H : Heap} {t b sz : Nat} {row : List Cell} {c : ACode} (he : e t = .c (.ptr b 0 0)) (hk : H[b]? = some { sz := sz, rows := [row], own := true, live := true })
    (hw : ∀ (e' : Env) (K : Heap), K.length = H.length → (∀ b' B, b' ≠ b → H[b']? = some B → K[b']? = some B) → e' t = .c (.fp row 0) → (∀ u b', e u = .c (.ptr b' 0 0) → b' ≠ b → e' u = .c (.ptr b' 0 0)) → (∀ u v, e u = v → closedA v = true → e' u = v) → Run G p (.code c :: k) e' K) : Run G p (.code (.fz t c) :: k) e H := by
  refine run_fz ⟨b, _, by rw [he]; rfl, hk, rfl, rfl, hw _ _ kill_len (fun b' B hne h => kill_get h hne) ?_ (fun u b' h hne => ?_) (fun u v h hc => ?_)⟩
  · rw [frzEnv_at, he, frzA_c]
    simp [Cell.frz]
  · rw [frzEnv_at, h, frzA_ptr_ne hne]
  · rw [frzEnv_at, h, frz_closedA hc]

end Go.Proofs.YtnccbccnjjachaaGreatDoor.Eng
