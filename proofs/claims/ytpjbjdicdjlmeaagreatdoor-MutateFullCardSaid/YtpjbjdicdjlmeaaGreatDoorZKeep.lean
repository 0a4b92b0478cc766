/- A slice that is given up, boxes that stay: how the engine keeps what lies beside. No statement of the seat is proved here. -/
import Derived.Test.YtpjbjdicdjlmeaaGreatDoorZPartC
namespace Go.Proofs.YtpjbjdicdjlmeaaGreatDoor.Eng
open Go
set_option linter.unusedVariables false
set_option linter.unusedSimpArgs false

/-! ### A slice that is given up; boxes stay -/
theorem frzA_ptr_ne {b b' i f : Nat} {k : Blk} (h : b' ≠ b) : (AVal.c (.ptr b' i f)).frz b k = .c (.ptr b' i f) := by
  rw [frzA_c]; simp [Cell.frz, h]
theorem kill_get {H : Heap} {b b' : Nat} {B : Blk} (h : H[b']? = some B) (hne : b' ≠ b) : (H.kill b)[b']? = some B := by
  unfold Heap.kill
  split
  · rw [List.getElem?_set_ne (Ne.symm hne)]; exact h
  · exact h
theorem kill_len {H : Heap} {b : Nat} : (H.kill b).length = H.length := by
  unfold Heap.kill; split <;> simp
/-- A value that is no part of a block. -/
def NB (v : AVal) (b : Nat) : Prop := ∀ n s q z, v ≠ .c (.slc b s n q z)
theorem Acc.nb_sz {sz b : Nat} {rows : List (List Cell)} {v : AVal} {H : Heap} {B : Blk} (h : Acc sz rows v H) (hb : H[b]? = some B) (hs : B.sz ≠ sz) : NB v b := fun n s q z e => h.noblk hb hs n s z q e
theorem Acc.nb_ge {sz b : Nat} {rows : List (List Cell)} {v : AVal} {H : Heap} (h : Acc sz rows v H) (hb : H.length ≤ b) : NB v b := by
  rintro n s q z rfl
  rcases h with ⟨_, h | h⟩ | ⟨b', ext, h, h2⟩
  · cases h
  · cases h
  · injection h with h
    injection h with h1
    subst h1
    have := (List.getElem?_eq_some_iff.1 h2).1
    omega
theorem Acc.app_all {sz : Nat} {rows new : List (List Cell)} {v : AVal} {H : Heap} (h : Acc sz rows v H) {bytes : Nat} (hb : (rows.length + new.length) * bytes ≤ 140737488355328) :
    ∃ v' H', vApp sz bytes v (.c (.lst sz new)) H = some (v', H') ∧ Acc sz (rows ++ new) v' H' ∧ ∀ b B, NB v b → H[b]? = some B → H'[b]? = some B ∧ NB v' b := by
  obtain ⟨v', H', h1, h2, h3, h4⟩ := h.app (y := .lst sz new) rfl (by simp [fitsSz]) hb
  refine ⟨v', H', h1, h2, fun b B hn hB => ?_⟩
  have hlt := (List.getElem?_eq_some_iff.1 hB).1
  have hB' : H'[b]? = some B := by rw [h4 b (fun n s z q => hn n s q z) hlt]; exact hB
  refine ⟨hB', fun n s q z e => ?_⟩
  subst e
  -- the block of the value is behind all, or it is the value itself
  rcases h with ⟨rfl, hv⟩ | ⟨b0, ext, rfl, h5⟩
  · have h1' := h1
    rcases hv with rfl | rfl <;>
    · simp only [vApp, evApp, Heap.rowsOf, fitsSz] at h1'
      by_cases h0 : new.length = 0
      · simp [h0] at h1'
      · simp [h0] at h1'
        omega
  · have h1' := h1
    simp only [vApp, evApp, Heap.rowsOf, fitsSz] at h1'
    by_cases h0 : new.length = 0
    · simp [h0] at h1'
      obtain ⟨⟨rfl, rfl, rfl, rfl, rfl⟩, rfl⟩ := h1'
      exact hn _ _ _ _ rfl
    · simp [h0, h5] at h1'
      omega
theorem Acc.app_keep {G : Prog} {p : Post} {k : List Itm} {d : Bool} {e : Env} {H : Heap} {l : List AInstr} {dst : Option Nat} {sz bytes : Nat} {rows new : List (List Cell)} {v : AVal}
    (h : Acc sz rows v H) (hb : (rows.length + new.length) * bytes ≤ 140737488355328) (hw : ∀ v' H', Acc sz (rows ++ new) v' H' → (∀ b B, NB v b → H[b]? = some B → H'[b]? = some B ∧ NB v' b) → WL G p k d l (updO e dst v') H') : thenW G p k d (vApp sz bytes v (.c (.lst sz new)) H) dst l e := by
  obtain ⟨v', H', h1, h2, h3⟩ := h.app_all (new := new) hb
  exact thenW_of h1 (hw v' H' h2 h3)
theorem Acc.fz_keep {G : Prog} {p : Post} {k : List Itm} {e : Env} {H : Heap} {sz t : Nat} {rows : List (List Cell)} {c : ACode} (h : Acc sz rows (e t) H)
    (hw : ∀ e' H', e' t = .c (.lst sz rows) → (∀ s v, e s = v → closedA v = true → s ≠ t → e' s = v) → (∀ s b i f, e s = .c (.ptr b i f) → NB (e t) b → e' s = .c (.ptr b i f)) → (∀ b B, H[b]? = some B → NB (e t) b → H'[b]? = some B) → H'.length = H.length → Run G p (.code c :: k) e' H') : Run G p (.code (.fz t c) :: k) e H := by
  rcases h with ⟨rfl, hv⟩ | ⟨b, ext, h1, h2⟩
  · have hs : ∀ y, e t = .c y → (y = .nilS ∨ y = .zer sz) → Run G p (.code (.fz t c) :: k) e H := fun y hy hz =>
      run_fz0 hy hz (hw _ _ (by simp [upd]) (fun s v hv _ hst => by simp [upd, hst, hv]) (fun s b i f hp _ => by
        have : s ≠ t := by intro e; subst e; rw [hy] at hp; rcases hz with rfl | rfl <;> cases hp
        simp [upd, this, hp]) (fun _ _ h _ => h) rfl)
    rcases hv with hv | hv
    · exact hs _ hv (.inl rfl)
    · exact hs _ hv (.inr rfl)
  · have hne : ∀ b', NB (e t) b' → b' ≠ b := fun b' hb' e => by subst e; exact hb' _ _ _ _ h1
    refine run_fz ⟨b, _, by rw [h1]; rfl, h2, rfl, rfl, hw _ _ ?_ (fun s v hv hc _ => ?_) (fun s b' i f hp hs => ?_) (fun b' B hB hs => kill_get hB (hne b' hs)) kill_len⟩
    · rw [frzEnv_at, h1, frzA_c, frz_slc (by simp)]
      simp
    · rw [frzEnv_at, hv, frz_closedA hc]
    · rw [frzEnv_at, hp, frzA_ptr_ne (hne b' hs)]

/-! ### Boxes -/
theorem box_row {H : Heap} {b sz : Nat} {r : List Cell} (h : H[b]? = some { sz := sz, rows := [r], own := true, live := true }) : Heap.row H b 0 = some r := by rw [row_of h rfl]; rfl
theorem box_mine {H : Heap} {b sz : Nat} {rows : List (List Cell)} (h : H[b]? = some { sz := sz, rows := rows, own := true, live := true }) : Heap.mine H b = true := mine_of h rfl rfl
theorem box_put {H : Heap} {b sz : Nat} {r q : List Cell} (h : H[b]? = some { sz := sz, rows := [r], own := true, live := true }) : Heap.put H b 0 q = H.set b { sz := sz, rows := [q], own := true, live := true } := by rw [put_of h]; rfl
theorem set_get {H : Heap} {b : Nat} {B B' : Blk} (h : H[b]? = some B) : (H.set b B')[b]? = some B' := by
  have := (List.getElem?_eq_some_iff.1 h).1
  simp [this]
theorem set_get_ne {H : Heap} {b b' : Nat} {B B' : Blk} (h : H[b']? = some B) (hne : b' ≠ b) : (H.set b B')[b']? = some B := by
  rw [List.getElem?_set_ne (Ne.symm hne)]; exact h
theorem Acc.set_nb {sz b : Nat} {rows : List (List Cell)} {v : AVal} {H : Heap} {B : Blk} (h : Acc sz rows v H) (hn : NB v b) : Acc sz rows v (H.set b B) := by
  rcases h with h | ⟨b', ext, h1, h2⟩
  · exact .inl h
  · refine .inr ⟨b', ext, h1, set_get_ne h2 fun e => ?_⟩
    subst e
    exact hn _ _ _ _ h1

end Go.Proofs.YtpjbjdicdjlmeaaGreatDoor.Eng
