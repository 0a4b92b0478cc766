/- The engine, part 27: boxes at the head of the heap, and the last block behind such. No statement of the seat is proved here. -/
import Derived.Test.YtpjbjdicdjlmeaaDoorZEng25
namespace Go.Proofs.YtpjbjdicdjlmeaaDoor.Eng
open Go
set_option linter.unusedVariables false
section
variable {H : Heap} {k k0 k1 k2 k3 k4 k5 k6 k7 : Blk} {sz : Nat} {r q : List Cell} {ow lv : Bool} {rows : List (List Cell)} {i : Nat}
theorem row_h0 : Heap.row ({ sz := sz, rows := [r], own := ow, live := true } :: H) 0 0 = some r := rfl
theorem mine_h0 : Heap.mine ({ sz := sz, rows := rows, own := true, live := true } :: H) 0 = true := rfl
theorem put_h0 : Heap.put ({ sz := sz, rows := [r], own := ow, live := lv } :: H) 0 0 q = { sz := sz, rows := [q], own := ow, live := lv } :: H := rfl
theorem row_h1 : Heap.row (k0 :: { sz := sz, rows := [r], own := ow, live := true } :: H) 1 0 = some r := rfl
theorem mine_h1 : Heap.mine (k0 :: { sz := sz, rows := rows, own := true, live := true } :: H) 1 = true := rfl
theorem put_h1 : Heap.put (k0 :: { sz := sz, rows := [r], own := ow, live := lv } :: H) 1 0 q = k0 :: { sz := sz, rows := [q], own := ow, live := lv } :: H := rfl
theorem row_h2 : Heap.row (k0 :: k1 :: { sz := sz, rows := [r], own := ow, live := true } :: H) 2 0 = some r := rfl
theorem mine_h2 : Heap.mine (k0 :: k1 :: { sz := sz, rows := rows, own := true, live := true } :: H) 2 = true := rfl
theorem put_h2 : Heap.put (k0 :: k1 :: { sz := sz, rows := [r], own := ow, live := lv } :: H) 2 0 q = k0 :: k1 :: { sz := sz, rows := [q], own := ow, live := lv } :: H := rfl
theorem row_h3 : Heap.row (k0 :: k1 :: k2 :: { sz := sz, rows := [r], own := ow, live := true } :: H) 3 0 = some r := rfl
theorem mine_h3 : Heap.mine (k0 :: k1 :: k2 :: { sz := sz, rows := rows, own := true, live := true } :: H) 3 = true := rfl
theorem put_h3 : Heap.put (k0 :: k1 :: k2 :: { sz := sz, rows := [r], own := ow, live := lv } :: H) 3 0 q = k0 :: k1 :: k2 :: { sz := sz, rows := [q], own := ow, live := lv } :: H := rfl
theorem row_h4 : Heap.row (k0 :: k1 :: k2 :: k3 :: { sz := sz, rows := [r], own := ow, live := true } :: H) 4 0 = some r := rfl
theorem mine_h4 : Heap.mine (k0 :: k1 :: k2 :: k3 :: { sz := sz, rows := rows, own := true, live := true } :: H) 4 = true := rfl
theorem put_h4 : Heap.put (k0 :: k1 :: k2 :: k3 :: { sz := sz, rows := [r], own := ow, live := lv } :: H) 4 0 q = k0 :: k1 :: k2 :: k3 :: { sz := sz, rows := [q], own := ow, live := lv } :: H := rfl
theorem row_h5 : Heap.row (k0 :: k1 :: k2 :: k3 :: k4 :: { sz := sz, rows := [r], own := ow, live := true } :: H) 5 0 = some r := rfl
theorem mine_h5 : Heap.mine (k0 :: k1 :: k2 :: k3 :: k4 :: { sz := sz, rows := rows, own := true, live := true } :: H) 5 = true := rfl
theorem put_h5 : Heap.put (k0 :: k1 :: k2 :: k3 :: k4 :: { sz := sz, rows := [r], own := ow, live := lv } :: H) 5 0 q = k0 :: k1 :: k2 :: k3 :: k4 :: { sz := sz, rows := [q], own := ow, live := lv } :: H := rfl
theorem row_h6 : Heap.row (k0 :: k1 :: k2 :: k3 :: k4 :: k5 :: { sz := sz, rows := [r], own := ow, live := true } :: H) 6 0 = some r := rfl
theorem mine_h6 : Heap.mine (k0 :: k1 :: k2 :: k3 :: k4 :: k5 :: { sz := sz, rows := rows, own := true, live := true } :: H) 6 = true := rfl
theorem put_h6 : Heap.put (k0 :: k1 :: k2 :: k3 :: k4 :: k5 :: { sz := sz, rows := [r], own := ow, live := lv } :: H) 6 0 q = k0 :: k1 :: k2 :: k3 :: k4 :: k5 :: { sz := sz, rows := [q], own := ow, live := lv } :: H := rfl
theorem row_h7 : Heap.row (k0 :: k1 :: k2 :: k3 :: k4 :: k5 :: k6 :: { sz := sz, rows := [r], own := ow, live := true } :: H) 7 0 = some r := rfl
theorem mine_h7 : Heap.mine (k0 :: k1 :: k2 :: k3 :: k4 :: k5 :: k6 :: { sz := sz, rows := rows, own := true, live := true } :: H) 7 = true := rfl
theorem put_h7 : Heap.put (k0 :: k1 :: k2 :: k3 :: k4 :: k5 :: k6 :: { sz := sz, rows := [r], own := ow, live := lv } :: H) 7 0 q = k0 :: k1 :: k2 :: k3 :: k4 :: k5 :: k6 :: { sz := sz, rows := [q], own := ow, live := lv } :: H := rfl
theorem row_t1 : Heap.row (k0 :: (H ++ [{ sz := sz, rows := rows, own := ow, live := true }])) (H.length + 1) i = rows[i]? := by simp [Heap.row]
theorem mine_t1 : Heap.mine (k0 :: (H ++ [{ sz := sz, rows := rows, own := true, live := true }])) (H.length + 1) = true := by simp [Heap.mine]
theorem put_t1 : Heap.put (k0 :: (H ++ [{ sz := sz, rows := rows, own := ow, live := lv }])) (H.length + 1) i r = k0 :: (H ++ [{ sz := sz, rows := rows.set i r, own := ow, live := lv }]) := by simp [Heap.put]
theorem row_t2 : Heap.row (k0 :: k1 :: (H ++ [{ sz := sz, rows := rows, own := ow, live := true }])) (H.length + 1 + 1) i = rows[i]? := by simp [Heap.row]
theorem mine_t2 : Heap.mine (k0 :: k1 :: (H ++ [{ sz := sz, rows := rows, own := true, live := true }])) (H.length + 1 + 1) = true := by simp [Heap.mine]
theorem put_t2 : Heap.put (k0 :: k1 :: (H ++ [{ sz := sz, rows := rows, own := ow, live := lv }])) (H.length + 1 + 1) i r = k0 :: k1 :: (H ++ [{ sz := sz, rows := rows.set i r, own := ow, live := lv }]) := by simp [Heap.put]
theorem row_t3 : Heap.row (k0 :: k1 :: k2 :: (H ++ [{ sz := sz, rows := rows, own := ow, live := true }])) (H.length + 1 + 1 + 1) i = rows[i]? := by simp [Heap.row]
theorem mine_t3 : Heap.mine (k0 :: k1 :: k2 :: (H ++ [{ sz := sz, rows := rows, own := true, live := true }])) (H.length + 1 + 1 + 1) = true := by simp [Heap.mine]
theorem put_t3 : Heap.put (k0 :: k1 :: k2 :: (H ++ [{ sz := sz, rows := rows, own := ow, live := lv }])) (H.length + 1 + 1 + 1) i r = k0 :: k1 :: k2 :: (H ++ [{ sz := sz, rows := rows.set i r, own := ow, live := lv }]) := by simp [Heap.put]
theorem row_t4 : Heap.row (k0 :: k1 :: k2 :: k3 :: (H ++ [{ sz := sz, rows := rows, own := ow, live := true }])) (H.length + 1 + 1 + 1 + 1) i = rows[i]? := by simp [Heap.row]
theorem mine_t4 : Heap.mine (k0 :: k1 :: k2 :: k3 :: (H ++ [{ sz := sz, rows := rows, own := true, live := true }])) (H.length + 1 + 1 + 1 + 1) = true := by simp [Heap.mine]
theorem put_t4 : Heap.put (k0 :: k1 :: k2 :: k3 :: (H ++ [{ sz := sz, rows := rows, own := ow, live := lv }])) (H.length + 1 + 1 + 1 + 1) i r = k0 :: k1 :: k2 :: k3 :: (H ++ [{ sz := sz, rows := rows.set i r, own := ow, live := lv }]) := by simp [Heap.put]
theorem row_t5 : Heap.row (k0 :: k1 :: k2 :: k3 :: k4 :: (H ++ [{ sz := sz, rows := rows, own := ow, live := true }])) (H.length + 1 + 1 + 1 + 1 + 1) i = rows[i]? := by simp [Heap.row]
theorem mine_t5 : Heap.mine (k0 :: k1 :: k2 :: k3 :: k4 :: (H ++ [{ sz := sz, rows := rows, own := true, live := true }])) (H.length + 1 + 1 + 1 + 1 + 1) = true := by simp [Heap.mine]
theorem put_t5 : Heap.put (k0 :: k1 :: k2 :: k3 :: k4 :: (H ++ [{ sz := sz, rows := rows, own := ow, live := lv }])) (H.length + 1 + 1 + 1 + 1 + 1) i r = k0 :: k1 :: k2 :: k3 :: k4 :: (H ++ [{ sz := sz, rows := rows.set i r, own := ow, live := lv }]) := by simp [Heap.put]
theorem row_t6 : Heap.row (k0 :: k1 :: k2 :: k3 :: k4 :: k5 :: (H ++ [{ sz := sz, rows := rows, own := ow, live := true }])) (H.length + 1 + 1 + 1 + 1 + 1 + 1) i = rows[i]? := by simp [Heap.row]
theorem mine_t6 : Heap.mine (k0 :: k1 :: k2 :: k3 :: k4 :: k5 :: (H ++ [{ sz := sz, rows := rows, own := true, live := true }])) (H.length + 1 + 1 + 1 + 1 + 1 + 1) = true := by simp [Heap.mine]
theorem put_t6 : Heap.put (k0 :: k1 :: k2 :: k3 :: k4 :: k5 :: (H ++ [{ sz := sz, rows := rows, own := ow, live := lv }])) (H.length + 1 + 1 + 1 + 1 + 1 + 1) i r = k0 :: k1 :: k2 :: k3 :: k4 :: k5 :: (H ++ [{ sz := sz, rows := rows.set i r, own := ow, live := lv }]) := by simp [Heap.put]
theorem row_t7 : Heap.row (k0 :: k1 :: k2 :: k3 :: k4 :: k5 :: k6 :: (H ++ [{ sz := sz, rows := rows, own := ow, live := true }])) (H.length + 1 + 1 + 1 + 1 + 1 + 1 + 1) i = rows[i]? := by simp [Heap.row]
theorem mine_t7 : Heap.mine (k0 :: k1 :: k2 :: k3 :: k4 :: k5 :: k6 :: (H ++ [{ sz := sz, rows := rows, own := true, live := true }])) (H.length + 1 + 1 + 1 + 1 + 1 + 1 + 1) = true := by simp [Heap.mine]
theorem put_t7 : Heap.put (k0 :: k1 :: k2 :: k3 :: k4 :: k5 :: k6 :: (H ++ [{ sz := sz, rows := rows, own := ow, live := lv }])) (H.length + 1 + 1 + 1 + 1 + 1 + 1 + 1) i r = k0 :: k1 :: k2 :: k3 :: k4 :: k5 :: k6 :: (H ++ [{ sz := sz, rows := rows.set i r, own := ow, live := lv }]) := by simp [Heap.put]
end

attribute [go_sem] row_h0 mine_h0 put_h0 row_h1 mine_h1 put_h1 row_h2 mine_h2 put_h2 row_h3 mine_h3 put_h3 row_h4 mine_h4 put_h4 row_h5 mine_h5 put_h5 row_h6 mine_h6 put_h6 row_h7 mine_h7 put_h7 row_t1 mine_t1 put_t1 row_t2 mine_t2 put_t2 row_t3 mine_t3 put_t3 row_t4 mine_t4 put_t4 row_t5 mine_t5 put_t5 row_t6 mine_t6 put_t6 row_t7 mine_t7 put_t7

/-! ### A built slice behind boxes -/
section
variable {G : Prog} {p : Post} {k : List Itm} {d : Bool} {e : Env} {H : Heap} {l : List AInstr} {dst : Option Nat} {sz bytes : Nat} {rows new : List (List Cell)} {v : AVal} {k0 k1 k2 k3 : Blk}
theorem Acc.noblk {b : Nat} {B : Blk} (h : Acc sz rows v H) (hb : H[b]? = some B) (hs : B.sz ≠ sz) : ∀ n s z q, v ≠ .c (.slc b s n q z) := by
  rintro n s z q rfl
  rcases h with ⟨_, h | h⟩ | ⟨b', ext, h, h2⟩
  · cases h
  · cases h
  · injection h with h
    injection h with h1
    subst h1
    rw [hb] at h2
    injection h2 with h2
    subst h2
    exact hs rfl

theorem Acc.app_h1 (h : Acc sz rows v (k0 :: H)) (h0 : k0.sz ≠ sz) (hb : (rows.length + new.length) * bytes ≤ 140737488355328) (hw : ∀ v' H', Acc sz (rows ++ new) v' (k0 :: H') → WL G p k d l (updO e dst v') (k0 :: H')) : thenW G p k d (vApp sz bytes v (.c (.lst sz new)) (k0 :: H)) dst l e := by
  obtain ⟨v', H', a1, a2, a3, a4⟩ := h.app (y := .lst sz new) rfl (by simp [fitsSz]) hb
  have g0 : H'[0]? = some k0 := by rw [a4 0 (h.noblk (b := 0) rfl h0) (by simp)]; rfl
  obtain ⟨H2, rfl⟩ : ∃ H2, H' = k0 :: H2 := by
    match H', g0 with
    | x0 :: R, g0 => exact ⟨R, by simp at g0; simp [*]⟩
  exact thenW_of a1 (hw v' H2 a2)
theorem Acc.set_h1_0 {B : Blk} (h : Acc sz rows v (k0 :: H)) (hs : k0.sz ≠ sz) : Acc sz rows v (B :: H) := by
  rcases h with h | ⟨b, ext, h1, h2⟩
  · exact .inl h
  · refine .inr ⟨b, ext, h1, ?_⟩
    by_cases hb : b = 0
    · subst hb; simp at h2; subst h2; exact (hs rfl).elim
    · have e : B :: H = (k0 :: H).set 0 B := rfl
      rw [e, List.getElem?_set_ne (Ne.symm hb)]; exact h2
theorem Acc.snoc_h1 {B : Blk} (h : Acc sz rows v (k0 :: H)) : Acc sz rows v (k0 :: (H ++ [B])) := h.snoc (k := B)
theorem Acc.app_h2 (h : Acc sz rows v (k0 :: k1 :: H)) (h0 : k0.sz ≠ sz) (h1 : k1.sz ≠ sz) (hb : (rows.length + new.length) * bytes ≤ 140737488355328) (hw : ∀ v' H', Acc sz (rows ++ new) v' (k0 :: k1 :: H') → WL G p k d l (updO e dst v') (k0 :: k1 :: H')) : thenW G p k d (vApp sz bytes v (.c (.lst sz new)) (k0 :: k1 :: H)) dst l e := by
  obtain ⟨v', H', a1, a2, a3, a4⟩ := h.app (y := .lst sz new) rfl (by simp [fitsSz]) hb
  have g0 : H'[0]? = some k0 := by rw [a4 0 (h.noblk (b := 0) rfl h0) (by simp)]; rfl
  have g1 : H'[1]? = some k1 := by rw [a4 1 (h.noblk (b := 1) rfl h1) (by simp)]; rfl
  obtain ⟨H2, rfl⟩ : ∃ H2, H' = k0 :: k1 :: H2 := by
    match H', g0, g1 with
    | x0 :: x1 :: R, g0, g1 => exact ⟨R, by simp at g0 g1; simp [*]⟩
  exact thenW_of a1 (hw v' H2 a2)
theorem Acc.set_h2_0 {B : Blk} (h : Acc sz rows v (k0 :: k1 :: H)) (hs : k0.sz ≠ sz) : Acc sz rows v (B :: k1 :: H) := by
  rcases h with h | ⟨b, ext, h1, h2⟩
  · exact .inl h
  · refine .inr ⟨b, ext, h1, ?_⟩
    by_cases hb : b = 0
    · subst hb; simp at h2; subst h2; exact (hs rfl).elim
    · have e : B :: k1 :: H = (k0 :: k1 :: H).set 0 B := rfl
      rw [e, List.getElem?_set_ne (Ne.symm hb)]; exact h2
theorem Acc.set_h2_1 {B : Blk} (h : Acc sz rows v (k0 :: k1 :: H)) (hs : k1.sz ≠ sz) : Acc sz rows v (k0 :: B :: H) := by
  rcases h with h | ⟨b, ext, h1, h2⟩
  · exact .inl h
  · refine .inr ⟨b, ext, h1, ?_⟩
    by_cases hb : b = 1
    · subst hb; simp at h2; subst h2; exact (hs rfl).elim
    · have e : k0 :: B :: H = (k0 :: k1 :: H).set 1 B := rfl
      rw [e, List.getElem?_set_ne (Ne.symm hb)]; exact h2
theorem Acc.snoc_h2 {B : Blk} (h : Acc sz rows v (k0 :: k1 :: H)) : Acc sz rows v (k0 :: k1 :: (H ++ [B])) := h.snoc (k := B)
theorem Acc.app_h3 (h : Acc sz rows v (k0 :: k1 :: k2 :: H)) (h0 : k0.sz ≠ sz) (h1 : k1.sz ≠ sz) (h2 : k2.sz ≠ sz) (hb : (rows.length + new.length) * bytes ≤ 140737488355328) (hw : ∀ v' H', Acc sz (rows ++ new) v' (k0 :: k1 :: k2 :: H') → WL G p k d l (updO e dst v') (k0 :: k1 :: k2 :: H')) : thenW G p k d (vApp sz bytes v (.c (.lst sz new)) (k0 :: k1 :: k2 :: H)) dst l e := by
  obtain ⟨v', H', a1, a2, a3, a4⟩ := h.app (y := .lst sz new) rfl (by simp [fitsSz]) hb
  have g0 : H'[0]? = some k0 := by rw [a4 0 (h.noblk (b := 0) rfl h0) (by simp)]; rfl
  have g1 : H'[1]? = some k1 := by rw [a4 1 (h.noblk (b := 1) rfl h1) (by simp)]; rfl
  have g2 : H'[2]? = some k2 := by rw [a4 2 (h.noblk (b := 2) rfl h2) (by simp)]; rfl
  obtain ⟨H2, rfl⟩ : ∃ H2, H' = k0 :: k1 :: k2 :: H2 := by
    match H', g0, g1, g2 with
    | x0 :: x1 :: x2 :: R, g0, g1, g2 => exact ⟨R, by simp at g0 g1 g2; simp [*]⟩
  exact thenW_of a1 (hw v' H2 a2)
theorem Acc.set_h3_0 {B : Blk} (h : Acc sz rows v (k0 :: k1 :: k2 :: H)) (hs : k0.sz ≠ sz) : Acc sz rows v (B :: k1 :: k2 :: H) := by
  rcases h with h | ⟨b, ext, h1, h2⟩
  · exact .inl h
  · refine .inr ⟨b, ext, h1, ?_⟩
    by_cases hb : b = 0
    · subst hb; simp at h2; subst h2; exact (hs rfl).elim
    · have e : B :: k1 :: k2 :: H = (k0 :: k1 :: k2 :: H).set 0 B := rfl
      rw [e, List.getElem?_set_ne (Ne.symm hb)]; exact h2
theorem Acc.set_h3_1 {B : Blk} (h : Acc sz rows v (k0 :: k1 :: k2 :: H)) (hs : k1.sz ≠ sz) : Acc sz rows v (k0 :: B :: k2 :: H) := by
  rcases h with h | ⟨b, ext, h1, h2⟩
  · exact .inl h
  · refine .inr ⟨b, ext, h1, ?_⟩
    by_cases hb : b = 1
    · subst hb; simp at h2; subst h2; exact (hs rfl).elim
    · have e : k0 :: B :: k2 :: H = (k0 :: k1 :: k2 :: H).set 1 B := rfl
      rw [e, List.getElem?_set_ne (Ne.symm hb)]; exact h2
theorem Acc.set_h3_2 {B : Blk} (h : Acc sz rows v (k0 :: k1 :: k2 :: H)) (hs : k2.sz ≠ sz) : Acc sz rows v (k0 :: k1 :: B :: H) := by
  rcases h with h | ⟨b, ext, h1, h2⟩
  · exact .inl h
  · refine .inr ⟨b, ext, h1, ?_⟩
    by_cases hb : b = 2
    · subst hb; simp at h2; subst h2; exact (hs rfl).elim
    · have e : k0 :: k1 :: B :: H = (k0 :: k1 :: k2 :: H).set 2 B := rfl
      rw [e, List.getElem?_set_ne (Ne.symm hb)]; exact h2
theorem Acc.snoc_h3 {B : Blk} (h : Acc sz rows v (k0 :: k1 :: k2 :: H)) : Acc sz rows v (k0 :: k1 :: k2 :: (H ++ [B])) := h.snoc (k := B)
theorem Acc.app_h4 (h : Acc sz rows v (k0 :: k1 :: k2 :: k3 :: H)) (h0 : k0.sz ≠ sz) (h1 : k1.sz ≠ sz) (h2 : k2.sz ≠ sz) (h3 : k3.sz ≠ sz) (hb : (rows.length + new.length) * bytes ≤ 140737488355328) (hw : ∀ v' H', Acc sz (rows ++ new) v' (k0 :: k1 :: k2 :: k3 :: H') → WL G p k d l (updO e dst v') (k0 :: k1 :: k2 :: k3 :: H')) : thenW G p k d (vApp sz bytes v (.c (.lst sz new)) (k0 :: k1 :: k2 :: k3 :: H)) dst l e := by
  obtain ⟨v', H', a1, a2, a3, a4⟩ := h.app (y := .lst sz new) rfl (by simp [fitsSz]) hb
  have g0 : H'[0]? = some k0 := by rw [a4 0 (h.noblk (b := 0) rfl h0) (by simp)]; rfl
  have g1 : H'[1]? = some k1 := by rw [a4 1 (h.noblk (b := 1) rfl h1) (by simp)]; rfl
  have g2 : H'[2]? = some k2 := by rw [a4 2 (h.noblk (b := 2) rfl h2) (by simp)]; rfl
  have g3 : H'[3]? = some k3 := by rw [a4 3 (h.noblk (b := 3) rfl h3) (by simp)]; rfl
  obtain ⟨H2, rfl⟩ : ∃ H2, H' = k0 :: k1 :: k2 :: k3 :: H2 := by
    match H', g0, g1, g2, g3 with
    | x0 :: x1 :: x2 :: x3 :: R, g0, g1, g2, g3 => exact ⟨R, by simp at g0 g1 g2 g3; simp [*]⟩
  exact thenW_of a1 (hw v' H2 a2)
theorem Acc.set_h4_0 {B : Blk} (h : Acc sz rows v (k0 :: k1 :: k2 :: k3 :: H)) (hs : k0.sz ≠ sz) : Acc sz rows v (B :: k1 :: k2 :: k3 :: H) := by
  rcases h with h | ⟨b, ext, h1, h2⟩
  · exact .inl h
  · refine .inr ⟨b, ext, h1, ?_⟩
    by_cases hb : b = 0
    · subst hb; simp at h2; subst h2; exact (hs rfl).elim
    · have e : B :: k1 :: k2 :: k3 :: H = (k0 :: k1 :: k2 :: k3 :: H).set 0 B := rfl
      rw [e, List.getElem?_set_ne (Ne.symm hb)]; exact h2
theorem Acc.set_h4_1 {B : Blk} (h : Acc sz rows v (k0 :: k1 :: k2 :: k3 :: H)) (hs : k1.sz ≠ sz) : Acc sz rows v (k0 :: B :: k2 :: k3 :: H) := by
  rcases h with h | ⟨b, ext, h1, h2⟩
  · exact .inl h
  · refine .inr ⟨b, ext, h1, ?_⟩
    by_cases hb : b = 1
    · subst hb; simp at h2; subst h2; exact (hs rfl).elim
    · have e : k0 :: B :: k2 :: k3 :: H = (k0 :: k1 :: k2 :: k3 :: H).set 1 B := rfl
      rw [e, List.getElem?_set_ne (Ne.symm hb)]; exact h2
theorem Acc.set_h4_2 {B : Blk} (h : Acc sz rows v (k0 :: k1 :: k2 :: k3 :: H)) (hs : k2.sz ≠ sz) : Acc sz rows v (k0 :: k1 :: B :: k3 :: H) := by
  rcases h with h | ⟨b, ext, h1, h2⟩
  · exact .inl h
  · refine .inr ⟨b, ext, h1, ?_⟩
    by_cases hb : b = 2
    · subst hb; simp at h2; subst h2; exact (hs rfl).elim
    · have e : k0 :: k1 :: B :: k3 :: H = (k0 :: k1 :: k2 :: k3 :: H).set 2 B := rfl
      rw [e, List.getElem?_set_ne (Ne.symm hb)]; exact h2
theorem Acc.set_h4_3 {B : Blk} (h : Acc sz rows v (k0 :: k1 :: k2 :: k3 :: H)) (hs : k3.sz ≠ sz) : Acc sz rows v (k0 :: k1 :: k2 :: B :: H) := by
  rcases h with h | ⟨b, ext, h1, h2⟩
  · exact .inl h
  · refine .inr ⟨b, ext, h1, ?_⟩
    by_cases hb : b = 3
    · subst hb; simp at h2; subst h2; exact (hs rfl).elim
    · have e : k0 :: k1 :: k2 :: B :: H = (k0 :: k1 :: k2 :: k3 :: H).set 3 B := rfl
      rw [e, List.getElem?_set_ne (Ne.symm hb)]; exact h2
theorem Acc.snoc_h4 {B : Blk} (h : Acc sz rows v (k0 :: k1 :: k2 :: k3 :: H)) : Acc sz rows v (k0 :: k1 :: k2 :: k3 :: (H ++ [B])) := h.snoc (k := B)
end

end Go.Proofs.YtpjbjdicdjlmeaaDoor.Eng
