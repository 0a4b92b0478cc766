/- Contracts of the document's answer: a mark among marks. No statement of the seat is proved here. -/
import Derived.Test.YtpjbjdicdjlmeaaGreatDoorZMerge
import Derived.Test.YtpjbjdicdjlmeaaGreatDoorZInts
import Derived.Test.YtpjbjdicdjlmeaaGreatDoorZLitR
namespace Go.Proofs.YtpjbjdicdjlmeaaGreatDoor.Eng
open Go
set_option linter.unusedVariables false
set_option linter.unusedSimpArgs false

/-- A mark among marks in order. -/
def insL (x : Int) : List Int → List Int
  | [] => [x]
  | y :: l => if y < x then y :: insL x l else if y = x then y :: l else x :: y :: l

theorem insL_split {x : Int} : ∀ {pre suf : List Int}, (∀ y ∈ pre, y < x) → insL x (pre ++ suf) = pre ++ insL x suf
  | [], suf, _ => rfl
  | y :: pre, suf, h => by
    have h1 := h y (by simp)
    simp only [List.cons_append, insL, if_pos h1]
    rw [insL_split fun z hz => h z (by simp [hz])]
theorem insL_at {x y : Int} {l : List Int} (h : ¬ y < x) : insL x (y :: l) = if y = x then y :: l else x :: y :: l := by simp [insL, h]
theorem insL_mem {x z : Int} : ∀ {l : List Int}, z ∈ insL x l ↔ z = x ∨ z ∈ l
  | [] => by simp [insL]
  | y :: l => by
    simp only [insL]
    split
    · simp only [List.mem_cons, insL_mem (l := l)]
      constructor <;> rintro (h | h | h) <;> simp [h]
    · split
      · rename_i h1 h2; subst h2; simp
      · simp
theorem insL_sorted {x : Int} : ∀ {l : List Int}, l.Pairwise (· < ·) → (insL x l).Pairwise (· < ·)
  | [], _ => by simp [insL]
  | y :: l, h => by
    obtain ⟨h1, h2⟩ := List.pairwise_cons.1 h
    simp only [insL]
    split
    · rename_i hy
      refine List.pairwise_cons.2 ⟨fun z hz => ?_, insL_sorted h2⟩
      rcases insL_mem.1 hz with rfl | hz
      · exact hy
      · exact h1 z hz
    · split
      · exact h
      · rename_i hy hne
        refine List.pairwise_cons.2 ⟨fun z hz => ?_, h⟩
        rcases List.mem_cons.1 hz with rfl | hz
        · omega
        · have := h1 z hz; omega
theorem insL_len {x : Int} : ∀ {l : List Int}, (insL x l).length ≤ l.length + 1
  | [] => by simp [insL]
  | y :: l => by
    have := insL_len (x := x) (l := l)
    simp only [insL]
    split
    · simp; omega
    · split <;> simp

theorem appZ_step {G : Prog} {p : Post} {k : List Itm} {d : Bool} {e : Env} {H : Heap} {l : List AInstr} {dst : Option Nat} {sz bytes : Nat} {rows : List (List Cell)} (hb : rows.length * bytes ≤ 140737488355328) (hw : ∀ v' H', Acc sz rows v' H' → WL G p k d l (updO e dst v') H') :
    thenW G p k d (vAppZ sz bytes (.c (.zer sz)) (.c (.lst sz rows)) H) dst l e := by
  obtain ⟨v', H', h1, h2⟩ := (Acc.zer (sz := sz) (H := H)).appL (new := rows) (bytes := bytes) (by simpa using hb)
  exact thenW_of (by simpa [vAppZ, vApp] using h1) (hw v' H' (by simpa using h2))

end Go.Proofs.YtpjbjdicdjlmeaaGreatDoor.Eng
