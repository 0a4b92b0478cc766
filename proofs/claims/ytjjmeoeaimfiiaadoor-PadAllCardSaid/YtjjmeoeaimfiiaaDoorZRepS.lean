/- The library's Repeat, by the kit's contract, as a call of the engine (of noughts). No statement of the seat is proved here. -/
import Derived.Test.YtjjmeoeaimfiiaaDoorZPrB
import Derived.Test.YtjjmeoeaimfiiaaDoorZLayRep
namespace Go.Proofs.YtjjmeoeaimfiiaaDoor.Eng
open Go Go.Shelf Go.RowKit
set_option linter.unusedVariables false
set_option linter.unusedSimpArgs false

theorem repExtra : Builder.Extra Tryd.prog layRep_ren := {
  sizeBuilder := by kernel_rfl
  liesBuilder := by kernel_rfl
  t5 := layRep.t5
  a5 := layRep.a5
  z5 := layRep.z5
  v5 := layRep.v5
  infoByte := by kernel_rfl
  cellsByte := by kernel_rfl
  sizeByte := by kernel_rfl
  neB5 := by decide }

theorem repNumber : layRep_ren.f 105 = 15 := by kernel_rfl

/-- So many copies of a text. -/
def repS (s : ByteArray) (c : Nat) : ByteArray := ⟨(Lib.repeatL s.data.toList c).toArray⟩
theorem repS_size (s : ByteArray) (c : Nat) : (repS s c).size = c * s.size := by
  show (Lib.repeatL s.data.toList c).toArray.size = _
  rw [List.size_toArray, Lib.repeatL_length]
  rfl

theorem strings_Repeat_ok (s : ByteArray) (c : Nat) (hc : c ≤ 9223372036854775807) (hs : s.size * c ≤ 140737488355328) : Pr 15 [sC s, iC c] (sC (repS s c)) := by
  intro H
  refine ⟨by rw [← repNumber]; exact ⟨_, layRep.f105, rfl, rfl⟩, fun B m w vs r ha => ?_⟩
  obtain ⟨vs⟩ := vs
  cases ha with
  | cons a1 a2 =>
    cases a2 with
    | cons a2 a3 =>
      cases a3
      cases a1 with
      | c a1 =>
        cases a1
        cases a2 with
        | c a2 =>
          cases a2
          have h := Any.strings_Repeat layRep repExtra s c w hc hs
          rw [repNumber] at h
          refine h.mono ?_
          rintro e w' ⟨rfl, hb⟩
          exact ⟨_, ⟨m.f, m.z⟩, rfl, St.ofBelow r hb (Or.inl rfl) (fun _ h => h) (fun _ h => .inl h), .c (.str _)⟩

end Go.Proofs.YtjjmeoeaimfiiaaDoor.Eng
