/- The engine, part 17: from a call of the slim code to a call of the program's. No statement of the seat is proved here. -/
import Derived.Test.YtpjbjdicdjlmeaaDoorZPartB
import Derived.Test.YtpjbjdicdjlmeaaDoorZEng16
namespace Go.Proofs.YtpjbjdicdjlmeaaDoor.Eng
open Go
set_option linter.unusedVariables false
set_option linter.unusedSimpArgs false

variable {P : Program}

/-- What holds behind a call. -/
def Ends (B : Nat) (m : LMap) (H : Heap) (w : World) (R : AVal → Heap → Prop) (e : Ending) (w' : World) : Prop :=
  ∃ u v m' H', e = .returned u ∧ R v H' ∧ St B H m w H' m' w' ∧ VRA m' (cellsIn w') v u

theorem calls_of {G : Prog} (hG : GOk P G) {B : Nat} {m : LMap} {H : Heap} {w : World} {f : Nat} {args : List AVal} {vs : Array Value} {R : AVal → Heap → Prop} (r : Rel B m H w) (ha : All2 (VRA m (cellsIn w)) args vs.toList)
    (h : WCall G f args H R) : Calls P f vs w (Ends B m H w R) := by
  obtain ⟨v, H', h1, h2⟩ := h
  refine ((sound hG h1).calls B m w vs r ha).mono ?_
  rintro e w' ⟨u, m', rfl, hst, hv⟩
  exact ⟨u, v, m', H', rfl, h2, hst, hv⟩

/-! ### Arithmetic on whole numbers -/
theorem wrap64 {n : Int} (h : -9223372036854775808 ≤ n ∧ n ≤ 9223372036854775807) : IntKind.wrap .i64 n = n := by
  unfold IntKind.wrap
  simp [IntKind.bits, IntKind.signed, IntKind.min, IntKind.max]
  omega

end Go.Proofs.YtpjbjdicdjlmeaaDoor.Eng
