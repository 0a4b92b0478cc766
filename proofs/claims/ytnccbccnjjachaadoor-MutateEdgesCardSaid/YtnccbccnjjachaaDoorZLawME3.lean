/- The law MutateEdges: its call comes to true. -/
import Derived.Test.YtnccbccnjjachaaDoorZLawME1
import Derived.Test.YtnccbccnjjachaaDoorZLawME2
namespace Go.Proofs.YtnccbccnjjachaaDoor.Eng
open Go
set_option linter.unusedVariables false

theorem u16_nat {x : Int} (h : IntKind.min .u16 ≤ x ∧ x ≤ IntKind.max .u16) : ∃ n : Nat, x = n ∧ n < 65536 := by
  obtain ⟨h1, h2⟩ := h
  have h1' : (0 : Int) ≤ x := h1
  have h2' : x ≤ 65535 := h2
  exact ⟨x.toNat, by omega, by omega⟩
theorem l11_MutateEdges_law (a : Int) (ha : IntKind.min .u16 ≤ a ∧ a ≤ IntKind.max .u16) (b : Int) (hb : IntKind.min .u16 ≤ b ∧ b ≤ IntKind.max .u16) (n : Int) (hn : IntKind.min .i64 ≤ n ∧ n ≤ IntKind.max .i64) (d : Int) (hd : IntKind.min .u8 ≤ d ∧ d ≤ IntKind.max .u8) :
    Pr 3 [.c (.int .u16 a), .c (.int .u16 b), iC n, .c (.int .u8 d)] (bC true) := by
  obtain ⟨a, rfl, q1⟩ := u16_nat ha
  obtain ⟨b, rfl, q2⟩ := u16_nat hb
  obtain ⟨d, rfl, q3⟩ := u8_nat hd
  by_cases l2 : ((d % 2 : Nat) : Int) = 1
  · exact l11_MutateEdges_one a b q1 q2 n d q3 l2
  · exact l11_MutateEdges_non a b q1 q2 n d q3 l2

end Go.Proofs.YtnccbccnjjachaaDoor.Eng
