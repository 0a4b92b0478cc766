/-
  DERIVED. GIVEN WITH THE SEED: THE CARDS: each row of YtnccbccnjjachaaDoorRows.lean that lists a variable, with what it lists TIED to the program's text (the seventh form; the later family's looks); each row that meets fmt, with fmt's text TOLD by the authors' own Lean function (tested against real Go, not proved from fmt's source: count such statements apart). THE CARD IS WHAT COUNTS. Prove the row's statement (the work); the ties are given (YtnccbccnjjachaaDoorTie.lean); close each card by the builder's one call (the guide's Derived/Test/ToyasCard.lean, 'card_holds'). Laid BY PROGRAM, IN A SANDBOX (cutbox-door.mjs). By AI agents, Wed Nov 11 2026. No macro, syntax, notation, axiom, sorry.
-/
import Derived.Test.YtnccbccnjjachaaDoorRows
import GoSem.ClaimSeven
namespace Go.Proofs.YtnccbccnjjachaaDoor
namespace Rows

/-- THE TIED CARD OF 'deaddroplaw11.MutateEdges'. -/
def mutateEdgesCard : Claim7 := { stood := { row := mutateEdgesRow, standIns := [], harness := (true, "5fd18eb18f60046af10d1bcc4d535f10b7879919a1f57ace12ae325f4883fd6a"), looks := true }, kinds := [], alts := [], laidByText := true, laidKinds := [.handle], laidTests := true, laidLooks := .later }
def MutateEdgesCardSaid : Prop := Claim7.holds Tryd.pinned (.plain (OpenSpec.ofChange mutateEdgesSpec)) mutateEdgesCard

/-- THE SECOND FORM's CARD OF 'deaddroplaw11.MutateEdges'. -/
def mutateEdgesUptoCard : Claim7 := { stood := { row := mutateEdgesUptoRow, standIns := [], harness := (true, "5fd18eb18f60046af10d1bcc4d535f10b7879919a1f57ace12ae325f4883fd6a"), looks := true }, kinds := [], alts := [], laidByText := true, laidKinds := [.handle], laidTests := true, laidLooks := .later }
def MutateEdgesUptoCardSaid : Prop := Claim7.holds Tryd.pinned (.plain (OpenSpec.upto mutateEdgesSpec)) mutateEdgesUptoCard
end Rows
end Go.Proofs.YtnccbccnjjachaaDoor
