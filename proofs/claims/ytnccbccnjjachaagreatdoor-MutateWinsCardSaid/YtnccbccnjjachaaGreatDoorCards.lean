/-
  DERIVED. GIVEN WITH THE SEED: THE CARDS: each row of YtnccbccnjjachaaGreatDoorRows.lean that lists a variable, with what it lists TIED to the program's text (the seventh form; the later family's looks); each row that meets fmt, with fmt's text TOLD by the authors' own Lean function (tested against real Go, not proved from fmt's source: count such statements apart). THE CARD IS WHAT COUNTS. Prove the row's statement (the work); the ties are given (YtnccbccnjjachaaGreatDoorTie.lean); close each card by the builder's one call (the guide's Derived/Test/ToyasCard.lean, 'card_holds'). Laid BY PROGRAM, IN A SANDBOX (cutbox-door.mjs). By AI agents, Wed Nov 11 2026. No macro, syntax, notation, axiom, sorry.
-/
import Derived.Test.YtnccbccnjjachaaGreatDoorRows
import GoSem.ClaimSeven
namespace Go.Proofs.YtnccbccnjjachaaGreatDoor
namespace Rows

/-- THE TIED CARD OF 'deaddroplaw11.MutateAll'. -/
def mutateAllCard : Claim7 := { stood := { row := mutateAllRow, standIns := [], harness := (true, "6f56ed017ce448e4e9e762f4fa684e96ca4a53e4b3f62d25d36d87eb0a029f12"), looks := true }, kinds := [], alts := [], laidByText := true, laidKinds := [.handle], laidTests := true, laidLooks := .later }
def MutateAllCardSaid : Prop := Claim7.holds Tryz.pinned (.plain (OpenSpec.ofChange mutateAllSpec)) mutateAllCard

/-- THE TIED CARD OF 'deaddroplaw11.MutateMade'. -/
def mutateMadeCard : Claim7 := { stood := { row := mutateMadeRow, standIns := [], harness := (true, "6f56ed017ce448e4e9e762f4fa684e96ca4a53e4b3f62d25d36d87eb0a029f12"), looks := true }, kinds := [], alts := [], laidByText := true, laidKinds := [.handle], laidTests := true, laidLooks := .later }
def MutateMadeCardSaid : Prop := Claim7.holds Tryz.pinned (.plain (OpenSpec.ofChange mutateMadeSpec)) mutateMadeCard

/-- THE TIED CARD OF 'deaddroplaw11.MutateReads'. -/
def mutateReadsCard : Claim7 := { stood := { row := mutateReadsRow, standIns := [], harness := (true, "6f56ed017ce448e4e9e762f4fa684e96ca4a53e4b3f62d25d36d87eb0a029f12"), looks := true }, kinds := [], alts := [], laidByText := true, laidKinds := [.handle], laidTests := true, laidLooks := .later }
def MutateReadsCardSaid : Prop := Claim7.holds Tryz.pinned (.plain (OpenSpec.ofChange mutateReadsSpec)) mutateReadsCard

/-- THE TIED CARD OF 'deaddroplaw11.MutateTwice'. -/
def mutateTwiceCard : Claim7 := { stood := { row := mutateTwiceRow, standIns := [], harness := (true, "6f56ed017ce448e4e9e762f4fa684e96ca4a53e4b3f62d25d36d87eb0a029f12"), looks := true }, kinds := [], alts := [], laidByText := true, laidKinds := [.handle], laidTests := true, laidLooks := .later }
def MutateTwiceCardSaid : Prop := Claim7.holds Tryz.pinned (.plain (OpenSpec.ofChange mutateTwiceSpec)) mutateTwiceCard

/-- THE TIED CARD OF 'deaddroplaw11.MutateWins'. -/
def mutateWinsCard : Claim7 := { stood := { row := mutateWinsRow, standIns := [], harness := (true, "6f56ed017ce448e4e9e762f4fa684e96ca4a53e4b3f62d25d36d87eb0a029f12"), looks := true }, kinds := [], alts := [], laidByText := true, laidKinds := [.handle], laidTests := true, laidLooks := .later }
def MutateWinsCardSaid : Prop := Claim7.holds Tryz.pinned (.plain (OpenSpec.ofChange mutateWinsSpec)) mutateWinsCard

/-- THE TIED CARD OF 'deaddroplaw11.MutateDelta'. -/
def mutateDeltaCard : Claim7 := { stood := { row := mutateDeltaRow, standIns := [], harness := (true, "6f56ed017ce448e4e9e762f4fa684e96ca4a53e4b3f62d25d36d87eb0a029f12"), looks := true }, kinds := [], alts := [], laidByText := true, laidKinds := [.handle], laidTests := true, laidLooks := .later }
def MutateDeltaCardSaid : Prop := Claim7.holds Tryz.pinned (.plain (OpenSpec.ofChange mutateDeltaSpec)) mutateDeltaCard

/-- THE TIED CARD OF 'deaddroplaw11.MutateFull'. -/
def mutateFullCard : Claim7 := { stood := { row := mutateFullRow, standIns := [], harness := (true, "6f56ed017ce448e4e9e762f4fa684e96ca4a53e4b3f62d25d36d87eb0a029f12"), looks := true }, kinds := [], alts := [], laidByText := true, laidKinds := [.handle], laidTests := true, laidLooks := .later }
def MutateFullCardSaid : Prop := Claim7.holds Tryz.pinned (.plain (OpenSpec.ofChange mutateFullSpec)) mutateFullCard

/-- THE SECOND FORM's CARD OF 'deaddroplaw11.MutateAll'. -/
def mutateAllUptoCard : Claim7 := { stood := { row := mutateAllUptoRow, standIns := [], harness := (true, "6f56ed017ce448e4e9e762f4fa684e96ca4a53e4b3f62d25d36d87eb0a029f12"), looks := true }, kinds := [], alts := [], laidByText := true, laidKinds := [.handle], laidTests := true, laidLooks := .later }
def MutateAllUptoCardSaid : Prop := Claim7.holds Tryz.pinned (.plain (OpenSpec.upto mutateAllSpec)) mutateAllUptoCard

/-- THE SECOND FORM's CARD OF 'deaddroplaw11.MutateMade'. -/
def mutateMadeUptoCard : Claim7 := { stood := { row := mutateMadeUptoRow, standIns := [], harness := (true, "6f56ed017ce448e4e9e762f4fa684e96ca4a53e4b3f62d25d36d87eb0a029f12"), looks := true }, kinds := [], alts := [], laidByText := true, laidKinds := [.handle], laidTests := true, laidLooks := .later }
def MutateMadeUptoCardSaid : Prop := Claim7.holds Tryz.pinned (.plain (OpenSpec.upto mutateMadeSpec)) mutateMadeUptoCard

/-- THE SECOND FORM's CARD OF 'deaddroplaw11.MutateReads'. -/
def mutateReadsUptoCard : Claim7 := { stood := { row := mutateReadsUptoRow, standIns := [], harness := (true, "6f56ed017ce448e4e9e762f4fa684e96ca4a53e4b3f62d25d36d87eb0a029f12"), looks := true }, kinds := [], alts := [], laidByText := true, laidKinds := [.handle], laidTests := true, laidLooks := .later }
def MutateReadsUptoCardSaid : Prop := Claim7.holds Tryz.pinned (.plain (OpenSpec.upto mutateReadsSpec)) mutateReadsUptoCard

/-- THE SECOND FORM's CARD OF 'deaddroplaw11.MutateTwice'. -/
def mutateTwiceUptoCard : Claim7 := { stood := { row := mutateTwiceUptoRow, standIns := [], harness := (true, "6f56ed017ce448e4e9e762f4fa684e96ca4a53e4b3f62d25d36d87eb0a029f12"), looks := true }, kinds := [], alts := [], laidByText := true, laidKinds := [.handle], laidTests := true, laidLooks := .later }
def MutateTwiceUptoCardSaid : Prop := Claim7.holds Tryz.pinned (.plain (OpenSpec.upto mutateTwiceSpec)) mutateTwiceUptoCard

/-- THE SECOND FORM's CARD OF 'deaddroplaw11.MutateWins'. -/
def mutateWinsUptoCard : Claim7 := { stood := { row := mutateWinsUptoRow, standIns := [], harness := (true, "6f56ed017ce448e4e9e762f4fa684e96ca4a53e4b3f62d25d36d87eb0a029f12"), looks := true }, kinds := [], alts := [], laidByText := true, laidKinds := [.handle], laidTests := true, laidLooks := .later }
def MutateWinsUptoCardSaid : Prop := Claim7.holds Tryz.pinned (.plain (OpenSpec.upto mutateWinsSpec)) mutateWinsUptoCard

/-- THE SECOND FORM's CARD OF 'deaddroplaw11.MutateDelta'. -/
def mutateDeltaUptoCard : Claim7 := { stood := { row := mutateDeltaUptoRow, standIns := [], harness := (true, "6f56ed017ce448e4e9e762f4fa684e96ca4a53e4b3f62d25d36d87eb0a029f12"), looks := true }, kinds := [], alts := [], laidByText := true, laidKinds := [.handle], laidTests := true, laidLooks := .later }
def MutateDeltaUptoCardSaid : Prop := Claim7.holds Tryz.pinned (.plain (OpenSpec.upto mutateDeltaSpec)) mutateDeltaUptoCard

/-- THE SECOND FORM's CARD OF 'deaddroplaw11.MutateFull'. -/
def mutateFullUptoCard : Claim7 := { stood := { row := mutateFullUptoRow, standIns := [], harness := (true, "6f56ed017ce448e4e9e762f4fa684e96ca4a53e4b3f62d25d36d87eb0a029f12"), looks := true }, kinds := [], alts := [], laidByText := true, laidKinds := [.handle], laidTests := true, laidLooks := .later }
def MutateFullUptoCardSaid : Prop := Claim7.holds Tryz.pinned (.plain (OpenSpec.upto mutateFullSpec)) mutateFullUptoCard
end Rows
end Go.Proofs.YtnccbccnjjachaaGreatDoor
