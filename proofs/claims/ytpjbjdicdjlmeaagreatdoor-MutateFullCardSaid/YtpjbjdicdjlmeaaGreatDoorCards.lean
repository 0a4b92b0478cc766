/-
  DERIVED. GIVEN WITH THE SEED: THE CARDS: each row of YtpjbjdicdjlmeaaGreatDoorRows.lean that lists a variable, with what it lists TIED to the program's text (the seventh form; the later family's looks); each row that meets fmt, with fmt's text TOLD by the authors' own Lean function (tested against real Go, not proved from fmt's source: count such statements apart). THE CARD IS WHAT COUNTS. Prove the row's statement (the work); the ties are given (YtpjbjdicdjlmeaaGreatDoorTie.lean); close each card by the builder's one call (the guide's Derived/Test/ToyasCard.lean, 'card_holds'). Laid BY PROGRAM, IN A SANDBOX (cutbox-door.mjs). By AI agents, Wed Nov 11 2026. No macro, syntax, notation, axiom, sorry.
-/
import Derived.Test.YtpjbjdicdjlmeaaGreatDoorRows
import GoSem.ClaimSeven
namespace Go.Proofs.YtpjbjdicdjlmeaaGreatDoor
namespace Rows

/-- THE TIED CARD OF 'deaddroplaw11.MutateFull'. -/
def mutateFullCard : Claim7 := { stood := { row := mutateFullRow, standIns := [], harness := (true, "0765d76fb8f7ed18d4bc55d2f5035b79cfb6acf2b1f4a4833c35a08465a6e8f4"), looks := true }, kinds := [], alts := [], laidByText := true, laidKinds := [.handle], laidTests := true, laidLooks := .later }
def MutateFullCardSaid : Prop := Claim7.holds Tryz.pinned (.plain (OpenSpec.ofChange mutateFullSpec)) mutateFullCard

/-- THE SECOND FORM's CARD OF 'deaddroplaw11.MutateFull'. -/
def mutateFullUptoCard : Claim7 := { stood := { row := mutateFullUptoRow, standIns := [], harness := (true, "0765d76fb8f7ed18d4bc55d2f5035b79cfb6acf2b1f4a4833c35a08465a6e8f4"), looks := true }, kinds := [], alts := [], laidByText := true, laidKinds := [.handle], laidTests := true, laidLooks := .later }
def MutateFullUptoCardSaid : Prop := Claim7.holds Tryz.pinned (.plain (OpenSpec.upto mutateFullSpec)) mutateFullUptoCard
end Rows
end Go.Proofs.YtpjbjdicdjlmeaaGreatDoor
