/-
  DERIVED. GIVEN WITH THE SEED: THE CARDS: each row of YtpjbjdicdjlmeaaDoorRows.lean that lists a variable, with what it lists TIED to the program's text (the seventh form; the later family's looks); each row that meets fmt, with fmt's text TOLD by the authors' own Lean function (tested against real Go, not proved from fmt's source: count such statements apart). THE CARD IS WHAT COUNTS. Prove the row's statement (the work); the ties are given (YtpjbjdicdjlmeaaDoorTie.lean); close each card by the builder's one call (the guide's Derived/Test/ToyasCard.lean, 'card_holds'). Laid BY PROGRAM, IN A SANDBOX (cutbox-door.mjs). By AI agents, Wed Nov 11 2026. No macro, syntax, notation, axiom, sorry.
-/
import Derived.Test.YtpjbjdicdjlmeaaDoorRows
import GoSem.ClaimSeven
namespace Go.Proofs.YtpjbjdicdjlmeaaDoor
namespace Rows

/-- THE TIED CARD OF 'deaddroplaw5.PadEnds'. -/
def padEndsCard : Claim7 := { stood := { row := padEndsRow, standIns := [], harness := (true, "2ef904e240edc9d6376110dd0844c8ba6a5f3bb801a90d4efec52e513d0af9bd"), looks := false }, kinds := [], alts := [], laidByText := true, laidKinds := [.data, .pinned], laidTests := true, laidLooks := .later }
def PadEndsCardSaid : Prop := Claim7.holds Tryd.pinned (.plain (OpenSpec.ofChange padEndsSpec)) padEndsCard

/-- THE SECOND FORM's CARD OF 'deaddroplaw5.PadEnds'. -/
def padEndsUptoCard : Claim7 := { stood := { row := padEndsUptoRow, standIns := [], harness := (true, "2ef904e240edc9d6376110dd0844c8ba6a5f3bb801a90d4efec52e513d0af9bd"), looks := false }, kinds := [], alts := [], laidByText := true, laidKinds := [.data, .pinned], laidTests := true, laidLooks := .later }
def PadEndsUptoCardSaid : Prop := Claim7.holds Tryd.pinned (.plain (OpenSpec.upto padEndsSpec)) padEndsUptoCard
end Rows
end Go.Proofs.YtpjbjdicdjlmeaaDoor
