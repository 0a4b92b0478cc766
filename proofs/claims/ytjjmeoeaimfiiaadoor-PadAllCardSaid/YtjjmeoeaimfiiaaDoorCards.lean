/-
  DERIVED. GIVEN WITH THE SEED: THE CARDS: each row of YtjjmeoeaimfiiaaDoorRows.lean that lists a variable, with what it lists TIED to the program's text (the seventh form; the later family's looks); each row that meets fmt, with fmt's text TOLD by the authors' own Lean function (tested against real Go, not proved from fmt's source: count such statements apart). THE CARD IS WHAT COUNTS. Prove the row's statement (the work); the ties are given (YtjjmeoeaimfiiaaDoorTie.lean); close each card by the builder's one call (the guide's Derived/Test/ToyasCard.lean, 'card_holds'). Laid BY PROGRAM, IN A SANDBOX (cutbox-door.mjs). By AI agents, Wed Nov 11 2026. No macro, syntax, notation, axiom, sorry.
-/
import Derived.Test.YtjjmeoeaimfiiaaDoorRows
import GoSem.ClaimSeven
namespace Go.Proofs.YtjjmeoeaimfiiaaDoor
namespace Rows

/-- THE TIED CARD OF 'deaddroplaw5.PadEnds'. -/
def padEndsCard : Claim7 := { stood := { row := padEndsRow, standIns := [], harness := (true, "f80d12d55cd5b58ffaacba956fa75508e43cfb5052801d5a6fb0c7eb5ff370a3"), looks := false }, kinds := [], alts := [], laidByText := true, laidKinds := [.data, .pinned], laidTests := true, laidLooks := .later }
def PadEndsCardSaid : Prop := Claim7.holds Tryd.pinned (.plain (OpenSpec.ofChange padEndsSpec)) padEndsCard

/-- THE TIED CARD OF 'deaddroplaw5.PadAll'. -/
def padAllCard : Claim7 := { stood := { row := padAllRow, standIns := [], harness := (true, "f80d12d55cd5b58ffaacba956fa75508e43cfb5052801d5a6fb0c7eb5ff370a3"), looks := false }, kinds := [], alts := [], laidByText := true, laidKinds := [.data, .pinned], laidTests := true, laidLooks := .later }
def PadAllCardSaid : Prop := Claim7.holds Tryd.pinned (.plain (OpenSpec.ofChange padAllSpec)) padAllCard

/-- THE TIED CARD OF 'deaddroplaw5.PadBack'. -/
def padBackCard : Claim7 := { stood := { row := padBackRow, standIns := [], harness := (true, "f80d12d55cd5b58ffaacba956fa75508e43cfb5052801d5a6fb0c7eb5ff370a3"), looks := false }, kinds := [], alts := [], laidByText := true, laidKinds := [.data, .pinned], laidTests := true, laidLooks := .later }
def PadBackCardSaid : Prop := Claim7.holds Tryd.pinned (.plain (OpenSpec.ofChange padBackSpec)) padBackCard

/-- THE SECOND FORM's CARD OF 'deaddroplaw5.PadEnds'. -/
def padEndsUptoCard : Claim7 := { stood := { row := padEndsUptoRow, standIns := [], harness := (true, "f80d12d55cd5b58ffaacba956fa75508e43cfb5052801d5a6fb0c7eb5ff370a3"), looks := false }, kinds := [], alts := [], laidByText := true, laidKinds := [.data, .pinned], laidTests := true, laidLooks := .later }
def PadEndsUptoCardSaid : Prop := Claim7.holds Tryd.pinned (.plain (OpenSpec.upto padEndsSpec)) padEndsUptoCard

/-- THE SECOND FORM's CARD OF 'deaddroplaw5.PadAll'. -/
def padAllUptoCard : Claim7 := { stood := { row := padAllUptoRow, standIns := [], harness := (true, "f80d12d55cd5b58ffaacba956fa75508e43cfb5052801d5a6fb0c7eb5ff370a3"), looks := false }, kinds := [], alts := [], laidByText := true, laidKinds := [.data, .pinned], laidTests := true, laidLooks := .later }
def PadAllUptoCardSaid : Prop := Claim7.holds Tryd.pinned (.plain (OpenSpec.upto padAllSpec)) padAllUptoCard

/-- THE SECOND FORM's CARD OF 'deaddroplaw5.PadBack'. -/
def padBackUptoCard : Claim7 := { stood := { row := padBackUptoRow, standIns := [], harness := (true, "f80d12d55cd5b58ffaacba956fa75508e43cfb5052801d5a6fb0c7eb5ff370a3"), looks := false }, kinds := [], alts := [], laidByText := true, laidKinds := [.data, .pinned], laidTests := true, laidLooks := .later }
def PadBackUptoCardSaid : Prop := Claim7.holds Tryd.pinned (.plain (OpenSpec.upto padBackSpec)) padBackUptoCard
end Rows
end Go.Proofs.YtjjmeoeaimfiiaaDoor
