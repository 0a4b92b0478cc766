/-
  DERIVED. GIVEN WITH THE SEED: THE CARDS: each row of YticmfblfghdkbaaGreatDoorRows.lean that lists a variable, with what it lists TIED to the program's text (the seventh form; the later family's looks); each row that meets fmt, with fmt's text TOLD by the authors' own Lean function (tested against real Go, not proved from fmt's source: count such statements apart). THE CARD IS WHAT COUNTS. Prove the row's statement (the work); the ties are given (YticmfblfghdkbaaGreatDoorTie.lean); close each card by the builder's one call (the guide's Derived/Test/ToyasCard.lean, 'card_holds'). Laid BY PROGRAM, IN A SANDBOX (cutbox-door.mjs). By AI agents, Wed Nov 11 2026. No macro, syntax, notation, axiom, sorry.
-/
import Derived.Test.YticmfblfghdkbaaGreatDoorRows
import GoSem.ClaimSeven
namespace Go.Proofs.YticmfblfghdkbaaGreatDoor
namespace Rows

/-- THE TIED CARD OF 'deaddroplaw17.WrapNext'. -/
def wrapNextCard : Claim7 := { stood := { row := wrapNextRow, standIns := [], harness := (true, "c59088a88fd41f01395ebcbcd764b675b9a1bf24f8cca687b2284cea51dbddea"), looks := true }, kinds := [], alts := [], laidByText := true, laidKinds := [.data, .data, .data, .handle], laidTests := true, laidLooks := .later }
def WrapNextCardSaid : Prop := Claim7.holds Tryz.pinned (.plain (OpenSpec.ofChange wrapNextSpec)) wrapNextCard

/-- THE TIED CARD OF 'deaddroplaw17.WrapOpens'. -/
def wrapOpensCard : Claim7 := { stood := { row := wrapOpensRow, standIns := [], harness := (true, "c59088a88fd41f01395ebcbcd764b675b9a1bf24f8cca687b2284cea51dbddea"), looks := true }, kinds := [], alts := [], laidByText := true, laidKinds := [.data, .data, .data, .handle], laidTests := true, laidLooks := .later }
def WrapOpensCardSaid : Prop := Claim7.holds Tryz.pinned (.plain (OpenSpec.ofChange wrapOpensSpec)) wrapOpensCard

/-- THE TIED CARD OF 'deaddroplaw17.WrapTags'. -/
def wrapTagsCard : Claim7 := { stood := { row := wrapTagsRow, standIns := [], harness := (true, "c59088a88fd41f01395ebcbcd764b675b9a1bf24f8cca687b2284cea51dbddea"), looks := true }, kinds := [], alts := [], laidByText := true, laidKinds := [.data, .data, .data, .handle], laidTests := true, laidLooks := .later }
def WrapTagsCardSaid : Prop := Claim7.holds Tryz.pinned (.plain (OpenSpec.ofChange wrapTagsSpec)) wrapTagsCard

/-- THE TIED CARD OF 'deaddroplaw17.WrapAll'. -/
def wrapAllCard : Claim7 := { stood := { row := wrapAllRow, standIns := [], harness := (true, "c59088a88fd41f01395ebcbcd764b675b9a1bf24f8cca687b2284cea51dbddea"), looks := true }, kinds := [], alts := [], laidByText := true, laidKinds := [.data, .data, .data, .handle], laidTests := true, laidLooks := .later }
def WrapAllCardSaid : Prop := Claim7.holds Tryz.pinned (.plain (OpenSpec.ofChange wrapAllSpec)) wrapAllCard

/-- THE TIED CARD OF 'deaddroplaw17.WrapMade'. -/
def wrapMadeCard : Claim7 := { stood := { row := wrapMadeRow, standIns := [], harness := (true, "c59088a88fd41f01395ebcbcd764b675b9a1bf24f8cca687b2284cea51dbddea"), looks := true }, kinds := [], alts := [], laidByText := true, laidKinds := [.data, .data, .data, .handle], laidTests := true, laidLooks := .later }
def WrapMadeCardSaid : Prop := Claim7.holds Tryz.pinned (.plain (OpenSpec.ofChange wrapMadeSpec)) wrapMadeCard

/-- THE TIED CARD OF 'deaddroplaw17.WrapAgain'. -/
def wrapAgainCard : Claim7 := { stood := { row := wrapAgainRow, standIns := [], harness := (true, "c59088a88fd41f01395ebcbcd764b675b9a1bf24f8cca687b2284cea51dbddea"), looks := true }, kinds := [], alts := [], laidByText := true, laidKinds := [.data, .data, .data, .handle], laidTests := true, laidLooks := .later }
def WrapAgainCardSaid : Prop := Claim7.holds Tryz.pinned (.plain (OpenSpec.ofChange wrapAgainSpec)) wrapAgainCard

/-- THE TIED CARD OF 'deaddroplaw18.EnvelopeAll'. -/
def envelopeAllCard : Claim7 := { stood := { row := envelopeAllRow, standIns := [], harness := (true, "c59088a88fd41f01395ebcbcd764b675b9a1bf24f8cca687b2284cea51dbddea"), looks := true }, kinds := [], alts := [], laidByText := true, laidKinds := [.data, .data, .data, .data, .handle, .pinned], laidTests := true, laidLooks := .later }
def EnvelopeAllCardSaid : Prop := Claim7.holds Tryz.pinned (.plain (OpenSpec.ofChange envelopeAllSpec)) envelopeAllCard

/-- THE TIED CARD OF 'deaddroplaw18.EnvelopeMade'. -/
def envelopeMadeCard : Claim7 := { stood := { row := envelopeMadeRow, standIns := [], harness := (true, "c59088a88fd41f01395ebcbcd764b675b9a1bf24f8cca687b2284cea51dbddea"), looks := true }, kinds := [], alts := [], laidByText := true, laidKinds := [.data, .data, .data, .data, .handle, .pinned], laidTests := true, laidLooks := .later }
def EnvelopeMadeCardSaid : Prop := Claim7.holds Tryz.pinned (.plain (OpenSpec.ofChange envelopeMadeSpec)) envelopeMadeCard

/-- THE TIED CARD OF 'deaddroplaw18.EnvelopeTold'. -/
def envelopeToldCard : Claim7 := { stood := { row := envelopeToldRow, standIns := [], harness := (true, "c59088a88fd41f01395ebcbcd764b675b9a1bf24f8cca687b2284cea51dbddea"), looks := true }, kinds := [], alts := [], laidByText := true, laidKinds := [.data, .data, .data, .data, .handle, .pinned], laidTests := true, laidLooks := .later }
def EnvelopeToldCardSaid : Prop := Claim7.holds Tryz.pinned (.plain (OpenSpec.ofChange envelopeToldSpec)) envelopeToldCard

/-- THE TIED CARD OF 'deaddroplaw18.EnvelopeSizes'. -/
def envelopeSizesCard : Claim7 := { stood := { row := envelopeSizesRow, standIns := [], harness := (true, "c59088a88fd41f01395ebcbcd764b675b9a1bf24f8cca687b2284cea51dbddea"), looks := true }, kinds := [], alts := [], laidByText := true, laidKinds := [.data, .data, .data, .data, .handle, .pinned], laidTests := true, laidLooks := .later }
def EnvelopeSizesCardSaid : Prop := Claim7.holds Tryz.pinned (.plain (OpenSpec.ofChange envelopeSizesSpec)) envelopeSizesCard

/-- THE TIED CARD OF 'deaddroplaw18.EnvelopeHeads'. -/
def envelopeHeadsCard : Claim7 := { stood := { row := envelopeHeadsRow, standIns := [], harness := (true, "c59088a88fd41f01395ebcbcd764b675b9a1bf24f8cca687b2284cea51dbddea"), looks := true }, kinds := [], alts := [], laidByText := true, laidKinds := [.data, .data, .data, .data, .handle, .pinned], laidTests := true, laidLooks := .later }
def EnvelopeHeadsCardSaid : Prop := Claim7.holds Tryz.pinned (.plain (OpenSpec.ofChange envelopeHeadsSpec)) envelopeHeadsCard

/-- THE TIED CARD OF 'deaddroplaw18.EnvelopeApart'. -/
def envelopeApartCard : Claim7 := { stood := { row := envelopeApartRow, standIns := [], harness := (true, "c59088a88fd41f01395ebcbcd764b675b9a1bf24f8cca687b2284cea51dbddea"), looks := true }, kinds := [], alts := [], laidByText := true, laidKinds := [.data, .data, .data, .data, .handle, .pinned], laidTests := true, laidLooks := .later }
def EnvelopeApartCardSaid : Prop := Claim7.holds Tryz.pinned (.plain (OpenSpec.ofChange envelopeApartSpec)) envelopeApartCard

/-- THE SECOND FORM's CARD OF 'deaddroplaw17.WrapNext'. -/
def wrapNextUptoCard : Claim7 := { stood := { row := wrapNextUptoRow, standIns := [], harness := (true, "c59088a88fd41f01395ebcbcd764b675b9a1bf24f8cca687b2284cea51dbddea"), looks := true }, kinds := [], alts := [], laidByText := true, laidKinds := [.data, .data, .data, .handle], laidTests := true, laidLooks := .later }
def WrapNextUptoCardSaid : Prop := Claim7.holds Tryz.pinned (.plain (OpenSpec.upto wrapNextSpec)) wrapNextUptoCard

/-- THE SECOND FORM's CARD OF 'deaddroplaw17.WrapOpens'. -/
def wrapOpensUptoCard : Claim7 := { stood := { row := wrapOpensUptoRow, standIns := [], harness := (true, "c59088a88fd41f01395ebcbcd764b675b9a1bf24f8cca687b2284cea51dbddea"), looks := true }, kinds := [], alts := [], laidByText := true, laidKinds := [.data, .data, .data, .handle], laidTests := true, laidLooks := .later }
def WrapOpensUptoCardSaid : Prop := Claim7.holds Tryz.pinned (.plain (OpenSpec.upto wrapOpensSpec)) wrapOpensUptoCard

/-- THE SECOND FORM's CARD OF 'deaddroplaw17.WrapTags'. -/
def wrapTagsUptoCard : Claim7 := { stood := { row := wrapTagsUptoRow, standIns := [], harness := (true, "c59088a88fd41f01395ebcbcd764b675b9a1bf24f8cca687b2284cea51dbddea"), looks := true }, kinds := [], alts := [], laidByText := true, laidKinds := [.data, .data, .data, .handle], laidTests := true, laidLooks := .later }
def WrapTagsUptoCardSaid : Prop := Claim7.holds Tryz.pinned (.plain (OpenSpec.upto wrapTagsSpec)) wrapTagsUptoCard

/-- THE SECOND FORM's CARD OF 'deaddroplaw17.WrapAll'. -/
def wrapAllUptoCard : Claim7 := { stood := { row := wrapAllUptoRow, standIns := [], harness := (true, "c59088a88fd41f01395ebcbcd764b675b9a1bf24f8cca687b2284cea51dbddea"), looks := true }, kinds := [], alts := [], laidByText := true, laidKinds := [.data, .data, .data, .handle], laidTests := true, laidLooks := .later }
def WrapAllUptoCardSaid : Prop := Claim7.holds Tryz.pinned (.plain (OpenSpec.upto wrapAllSpec)) wrapAllUptoCard

/-- THE SECOND FORM's CARD OF 'deaddroplaw17.WrapMade'. -/
def wrapMadeUptoCard : Claim7 := { stood := { row := wrapMadeUptoRow, standIns := [], harness := (true, "c59088a88fd41f01395ebcbcd764b675b9a1bf24f8cca687b2284cea51dbddea"), looks := true }, kinds := [], alts := [], laidByText := true, laidKinds := [.data, .data, .data, .handle], laidTests := true, laidLooks := .later }
def WrapMadeUptoCardSaid : Prop := Claim7.holds Tryz.pinned (.plain (OpenSpec.upto wrapMadeSpec)) wrapMadeUptoCard

/-- THE SECOND FORM's CARD OF 'deaddroplaw17.WrapAgain'. -/
def wrapAgainUptoCard : Claim7 := { stood := { row := wrapAgainUptoRow, standIns := [], harness := (true, "c59088a88fd41f01395ebcbcd764b675b9a1bf24f8cca687b2284cea51dbddea"), looks := true }, kinds := [], alts := [], laidByText := true, laidKinds := [.data, .data, .data, .handle], laidTests := true, laidLooks := .later }
def WrapAgainUptoCardSaid : Prop := Claim7.holds Tryz.pinned (.plain (OpenSpec.upto wrapAgainSpec)) wrapAgainUptoCard

/-- THE SECOND FORM's CARD OF 'deaddroplaw18.EnvelopeAll'. -/
def envelopeAllUptoCard : Claim7 := { stood := { row := envelopeAllUptoRow, standIns := [], harness := (true, "c59088a88fd41f01395ebcbcd764b675b9a1bf24f8cca687b2284cea51dbddea"), looks := true }, kinds := [], alts := [], laidByText := true, laidKinds := [.data, .data, .data, .data, .handle, .pinned], laidTests := true, laidLooks := .later }
def EnvelopeAllUptoCardSaid : Prop := Claim7.holds Tryz.pinned (.plain (OpenSpec.upto envelopeAllSpec)) envelopeAllUptoCard

/-- THE SECOND FORM's CARD OF 'deaddroplaw18.EnvelopeMade'. -/
def envelopeMadeUptoCard : Claim7 := { stood := { row := envelopeMadeUptoRow, standIns := [], harness := (true, "c59088a88fd41f01395ebcbcd764b675b9a1bf24f8cca687b2284cea51dbddea"), looks := true }, kinds := [], alts := [], laidByText := true, laidKinds := [.data, .data, .data, .data, .handle, .pinned], laidTests := true, laidLooks := .later }
def EnvelopeMadeUptoCardSaid : Prop := Claim7.holds Tryz.pinned (.plain (OpenSpec.upto envelopeMadeSpec)) envelopeMadeUptoCard

/-- THE SECOND FORM's CARD OF 'deaddroplaw18.EnvelopeTold'. -/
def envelopeToldUptoCard : Claim7 := { stood := { row := envelopeToldUptoRow, standIns := [], harness := (true, "c59088a88fd41f01395ebcbcd764b675b9a1bf24f8cca687b2284cea51dbddea"), looks := true }, kinds := [], alts := [], laidByText := true, laidKinds := [.data, .data, .data, .data, .handle, .pinned], laidTests := true, laidLooks := .later }
def EnvelopeToldUptoCardSaid : Prop := Claim7.holds Tryz.pinned (.plain (OpenSpec.upto envelopeToldSpec)) envelopeToldUptoCard

/-- THE SECOND FORM's CARD OF 'deaddroplaw18.EnvelopeSizes'. -/
def envelopeSizesUptoCard : Claim7 := { stood := { row := envelopeSizesUptoRow, standIns := [], harness := (true, "c59088a88fd41f01395ebcbcd764b675b9a1bf24f8cca687b2284cea51dbddea"), looks := true }, kinds := [], alts := [], laidByText := true, laidKinds := [.data, .data, .data, .data, .handle, .pinned], laidTests := true, laidLooks := .later }
def EnvelopeSizesUptoCardSaid : Prop := Claim7.holds Tryz.pinned (.plain (OpenSpec.upto envelopeSizesSpec)) envelopeSizesUptoCard

/-- THE SECOND FORM's CARD OF 'deaddroplaw18.EnvelopeHeads'. -/
def envelopeHeadsUptoCard : Claim7 := { stood := { row := envelopeHeadsUptoRow, standIns := [], harness := (true, "c59088a88fd41f01395ebcbcd764b675b9a1bf24f8cca687b2284cea51dbddea"), looks := true }, kinds := [], alts := [], laidByText := true, laidKinds := [.data, .data, .data, .data, .handle, .pinned], laidTests := true, laidLooks := .later }
def EnvelopeHeadsUptoCardSaid : Prop := Claim7.holds Tryz.pinned (.plain (OpenSpec.upto envelopeHeadsSpec)) envelopeHeadsUptoCard

/-- THE SECOND FORM's CARD OF 'deaddroplaw18.EnvelopeApart'. -/
def envelopeApartUptoCard : Claim7 := { stood := { row := envelopeApartUptoRow, standIns := [], harness := (true, "c59088a88fd41f01395ebcbcd764b675b9a1bf24f8cca687b2284cea51dbddea"), looks := true }, kinds := [], alts := [], laidByText := true, laidKinds := [.data, .data, .data, .data, .handle, .pinned], laidTests := true, laidLooks := .later }
def EnvelopeApartUptoCardSaid : Prop := Claim7.holds Tryz.pinned (.plain (OpenSpec.upto envelopeApartSpec)) envelopeApartUptoCard
end Rows
end Go.Proofs.YticmfblfghdkbaaGreatDoor
