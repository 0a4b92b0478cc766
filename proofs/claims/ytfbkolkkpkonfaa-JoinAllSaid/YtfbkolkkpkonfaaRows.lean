/-
  No cell of these rows narrows 'for every input' (looked for: loops, veiled, ifaces, maps, wideKeys, modest, calm, conditions, laid).
  DERIVED. THE GIVEN ROWS OF THIS SEAT. 12 by the template 'for every input the law returns true; each argument reads behind the call as it read before'; 0 by the template 'total and deterministic' (their statements: YtfbkolkkpkonfaaTotals.lean).
  GIVEN WITH THE SEED: the statements are not yours to turn. If you find one false, say at which input.
  Laid BY PROGRAM, IN A SANDBOX (cutbox-rows.mjs): the forced cells as the released guide's own fill.sh prints them over the translation 17ca80cc332d3dbc… (all of the seat's roots in one cut). By AI agents, Wed Nov 11 2026. No macro, syntax, notation, axiom, sorry.
-/
import Derived.Test.YtfbkolkkpkonfaaChecked
import GoSem.Claim
import GoSem.ClaimJoined
import GoSem.ClaimMapViews
import Derived.JoinedTies
import Derived.KernelRfl
namespace Go.Proofs.Ytfbkolkkpkonfaa
/- THE CELL 'sum', in the pinned program and in every row, IS THE sha256 OF THE DUMP (.gsa) THAT YtfbkolkkpkonfaaProg.lean LOADS. Nothing in Lean hashes anything: it is a label: what it is worth is what the hold of that sum in a sandbox is worth. -/
noncomputable def Try.pinned : Pinned := { name := "ytfbkolkkpkonfaa", sum := "17ca80cc332d3dbcd947ae2c3d5494c6b98f4b9ed9c2bce79941f89ac91107f7", checked := Try.checked }
namespace Rows
def none {H : Type} : Left H := { results := [], args := [] }

/-- 'deaddroplaw7.DotsCount': WHATEVER THE INPUT: true; the input reads as it did. -/
def dotsCountSpec : ChangeSpec := { name := "dotsCount", fn := fun _ => fun
  | [d] => { results := [.lit (.bool true)], args := [d] }
  | _ => none }
def dotsCountRow : OpenClaim := { program := "ytfbkolkkpkonfaa", sum := "17ca80cc332d3dbcd947ae2c3d5494c6b98f4b9ed9c2bce79941f89ac91107f7", func := "deaddrop/deaddroplaw7.DotsCount", spec := "dotsCount", unfollowed := true, recurses := true, apart := false }
def DotsCountSaid : Prop := dotsCountRow.holds Try.pinned (OpenSpec.ofChange dotsCountSpec)

/-- ITS FALSE NEIGHBOUR: 'it returns false'. Refute it at one input. -/
def dotsCountWrong : ChangeSpec := { name := "dotsCount", fn := fun _ => fun
  | [d] => { results := [.lit (.bool false)], args := [d] }
  | _ => none }
def DotsCountWrongFalsely : Prop := dotsCountRow.holds Try.pinned (OpenSpec.ofChange dotsCountWrong)

/-- 'deaddroplaw7.DotsEdges': WHATEVER THE INPUT: true; the input reads as it did. -/
def dotsEdgesSpec : ChangeSpec := { name := "dotsEdges", fn := fun _ => fun
  | [d1, d2, d3] => { results := [.lit (.bool true)], args := [d1, d2, d3] }
  | _ => none }
def dotsEdgesRow : OpenClaim := { program := "ytfbkolkkpkonfaa", sum := "17ca80cc332d3dbcd947ae2c3d5494c6b98f4b9ed9c2bce79941f89ac91107f7", func := "deaddrop/deaddroplaw7.DotsEdges", spec := "dotsEdges", unfollowed := true, recurses := true, apart := false }
def DotsEdgesSaid : Prop := dotsEdgesRow.holds Try.pinned (OpenSpec.ofChange dotsEdgesSpec)

/-- ITS FALSE NEIGHBOUR: 'it returns false'. Refute it at one input. -/
def dotsEdgesWrong : ChangeSpec := { name := "dotsEdges", fn := fun _ => fun
  | [d1, d2, d3] => { results := [.lit (.bool false)], args := [d1, d2, d3] }
  | _ => none }
def DotsEdgesWrongFalsely : Prop := dotsEdgesRow.holds Try.pinned (OpenSpec.ofChange dotsEdgesWrong)

/-- 'deaddroplaw7.DotsLaws': WHATEVER THE INPUT: true; the input reads as it did. -/
def dotsLawsSpec : ChangeSpec := { name := "dotsLaws", fn := fun _ => fun
  | [d1, d2, d3] => { results := [.lit (.bool true)], args := [d1, d2, d3] }
  | _ => none }
def dotsLawsRow : OpenClaim := { program := "ytfbkolkkpkonfaa", sum := "17ca80cc332d3dbcd947ae2c3d5494c6b98f4b9ed9c2bce79941f89ac91107f7", func := "deaddrop/deaddroplaw7.DotsLaws", spec := "dotsLaws", unfollowed := true, recurses := true, apart := false }
def DotsLawsSaid : Prop := dotsLawsRow.holds Try.pinned (OpenSpec.ofChange dotsLawsSpec)

/-- ITS FALSE NEIGHBOUR: 'it returns false'. Refute it at one input. -/
def dotsLawsWrong : ChangeSpec := { name := "dotsLaws", fn := fun _ => fun
  | [d1, d2, d3] => { results := [.lit (.bool false)], args := [d1, d2, d3] }
  | _ => none }
def DotsLawsWrongFalsely : Prop := dotsLawsRow.holds Try.pinned (OpenSpec.ofChange dotsLawsWrong)

/-- 'deaddroplaw7.DotsOne': WHATEVER THE INPUT: true; the input reads as it did. -/
def dotsOneSpec : ChangeSpec := { name := "dotsOne", fn := fun _ => fun
  | [d1, d2] => { results := [.lit (.bool true)], args := [d1, d2] }
  | _ => none }
def dotsOneRow : OpenClaim := { program := "ytfbkolkkpkonfaa", sum := "17ca80cc332d3dbcd947ae2c3d5494c6b98f4b9ed9c2bce79941f89ac91107f7", func := "deaddrop/deaddroplaw7.DotsOne", spec := "dotsOne", unfollowed := true, recurses := true, apart := false }
def DotsOneSaid : Prop := dotsOneRow.holds Try.pinned (OpenSpec.ofChange dotsOneSpec)

/-- ITS FALSE NEIGHBOUR: 'it returns false'. Refute it at one input. -/
def dotsOneWrong : ChangeSpec := { name := "dotsOne", fn := fun _ => fun
  | [d1, d2] => { results := [.lit (.bool false)], args := [d1, d2] }
  | _ => none }
def DotsOneWrongFalsely : Prop := dotsOneRow.holds Try.pinned (OpenSpec.ofChange dotsOneWrong)

/-- 'deaddroplaw9.JoinLaws': WHATEVER THE INPUT: true; the input reads as it did. -/
def joinLawsSpec : ChangeSpec := { name := "joinLaws", fn := fun _ => fun
  | [d] => { results := [.lit (.bool true)], args := [d] }
  | _ => none }
def joinLawsRow : OpenClaim := { program := "ytfbkolkkpkonfaa", sum := "17ca80cc332d3dbcd947ae2c3d5494c6b98f4b9ed9c2bce79941f89ac91107f7", func := "deaddrop/deaddroplaw9.JoinLaws", spec := "joinLaws", unfollowed := true, recurses := true, apart := false }
def JoinLawsSaid : Prop := joinLawsRow.holds Try.pinned (OpenSpec.ofChange joinLawsSpec)

/-- ITS FALSE NEIGHBOUR: 'it returns false'. Refute it at one input. -/
def joinLawsWrong : ChangeSpec := { name := "joinLaws", fn := fun _ => fun
  | [d] => { results := [.lit (.bool false)], args := [d] }
  | _ => none }
def JoinLawsWrongFalsely : Prop := joinLawsRow.holds Try.pinned (OpenSpec.ofChange joinLawsWrong)

/-- 'deaddroplaw9.JoinDots': WHATEVER THE INPUT: true; the input reads as it did. -/
def joinDotsSpec : ChangeSpec := { name := "joinDots", fn := fun _ => fun
  | [d] => { results := [.lit (.bool true)], args := [d] }
  | _ => none }
def joinDotsRow : OpenClaim := { program := "ytfbkolkkpkonfaa", sum := "17ca80cc332d3dbcd947ae2c3d5494c6b98f4b9ed9c2bce79941f89ac91107f7", func := "deaddrop/deaddroplaw9.JoinDots", spec := "joinDots", unfollowed := true, recurses := true, apart := false }
def JoinDotsSaid : Prop := joinDotsRow.holds Try.pinned (OpenSpec.ofChange joinDotsSpec)

/-- ITS FALSE NEIGHBOUR: 'it returns false'. Refute it at one input. -/
def joinDotsWrong : ChangeSpec := { name := "joinDots", fn := fun _ => fun
  | [d] => { results := [.lit (.bool false)], args := [d] }
  | _ => none }
def JoinDotsWrongFalsely : Prop := joinDotsRow.holds Try.pinned (OpenSpec.ofChange joinDotsWrong)

/-- 'deaddroplaw9.JoinSeen': WHATEVER THE INPUT: true; the input reads as it did. -/
def joinSeenSpec : ChangeSpec := { name := "joinSeen", fn := fun _ => fun
  | [d1, d2] => { results := [.lit (.bool true)], args := [d1, d2] }
  | _ => none }
def joinSeenRow : OpenClaim := { program := "ytfbkolkkpkonfaa", sum := "17ca80cc332d3dbcd947ae2c3d5494c6b98f4b9ed9c2bce79941f89ac91107f7", func := "deaddrop/deaddroplaw9.JoinSeen", spec := "joinSeen", unfollowed := true, recurses := true, apart := false }
def JoinSeenSaid : Prop := joinSeenRow.holds Try.pinned (OpenSpec.ofChange joinSeenSpec)

/-- ITS FALSE NEIGHBOUR: 'it returns false'. Refute it at one input. -/
def joinSeenWrong : ChangeSpec := { name := "joinSeen", fn := fun _ => fun
  | [d1, d2] => { results := [.lit (.bool false)], args := [d1, d2] }
  | _ => none }
def JoinSeenWrongFalsely : Prop := joinSeenRow.holds Try.pinned (OpenSpec.ofChange joinSeenWrong)

/-- 'deaddroplaw7.DotsMade': WHATEVER THE INPUT: true; the input reads as it did. -/
def dotsMadeSpec : ChangeSpec := { name := "dotsMade", fn := fun _ => fun
  | [d1, d2, d3] => { results := [.lit (.bool true)], args := [d1, d2, d3] }
  | _ => none }
def dotsMadeRow : OpenClaim := { program := "ytfbkolkkpkonfaa", sum := "17ca80cc332d3dbcd947ae2c3d5494c6b98f4b9ed9c2bce79941f89ac91107f7", func := "deaddrop/deaddroplaw7.DotsMade", spec := "dotsMade", unfollowed := true, recurses := true, apart := false }
def DotsMadeSaid : Prop := dotsMadeRow.holds Try.pinned (OpenSpec.ofChange dotsMadeSpec)

/-- ITS FALSE NEIGHBOUR: 'it returns false'. Refute it at one input. -/
def dotsMadeWrong : ChangeSpec := { name := "dotsMade", fn := fun _ => fun
  | [d1, d2, d3] => { results := [.lit (.bool false)], args := [d1, d2, d3] }
  | _ => none }
def DotsMadeWrongFalsely : Prop := dotsMadeRow.holds Try.pinned (OpenSpec.ofChange dotsMadeWrong)

/-- 'deaddroplaw7.DotsAll': WHATEVER THE INPUT: true; the input reads as it did. -/
def dotsAllSpec : ChangeSpec := { name := "dotsAll", fn := fun _ => fun
  | [d1, d2, d3, d4, d5] => { results := [.lit (.bool true)], args := [d1, d2, d3, d4, d5] }
  | _ => none }
def dotsAllRow : OpenClaim := { program := "ytfbkolkkpkonfaa", sum := "17ca80cc332d3dbcd947ae2c3d5494c6b98f4b9ed9c2bce79941f89ac91107f7", func := "deaddrop/deaddroplaw7.DotsAll", spec := "dotsAll", unfollowed := true, recurses := true, apart := false }
def DotsAllSaid : Prop := dotsAllRow.holds Try.pinned (OpenSpec.ofChange dotsAllSpec)

/-- ITS FALSE NEIGHBOUR: 'it returns false'. Refute it at one input. -/
def dotsAllWrong : ChangeSpec := { name := "dotsAll", fn := fun _ => fun
  | [d1, d2, d3, d4, d5] => { results := [.lit (.bool false)], args := [d1, d2, d3, d4, d5] }
  | _ => none }
def DotsAllWrongFalsely : Prop := dotsAllRow.holds Try.pinned (OpenSpec.ofChange dotsAllWrong)

/-- 'deaddroplaw9.JoinAll': WHATEVER THE INPUT: true; the input reads as it did. -/
def joinAllSpec : ChangeSpec := { name := "joinAll", fn := fun _ => fun
  | [d1, d2, d3] => { results := [.lit (.bool true)], args := [d1, d2, d3] }
  | _ => none }
def joinAllRow : OpenClaim := { program := "ytfbkolkkpkonfaa", sum := "17ca80cc332d3dbcd947ae2c3d5494c6b98f4b9ed9c2bce79941f89ac91107f7", func := "deaddrop/deaddroplaw9.JoinAll", spec := "joinAll", unfollowed := true, recurses := true, apart := false }
def JoinAllSaid : Prop := joinAllRow.holds Try.pinned (OpenSpec.ofChange joinAllSpec)

/-- ITS FALSE NEIGHBOUR: 'it returns false'. Refute it at one input. -/
def joinAllWrong : ChangeSpec := { name := "joinAll", fn := fun _ => fun
  | [d1, d2, d3] => { results := [.lit (.bool false)], args := [d1, d2, d3] }
  | _ => none }
def JoinAllWrongFalsely : Prop := joinAllRow.holds Try.pinned (OpenSpec.ofChange joinAllWrong)

/-- 'deaddroplaw9.JoinMade': WHATEVER THE INPUT: true; the input reads as it did. -/
def joinMadeSpec : ChangeSpec := { name := "joinMade", fn := fun _ => fun
  | [d1, d2, d3] => { results := [.lit (.bool true)], args := [d1, d2, d3] }
  | _ => none }
def joinMadeRow : OpenClaim := { program := "ytfbkolkkpkonfaa", sum := "17ca80cc332d3dbcd947ae2c3d5494c6b98f4b9ed9c2bce79941f89ac91107f7", func := "deaddrop/deaddroplaw9.JoinMade", spec := "joinMade", unfollowed := true, recurses := true, apart := false }
def JoinMadeSaid : Prop := joinMadeRow.holds Try.pinned (OpenSpec.ofChange joinMadeSpec)

/-- ITS FALSE NEIGHBOUR: 'it returns false'. Refute it at one input. -/
def joinMadeWrong : ChangeSpec := { name := "joinMade", fn := fun _ => fun
  | [d1, d2, d3] => { results := [.lit (.bool false)], args := [d1, d2, d3] }
  | _ => none }
def JoinMadeWrongFalsely : Prop := joinMadeRow.holds Try.pinned (OpenSpec.ofChange joinMadeWrong)

/-- 'deaddroplaw9.JoinRounds': WHATEVER THE INPUT: true; the input reads as it did. -/
def joinRoundsSpec : ChangeSpec := { name := "joinRounds", fn := fun _ => fun
  | [d1, d2] => { results := [.lit (.bool true)], args := [d1, d2] }
  | _ => none }
def joinRoundsRow : OpenClaim := { program := "ytfbkolkkpkonfaa", sum := "17ca80cc332d3dbcd947ae2c3d5494c6b98f4b9ed9c2bce79941f89ac91107f7", func := "deaddrop/deaddroplaw9.JoinRounds", spec := "joinRounds", unfollowed := true, recurses := true, apart := false }
def JoinRoundsSaid : Prop := joinRoundsRow.holds Try.pinned (OpenSpec.ofChange joinRoundsSpec)

/-- ITS FALSE NEIGHBOUR: 'it returns false'. Refute it at one input. -/
def joinRoundsWrong : ChangeSpec := { name := "joinRounds", fn := fun _ => fun
  | [d1, d2] => { results := [.lit (.bool false)], args := [d1, d2] }
  | _ => none }
def JoinRoundsWrongFalsely : Prop := joinRoundsRow.holds Try.pinned (OpenSpec.ofChange joinRoundsWrong)

/- THE SECOND FORM. 'bulk': how many values and letters a reading holds, each counted each time it is reached (what is shared counts as often as it is met; a slice's spare places count too). A statement '..UptoSaid' is the law's where the arguments, and the package variables that the reading takes, are together of bulk at most 1048576: NARROWER than '..Said'. Prove '..Said' where nothing that the law and all that it calls make is longer than what came in: it says more and counts as full. Else prove '..UptoSaid'. A law counts once. -/
mutual
def uptoBulk {H : Type} : DataW H → Nat
  | .lit (.string bytes) => bytes.length + 1
  | .lit _ => 1
  | .nil => 1
  | .ptr d => uptoBulk d + 1
  | .slice elems spare => uptoBulkAll elems + uptoBulkAll spare + 1
  | .agg parts => uptoBulkAll parts + 1
  | .iface _ d => uptoBulk d + 1
  | .map entries => uptoBulkEntries entries + 1
  | .held _ => 1
def uptoBulkAll {H : Type} : List (DataW H) → Nat
  | [] => 0
  | d :: r => uptoBulk d + uptoBulkAll r
def uptoBulkEntries {H : Type} : List (Lit × DataW H) → Nat
  | [] => 0
  | x :: r => uptoBulkEntry x + uptoBulkEntries r
def uptoBulkEntry {H : Type} : Lit × DataW H → Nat
  | (.string bytes, d) => bytes.length + uptoBulk d + 1
  | (_, d) => uptoBulk d + 1
 end
def uptoSmall : (H : Type) → List (DataW H) → Bool := fun _ ds => decide (uptoBulkAll ds ≤ 1048576)
def OpenSpec.upto (s : _root_.Go.ChangeSpec) : _root_.Go.OpenSpec := { _root_.Go.OpenSpec.ofChange s with cond := some uptoSmall }

/-- 'deaddroplaw7.DotsCount', WHERE WHAT IT READS IS OF BULK AT MOST 1048576: true; the input reads as it did. -/
def dotsCountUptoRow : OpenClaim := { program := "ytfbkolkkpkonfaa", sum := "17ca80cc332d3dbcd947ae2c3d5494c6b98f4b9ed9c2bce79941f89ac91107f7", func := "deaddrop/deaddroplaw7.DotsCount", spec := "dotsCount", unfollowed := true, recurses := true, apart := false, narrowed := true }
def DotsCountUptoSaid : Prop := dotsCountUptoRow.holds Try.pinned (OpenSpec.upto dotsCountSpec)

/-- 'deaddroplaw7.DotsEdges', WHERE WHAT IT READS IS OF BULK AT MOST 1048576: true; the input reads as it did. -/
def dotsEdgesUptoRow : OpenClaim := { program := "ytfbkolkkpkonfaa", sum := "17ca80cc332d3dbcd947ae2c3d5494c6b98f4b9ed9c2bce79941f89ac91107f7", func := "deaddrop/deaddroplaw7.DotsEdges", spec := "dotsEdges", unfollowed := true, recurses := true, apart := false, narrowed := true }
def DotsEdgesUptoSaid : Prop := dotsEdgesUptoRow.holds Try.pinned (OpenSpec.upto dotsEdgesSpec)

/-- 'deaddroplaw7.DotsLaws', WHERE WHAT IT READS IS OF BULK AT MOST 1048576: true; the input reads as it did. -/
def dotsLawsUptoRow : OpenClaim := { program := "ytfbkolkkpkonfaa", sum := "17ca80cc332d3dbcd947ae2c3d5494c6b98f4b9ed9c2bce79941f89ac91107f7", func := "deaddrop/deaddroplaw7.DotsLaws", spec := "dotsLaws", unfollowed := true, recurses := true, apart := false, narrowed := true }
def DotsLawsUptoSaid : Prop := dotsLawsUptoRow.holds Try.pinned (OpenSpec.upto dotsLawsSpec)

/-- 'deaddroplaw7.DotsOne', WHERE WHAT IT READS IS OF BULK AT MOST 1048576: true; the input reads as it did. -/
def dotsOneUptoRow : OpenClaim := { program := "ytfbkolkkpkonfaa", sum := "17ca80cc332d3dbcd947ae2c3d5494c6b98f4b9ed9c2bce79941f89ac91107f7", func := "deaddrop/deaddroplaw7.DotsOne", spec := "dotsOne", unfollowed := true, recurses := true, apart := false, narrowed := true }
def DotsOneUptoSaid : Prop := dotsOneUptoRow.holds Try.pinned (OpenSpec.upto dotsOneSpec)

/-- 'deaddroplaw9.JoinLaws', WHERE WHAT IT READS IS OF BULK AT MOST 1048576: true; the input reads as it did. -/
def joinLawsUptoRow : OpenClaim := { program := "ytfbkolkkpkonfaa", sum := "17ca80cc332d3dbcd947ae2c3d5494c6b98f4b9ed9c2bce79941f89ac91107f7", func := "deaddrop/deaddroplaw9.JoinLaws", spec := "joinLaws", unfollowed := true, recurses := true, apart := false, narrowed := true }
def JoinLawsUptoSaid : Prop := joinLawsUptoRow.holds Try.pinned (OpenSpec.upto joinLawsSpec)

/-- 'deaddroplaw9.JoinDots', WHERE WHAT IT READS IS OF BULK AT MOST 1048576: true; the input reads as it did. -/
def joinDotsUptoRow : OpenClaim := { program := "ytfbkolkkpkonfaa", sum := "17ca80cc332d3dbcd947ae2c3d5494c6b98f4b9ed9c2bce79941f89ac91107f7", func := "deaddrop/deaddroplaw9.JoinDots", spec := "joinDots", unfollowed := true, recurses := true, apart := false, narrowed := true }
def JoinDotsUptoSaid : Prop := joinDotsUptoRow.holds Try.pinned (OpenSpec.upto joinDotsSpec)

/-- 'deaddroplaw9.JoinSeen', WHERE WHAT IT READS IS OF BULK AT MOST 1048576: true; the input reads as it did. -/
def joinSeenUptoRow : OpenClaim := { program := "ytfbkolkkpkonfaa", sum := "17ca80cc332d3dbcd947ae2c3d5494c6b98f4b9ed9c2bce79941f89ac91107f7", func := "deaddrop/deaddroplaw9.JoinSeen", spec := "joinSeen", unfollowed := true, recurses := true, apart := false, narrowed := true }
def JoinSeenUptoSaid : Prop := joinSeenUptoRow.holds Try.pinned (OpenSpec.upto joinSeenSpec)

/-- 'deaddroplaw7.DotsMade', WHERE WHAT IT READS IS OF BULK AT MOST 1048576: true; the input reads as it did. -/
def dotsMadeUptoRow : OpenClaim := { program := "ytfbkolkkpkonfaa", sum := "17ca80cc332d3dbcd947ae2c3d5494c6b98f4b9ed9c2bce79941f89ac91107f7", func := "deaddrop/deaddroplaw7.DotsMade", spec := "dotsMade", unfollowed := true, recurses := true, apart := false, narrowed := true }
def DotsMadeUptoSaid : Prop := dotsMadeUptoRow.holds Try.pinned (OpenSpec.upto dotsMadeSpec)

/-- 'deaddroplaw7.DotsAll', WHERE WHAT IT READS IS OF BULK AT MOST 1048576: true; the input reads as it did. -/
def dotsAllUptoRow : OpenClaim := { program := "ytfbkolkkpkonfaa", sum := "17ca80cc332d3dbcd947ae2c3d5494c6b98f4b9ed9c2bce79941f89ac91107f7", func := "deaddrop/deaddroplaw7.DotsAll", spec := "dotsAll", unfollowed := true, recurses := true, apart := false, narrowed := true }
def DotsAllUptoSaid : Prop := dotsAllUptoRow.holds Try.pinned (OpenSpec.upto dotsAllSpec)

/-- 'deaddroplaw9.JoinAll', WHERE WHAT IT READS IS OF BULK AT MOST 1048576: true; the input reads as it did. -/
def joinAllUptoRow : OpenClaim := { program := "ytfbkolkkpkonfaa", sum := "17ca80cc332d3dbcd947ae2c3d5494c6b98f4b9ed9c2bce79941f89ac91107f7", func := "deaddrop/deaddroplaw9.JoinAll", spec := "joinAll", unfollowed := true, recurses := true, apart := false, narrowed := true }
def JoinAllUptoSaid : Prop := joinAllUptoRow.holds Try.pinned (OpenSpec.upto joinAllSpec)

/-- 'deaddroplaw9.JoinMade', WHERE WHAT IT READS IS OF BULK AT MOST 1048576: true; the input reads as it did. -/
def joinMadeUptoRow : OpenClaim := { program := "ytfbkolkkpkonfaa", sum := "17ca80cc332d3dbcd947ae2c3d5494c6b98f4b9ed9c2bce79941f89ac91107f7", func := "deaddrop/deaddroplaw9.JoinMade", spec := "joinMade", unfollowed := true, recurses := true, apart := false, narrowed := true }
def JoinMadeUptoSaid : Prop := joinMadeUptoRow.holds Try.pinned (OpenSpec.upto joinMadeSpec)

/-- 'deaddroplaw9.JoinRounds', WHERE WHAT IT READS IS OF BULK AT MOST 1048576: true; the input reads as it did. -/
def joinRoundsUptoRow : OpenClaim := { program := "ytfbkolkkpkonfaa", sum := "17ca80cc332d3dbcd947ae2c3d5494c6b98f4b9ed9c2bce79941f89ac91107f7", func := "deaddrop/deaddroplaw9.JoinRounds", spec := "joinRounds", unfollowed := true, recurses := true, apart := false, narrowed := true }
def JoinRoundsUptoSaid : Prop := joinRoundsUptoRow.holds Try.pinned (OpenSpec.upto joinRoundsSpec)

end Rows
end Go.Proofs.Ytfbkolkkpkonfaa
