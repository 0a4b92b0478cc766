/-
  No cell of these rows narrows 'for every input' (looked for: loops, veiled, ifaces, maps, wideKeys, modest, calm, conditions, laid).
  DERIVED. THE GIVEN ROWS OF THIS SEAT. 8 by the template 'for every input the law returns true; each argument reads behind the call as it read before'; 0 by the template 'total and deterministic' (their statements: YtjjmeoeaimfiiaaTotals.lean).
  GIVEN WITH THE SEED: the statements are not yours to turn. If you find one false, say at which input.
  Laid BY PROGRAM, IN A SANDBOX (cutbox-rows.mjs): the forced cells as the released guide's own fill.sh prints them over the translation cf27a25fea8bf3b4… (all of the seat's roots in one cut). By AI agents, Wed Nov 11 2026. No macro, syntax, notation, axiom, sorry.
-/
import Derived.Test.YtjjmeoeaimfiiaaChecked
import GoSem.Claim
import GoSem.ClaimJoined
import GoSem.ClaimMapViews
import Derived.JoinedTies
import Derived.KernelRfl
namespace Go.Proofs.Ytjjmeoeaimfiiaa
/- THE CELL 'sum', in the pinned program and in every row, IS THE sha256 OF THE DUMP (.gsa) THAT YtjjmeoeaimfiiaaProg.lean LOADS. Nothing in Lean hashes anything: it is a label: what it is worth is what the hold of that sum in a sandbox is worth. -/
noncomputable def Try.pinned : Pinned := { name := "ytjjmeoeaimfiiaa", sum := "cf27a25fea8bf3b44df68ce5edaeff01f4826bb5fd7f8202d76969954140ca27", checked := Try.checked }
namespace Rows
def none {H : Type} : Left H := { results := [], args := [] }

/-- 'deaddroplaw5.PadSteps': WHATEVER THE INPUT: true; the input reads as it did. -/
def padStepsSpec : ChangeSpec := { name := "padSteps", fn := fun _ => fun
  | [d1, d2] => { results := [.lit (.bool true)], args := [d1, d2] }
  | _ => none }
def padStepsRow : OpenClaim := { program := "ytjjmeoeaimfiiaa", sum := "cf27a25fea8bf3b44df68ce5edaeff01f4826bb5fd7f8202d76969954140ca27", func := "deaddrop/deaddroplaw5.PadSteps", spec := "padSteps", apart := false }
def PadStepsSaid : Prop := padStepsRow.holds Try.pinned (OpenSpec.ofChange padStepsSpec)

/-- ITS FALSE NEIGHBOUR: 'it returns false'. Refute it at one input. -/
def padStepsWrong : ChangeSpec := { name := "padSteps", fn := fun _ => fun
  | [d1, d2] => { results := [.lit (.bool false)], args := [d1, d2] }
  | _ => none }
def PadStepsWrongFalsely : Prop := padStepsRow.holds Try.pinned (OpenSpec.ofChange padStepsWrong)

/-- 'deaddroplaw8.FactsAll': WHATEVER THE INPUT: true; the input reads as it did. -/
def factsAllSpec : ChangeSpec := { name := "factsAll", fn := fun _ => fun
  | [d1, d2, d3, d4, d5, d6, d7] => { results := [.lit (.bool true)], args := [d1, d2, d3, d4, d5, d6, d7] }
  | _ => none }
def factsAllRow : OpenClaim := { program := "ytjjmeoeaimfiiaa", sum := "cf27a25fea8bf3b44df68ce5edaeff01f4826bb5fd7f8202d76969954140ca27", func := "deaddrop/deaddroplaw8.FactsAll", spec := "factsAll", unfollowed := true, recurses := true, apart := false }
def FactsAllSaid : Prop := factsAllRow.holds Try.pinned (OpenSpec.ofChange factsAllSpec)

/-- ITS FALSE NEIGHBOUR: 'it returns false'. Refute it at one input. -/
def factsAllWrong : ChangeSpec := { name := "factsAll", fn := fun _ => fun
  | [d1, d2, d3, d4, d5, d6, d7] => { results := [.lit (.bool false)], args := [d1, d2, d3, d4, d5, d6, d7] }
  | _ => none }
def FactsAllWrongFalsely : Prop := factsAllRow.holds Try.pinned (OpenSpec.ofChange factsAllWrong)

/-- 'deaddroplaw8.FactsMade': WHATEVER THE INPUT: true; the input reads as it did. -/
def factsMadeSpec : ChangeSpec := { name := "factsMade", fn := fun _ => fun
  | [d1, d2, d3, d4, d5] => { results := [.lit (.bool true)], args := [d1, d2, d3, d4, d5] }
  | _ => none }
def factsMadeRow : OpenClaim := { program := "ytjjmeoeaimfiiaa", sum := "cf27a25fea8bf3b44df68ce5edaeff01f4826bb5fd7f8202d76969954140ca27", func := "deaddrop/deaddroplaw8.FactsMade", spec := "factsMade", unfollowed := true, recurses := true, apart := false }
def FactsMadeSaid : Prop := factsMadeRow.holds Try.pinned (OpenSpec.ofChange factsMadeSpec)

/-- ITS FALSE NEIGHBOUR: 'it returns false'. Refute it at one input. -/
def factsMadeWrong : ChangeSpec := { name := "factsMade", fn := fun _ => fun
  | [d1, d2, d3, d4, d5] => { results := [.lit (.bool false)], args := [d1, d2, d3, d4, d5] }
  | _ => none }
def FactsMadeWrongFalsely : Prop := factsMadeRow.holds Try.pinned (OpenSpec.ofChange factsMadeWrong)

/-- 'deaddroplaw8.FactsEdges': WHATEVER THE INPUT: true; the input reads as it did. -/
def factsEdgesSpec : ChangeSpec := { name := "factsEdges", fn := fun _ => fun
  | [d1, d2, d3, d4] => { results := [.lit (.bool true)], args := [d1, d2, d3, d4] }
  | _ => none }
def factsEdgesRow : OpenClaim := { program := "ytjjmeoeaimfiiaa", sum := "cf27a25fea8bf3b44df68ce5edaeff01f4826bb5fd7f8202d76969954140ca27", func := "deaddrop/deaddroplaw8.FactsEdges", spec := "factsEdges", unfollowed := true, recurses := true, apart := false }
def FactsEdgesSaid : Prop := factsEdgesRow.holds Try.pinned (OpenSpec.ofChange factsEdgesSpec)

/-- ITS FALSE NEIGHBOUR: 'it returns false'. Refute it at one input. -/
def factsEdgesWrong : ChangeSpec := { name := "factsEdges", fn := fun _ => fun
  | [d1, d2, d3, d4] => { results := [.lit (.bool false)], args := [d1, d2, d3, d4] }
  | _ => none }
def FactsEdgesWrongFalsely : Prop := factsEdgesRow.holds Try.pinned (OpenSpec.ofChange factsEdgesWrong)

/-- 'deaddroplaw8.FactsOrder': WHATEVER THE INPUT: true; the input reads as it did. -/
def factsOrderSpec : ChangeSpec := { name := "factsOrder", fn := fun _ => fun
  | [d1, d2, d3] => { results := [.lit (.bool true)], args := [d1, d2, d3] }
  | _ => none }
def factsOrderRow : OpenClaim := { program := "ytjjmeoeaimfiiaa", sum := "cf27a25fea8bf3b44df68ce5edaeff01f4826bb5fd7f8202d76969954140ca27", func := "deaddrop/deaddroplaw8.FactsOrder", spec := "factsOrder", unfollowed := true, recurses := true, apart := false }
def FactsOrderSaid : Prop := factsOrderRow.holds Try.pinned (OpenSpec.ofChange factsOrderSpec)

/-- ITS FALSE NEIGHBOUR: 'it returns false'. Refute it at one input. -/
def factsOrderWrong : ChangeSpec := { name := "factsOrder", fn := fun _ => fun
  | [d1, d2, d3] => { results := [.lit (.bool false)], args := [d1, d2, d3] }
  | _ => none }
def FactsOrderWrongFalsely : Prop := factsOrderRow.holds Try.pinned (OpenSpec.ofChange factsOrderWrong)

/-- 'deaddroplaw8.FactsFound': WHATEVER THE INPUT: true; the input reads as it did. -/
def factsFoundSpec : ChangeSpec := { name := "factsFound", fn := fun _ => fun
  | [d1, d2] => { results := [.lit (.bool true)], args := [d1, d2] }
  | _ => none }
def factsFoundRow : OpenClaim := { program := "ytjjmeoeaimfiiaa", sum := "cf27a25fea8bf3b44df68ce5edaeff01f4826bb5fd7f8202d76969954140ca27", func := "deaddrop/deaddroplaw8.FactsFound", spec := "factsFound", unfollowed := true, recurses := true, apart := false }
def FactsFoundSaid : Prop := factsFoundRow.holds Try.pinned (OpenSpec.ofChange factsFoundSpec)

/-- ITS FALSE NEIGHBOUR: 'it returns false'. Refute it at one input. -/
def factsFoundWrong : ChangeSpec := { name := "factsFound", fn := fun _ => fun
  | [d1, d2] => { results := [.lit (.bool false)], args := [d1, d2] }
  | _ => none }
def FactsFoundWrongFalsely : Prop := factsFoundRow.holds Try.pinned (OpenSpec.ofChange factsFoundWrong)

/-- 'deaddroplaw8.FactsMay': WHATEVER THE INPUT: true; the input reads as it did. -/
def factsMaySpec : ChangeSpec := { name := "factsMay", fn := fun _ => fun
  | [d1, d2] => { results := [.lit (.bool true)], args := [d1, d2] }
  | _ => none }
def factsMayRow : OpenClaim := { program := "ytjjmeoeaimfiiaa", sum := "cf27a25fea8bf3b44df68ce5edaeff01f4826bb5fd7f8202d76969954140ca27", func := "deaddrop/deaddroplaw8.FactsMay", spec := "factsMay", unfollowed := true, recurses := true, apart := false }
def FactsMaySaid : Prop := factsMayRow.holds Try.pinned (OpenSpec.ofChange factsMaySpec)

/-- ITS FALSE NEIGHBOUR: 'it returns false'. Refute it at one input. -/
def factsMayWrong : ChangeSpec := { name := "factsMay", fn := fun _ => fun
  | [d1, d2] => { results := [.lit (.bool false)], args := [d1, d2] }
  | _ => none }
def FactsMayWrongFalsely : Prop := factsMayRow.holds Try.pinned (OpenSpec.ofChange factsMayWrong)

/-- 'deaddroplaw5.PadEdges': WHATEVER THE INPUT: true; the input reads as it did. -/
def padEdgesSpec : ChangeSpec := { name := "padEdges", fn := fun _ => fun
  | [d] => { results := [.lit (.bool true)], args := [d] }
  | _ => none }
def padEdgesRow : OpenClaim := { program := "ytjjmeoeaimfiiaa", sum := "cf27a25fea8bf3b44df68ce5edaeff01f4826bb5fd7f8202d76969954140ca27", func := "deaddrop/deaddroplaw5.PadEdges", spec := "padEdges", inPlace := ["internal/abi.NoEscape", "internal/bytealg.MakeNoZero"], apart := false }
def PadEdgesSaid : Prop := padEdgesRow.holds Try.pinned (OpenSpec.ofChange padEdgesSpec)

/-- ITS FALSE NEIGHBOUR: 'it returns false'. Refute it at one input. -/
def padEdgesWrong : ChangeSpec := { name := "padEdges", fn := fun _ => fun
  | [d] => { results := [.lit (.bool false)], args := [d] }
  | _ => none }
def PadEdgesWrongFalsely : Prop := padEdgesRow.holds Try.pinned (OpenSpec.ofChange padEdgesWrong)

/- THE SECOND FORM. 'bulk': how many values and letters a reading holds, each counted each time it is reached (what is shared counts as often as it is met; a slice's spare places count too). A statement '..UptoSaid' is the law's where the arguments, and the package variables that the reading takes, are together of bulk at most 1048576: NARROWER than '..Said'. Prove '..Said' where nothing that the law and all that it calls make is longer than what came in: it says more and counts as full. Else prove '..UptoSaid'. A law counts once. -/
mutual
def uptoBulk {H : Type} : DataW H → Nat
  | .lit (.string bytes) => bytes.length + 1
  | .lit _ => 1
  | .nil => 1
  | .ptr d => uptoBulk d + 1
  | .slice elems spare => uptoBulkAll elems + uptoBulkAll spare + 1
  | .agg parts => uptoBulkAll parts + 1
  | .iface _ d => uptoBulk d + 1
  | .map entries => uptoBulkEntries entries + 1
  | .held _ => 1
def uptoBulkAll {H : Type} : List (DataW H) → Nat
  | [] => 0
  | d :: r => uptoBulk d + uptoBulkAll r
def uptoBulkEntries {H : Type} : List (Lit × DataW H) → Nat
  | [] => 0
  | x :: r => uptoBulkEntry x + uptoBulkEntries r
def uptoBulkEntry {H : Type} : Lit × DataW H → Nat
  | (.string bytes, d) => bytes.length + uptoBulk d + 1
  | (_, d) => uptoBulk d + 1
 end
def uptoSmall : (H : Type) → List (DataW H) → Bool := fun _ ds => decide (uptoBulkAll ds ≤ 1048576)
def OpenSpec.upto (s : _root_.Go.ChangeSpec) : _root_.Go.OpenSpec := { _root_.Go.OpenSpec.ofChange s with cond := some uptoSmall }

/-- 'deaddroplaw5.PadSteps', WHERE WHAT IT READS IS OF BULK AT MOST 1048576: true; the input reads as it did. -/
def padStepsUptoRow : OpenClaim := { program := "ytjjmeoeaimfiiaa", sum := "cf27a25fea8bf3b44df68ce5edaeff01f4826bb5fd7f8202d76969954140ca27", func := "deaddrop/deaddroplaw5.PadSteps", spec := "padSteps", apart := false, narrowed := true }
def PadStepsUptoSaid : Prop := padStepsUptoRow.holds Try.pinned (OpenSpec.upto padStepsSpec)

/-- 'deaddroplaw8.FactsAll', WHERE WHAT IT READS IS OF BULK AT MOST 1048576: true; the input reads as it did. -/
def factsAllUptoRow : OpenClaim := { program := "ytjjmeoeaimfiiaa", sum := "cf27a25fea8bf3b44df68ce5edaeff01f4826bb5fd7f8202d76969954140ca27", func := "deaddrop/deaddroplaw8.FactsAll", spec := "factsAll", unfollowed := true, recurses := true, apart := false, narrowed := true }
def FactsAllUptoSaid : Prop := factsAllUptoRow.holds Try.pinned (OpenSpec.upto factsAllSpec)

/-- 'deaddroplaw8.FactsMade', WHERE WHAT IT READS IS OF BULK AT MOST 1048576: true; the input reads as it did. -/
def factsMadeUptoRow : OpenClaim := { program := "ytjjmeoeaimfiiaa", sum := "cf27a25fea8bf3b44df68ce5edaeff01f4826bb5fd7f8202d76969954140ca27", func := "deaddrop/deaddroplaw8.FactsMade", spec := "factsMade", unfollowed := true, recurses := true, apart := false, narrowed := true }
def FactsMadeUptoSaid : Prop := factsMadeUptoRow.holds Try.pinned (OpenSpec.upto factsMadeSpec)

/-- 'deaddroplaw8.FactsEdges', WHERE WHAT IT READS IS OF BULK AT MOST 1048576: true; the input reads as it did. -/
def factsEdgesUptoRow : OpenClaim := { program := "ytjjmeoeaimfiiaa", sum := "cf27a25fea8bf3b44df68ce5edaeff01f4826bb5fd7f8202d76969954140ca27", func := "deaddrop/deaddroplaw8.FactsEdges", spec := "factsEdges", unfollowed := true, recurses := true, apart := false, narrowed := true }
def FactsEdgesUptoSaid : Prop := factsEdgesUptoRow.holds Try.pinned (OpenSpec.upto factsEdgesSpec)

/-- 'deaddroplaw8.FactsOrder', WHERE WHAT IT READS IS OF BULK AT MOST 1048576: true; the input reads as it did. -/
def factsOrderUptoRow : OpenClaim := { program := "ytjjmeoeaimfiiaa", sum := "cf27a25fea8bf3b44df68ce5edaeff01f4826bb5fd7f8202d76969954140ca27", func := "deaddrop/deaddroplaw8.FactsOrder", spec := "factsOrder", unfollowed := true, recurses := true, apart := false, narrowed := true }
def FactsOrderUptoSaid : Prop := factsOrderUptoRow.holds Try.pinned (OpenSpec.upto factsOrderSpec)

/-- 'deaddroplaw8.FactsFound', WHERE WHAT IT READS IS OF BULK AT MOST 1048576: true; the input reads as it did. -/
def factsFoundUptoRow : OpenClaim := { program := "ytjjmeoeaimfiiaa", sum := "cf27a25fea8bf3b44df68ce5edaeff01f4826bb5fd7f8202d76969954140ca27", func := "deaddrop/deaddroplaw8.FactsFound", spec := "factsFound", unfollowed := true, recurses := true, apart := false, narrowed := true }
def FactsFoundUptoSaid : Prop := factsFoundUptoRow.holds Try.pinned (OpenSpec.upto factsFoundSpec)

/-- 'deaddroplaw8.FactsMay', WHERE WHAT IT READS IS OF BULK AT MOST 1048576: true; the input reads as it did. -/
def factsMayUptoRow : OpenClaim := { program := "ytjjmeoeaimfiiaa", sum := "cf27a25fea8bf3b44df68ce5edaeff01f4826bb5fd7f8202d76969954140ca27", func := "deaddrop/deaddroplaw8.FactsMay", spec := "factsMay", unfollowed := true, recurses := true, apart := false, narrowed := true }
def FactsMayUptoSaid : Prop := factsMayUptoRow.holds Try.pinned (OpenSpec.upto factsMaySpec)

/-- 'deaddroplaw5.PadEdges', WHERE WHAT IT READS IS OF BULK AT MOST 1048576: true; the input reads as it did. -/
def padEdgesUptoRow : OpenClaim := { program := "ytjjmeoeaimfiiaa", sum := "cf27a25fea8bf3b44df68ce5edaeff01f4826bb5fd7f8202d76969954140ca27", func := "deaddrop/deaddroplaw5.PadEdges", spec := "padEdges", inPlace := ["internal/abi.NoEscape", "internal/bytealg.MakeNoZero"], apart := false, narrowed := true }
def PadEdgesUptoSaid : Prop := padEdgesUptoRow.holds Try.pinned (OpenSpec.upto padEdgesSpec)

end Rows
end Go.Proofs.Ytjjmeoeaimfiiaa
