/-
  No cell of these rows narrows 'for every input' (looked for: loops, veiled, ifaces, maps, wideKeys, modest, calm, conditions, laid).
  DERIVED. THE GIVEN ROWS OF THIS SEAT. 8 by the template 'for every input the law returns true; each argument reads behind the call as it read before'; 0 by the template 'total and deterministic' (their statements: YtahomnlkkafbjaaTotals.lean).
  GIVEN WITH THE SEED: the statements are not yours to turn. If you find one false, say at which input.
  Laid BY PROGRAM, IN A SANDBOX (cutbox-rows.mjs): the forced cells as the released guide's own fill.sh prints them over the translation 7cfd5604e2d19039… (all of the seat's roots in one cut). By AI agents, Wed Nov 11 2026. No macro, syntax, notation, axiom, sorry.
-/
import Derived.Test.YtahomnlkkafbjaaChecked
import GoSem.Claim
import GoSem.ClaimJoined
import GoSem.ClaimMapViews
import Derived.JoinedTies
import Derived.KernelRfl
namespace Go.Proofs.Ytahomnlkkafbjaa
/- THE CELL 'sum', in the pinned program and in every row, IS THE sha256 OF THE DUMP (.gsa) THAT YtahomnlkkafbjaaProg.lean LOADS. Nothing in Lean hashes anything: it is a label: what it is worth is what the hold of that sum in a sandbox is worth. -/
noncomputable def Try.pinned : Pinned := { name := "ytahomnlkkafbjaa", sum := "7cfd5604e2d19039a1d571e79e0c9306023f3c6404888751b4786f022a99b75b", checked := Try.checked }
namespace Rows
def none {H : Type} : Left H := { results := [], args := [] }

/-- 'seedbedlaw19.TreeFirst': WHATEVER THE INPUT: true; the input reads as it did. -/
def treeFirstSpec : ChangeSpec := { name := "treeFirst", fn := fun _ => fun
  | [d1, d2] => { results := [.lit (.bool true)], args := [d1, d2] }
  | _ => none }
def treeFirstRow : OpenClaim := { program := "ytahomnlkkafbjaa", sum := "7cfd5604e2d19039a1d571e79e0c9306023f3c6404888751b4786f022a99b75b", func := "seedbed/seedbedlaw19.TreeFirst", spec := "treeFirst", unfollowed := true, recurses := true, apart := false }
def TreeFirstSaid : Prop := treeFirstRow.holds Try.pinned (OpenSpec.ofChange treeFirstSpec)

/-- ITS FALSE NEIGHBOUR: 'it returns false'. Refute it at one input. -/
def treeFirstWrong : ChangeSpec := { name := "treeFirst", fn := fun _ => fun
  | [d1, d2] => { results := [.lit (.bool false)], args := [d1, d2] }
  | _ => none }
def TreeFirstWrongFalsely : Prop := treeFirstRow.holds Try.pinned (OpenSpec.ofChange treeFirstWrong)

/-- 'seedbedlaw19.TreeOver': WHATEVER THE INPUT: true; the input reads as it did. -/
def treeOverSpec : ChangeSpec := { name := "treeOver", fn := fun _ => fun
  | [d1, d2] => { results := [.lit (.bool true)], args := [d1, d2] }
  | _ => none }
def treeOverRow : OpenClaim := { program := "ytahomnlkkafbjaa", sum := "7cfd5604e2d19039a1d571e79e0c9306023f3c6404888751b4786f022a99b75b", func := "seedbed/seedbedlaw19.TreeOver", spec := "treeOver", unfollowed := true, recurses := true, apart := false }
def TreeOverSaid : Prop := treeOverRow.holds Try.pinned (OpenSpec.ofChange treeOverSpec)

/-- ITS FALSE NEIGHBOUR: 'it returns false'. Refute it at one input. -/
def treeOverWrong : ChangeSpec := { name := "treeOver", fn := fun _ => fun
  | [d1, d2] => { results := [.lit (.bool false)], args := [d1, d2] }
  | _ => none }
def TreeOverWrongFalsely : Prop := treeOverRow.holds Try.pinned (OpenSpec.ofChange treeOverWrong)

/-- 'seedbedlaw19.TreeWithin': WHATEVER THE INPUT: true; the input reads as it did. -/
def treeWithinSpec : ChangeSpec := { name := "treeWithin", fn := fun _ => fun
  | [d1, d2] => { results := [.lit (.bool true)], args := [d1, d2] }
  | _ => none }
def treeWithinRow : OpenClaim := { program := "ytahomnlkkafbjaa", sum := "7cfd5604e2d19039a1d571e79e0c9306023f3c6404888751b4786f022a99b75b", func := "seedbed/seedbedlaw19.TreeWithin", spec := "treeWithin", unfollowed := true, recurses := true, apart := false }
def TreeWithinSaid : Prop := treeWithinRow.holds Try.pinned (OpenSpec.ofChange treeWithinSpec)

/-- ITS FALSE NEIGHBOUR: 'it returns false'. Refute it at one input. -/
def treeWithinWrong : ChangeSpec := { name := "treeWithin", fn := fun _ => fun
  | [d1, d2] => { results := [.lit (.bool false)], args := [d1, d2] }
  | _ => none }
def TreeWithinWrongFalsely : Prop := treeWithinRow.holds Try.pinned (OpenSpec.ofChange treeWithinWrong)

/-- 'seedbedlaw19.TreeRefuses': WHATEVER THE INPUT: true; the input reads as it did. -/
def treeRefusesSpec : ChangeSpec := { name := "treeRefuses", fn := fun _ => fun
  | [d1, d2, d3] => { results := [.lit (.bool true)], args := [d1, d2, d3] }
  | _ => none }
def treeRefusesRow : OpenClaim := { program := "ytahomnlkkafbjaa", sum := "7cfd5604e2d19039a1d571e79e0c9306023f3c6404888751b4786f022a99b75b", func := "seedbed/seedbedlaw19.TreeRefuses", spec := "treeRefuses", unfollowed := true, recurses := true, apart := false }
def TreeRefusesSaid : Prop := treeRefusesRow.holds Try.pinned (OpenSpec.ofChange treeRefusesSpec)

/-- ITS FALSE NEIGHBOUR: 'it returns false'. Refute it at one input. -/
def treeRefusesWrong : ChangeSpec := { name := "treeRefuses", fn := fun _ => fun
  | [d1, d2, d3] => { results := [.lit (.bool false)], args := [d1, d2, d3] }
  | _ => none }
def TreeRefusesWrongFalsely : Prop := treeRefusesRow.holds Try.pinned (OpenSpec.ofChange treeRefusesWrong)

/-- 'seedbedlaw19.TreeBelow': WHATEVER THE INPUT: true; the input reads as it did. -/
def treeBelowSpec : ChangeSpec := { name := "treeBelow", fn := fun _ => fun
  | [d1, d2] => { results := [.lit (.bool true)], args := [d1, d2] }
  | _ => none }
def treeBelowRow : OpenClaim := { program := "ytahomnlkkafbjaa", sum := "7cfd5604e2d19039a1d571e79e0c9306023f3c6404888751b4786f022a99b75b", func := "seedbed/seedbedlaw19.TreeBelow", spec := "treeBelow", unfollowed := true, recurses := true, apart := false }
def TreeBelowSaid : Prop := treeBelowRow.holds Try.pinned (OpenSpec.ofChange treeBelowSpec)

/-- ITS FALSE NEIGHBOUR: 'it returns false'. Refute it at one input. -/
def treeBelowWrong : ChangeSpec := { name := "treeBelow", fn := fun _ => fun
  | [d1, d2] => { results := [.lit (.bool false)], args := [d1, d2] }
  | _ => none }
def TreeBelowWrongFalsely : Prop := treeBelowRow.holds Try.pinned (OpenSpec.ofChange treeBelowWrong)

/-- 'seedbedlaw19.TreeCopies': WHATEVER THE INPUT: true; the input reads as it did. -/
def treeCopiesSpec : ChangeSpec := { name := "treeCopies", fn := fun _ => fun
  | [d1, d2, d3] => { results := [.lit (.bool true)], args := [d1, d2, d3] }
  | _ => none }
def treeCopiesRow : OpenClaim := { program := "ytahomnlkkafbjaa", sum := "7cfd5604e2d19039a1d571e79e0c9306023f3c6404888751b4786f022a99b75b", func := "seedbed/seedbedlaw19.TreeCopies", spec := "treeCopies", unfollowed := true, recurses := true, apart := false }
def TreeCopiesSaid : Prop := treeCopiesRow.holds Try.pinned (OpenSpec.ofChange treeCopiesSpec)

/-- ITS FALSE NEIGHBOUR: 'it returns false'. Refute it at one input. -/
def treeCopiesWrong : ChangeSpec := { name := "treeCopies", fn := fun _ => fun
  | [d1, d2, d3] => { results := [.lit (.bool false)], args := [d1, d2, d3] }
  | _ => none }
def TreeCopiesWrongFalsely : Prop := treeCopiesRow.holds Try.pinned (OpenSpec.ofChange treeCopiesWrong)

/-- 'seedbedlaw19.TreeNobody': WHATEVER THE INPUT: true; the input reads as it did. -/
def treeNobodySpec : ChangeSpec := { name := "treeNobody", fn := fun _ => fun
  | [d] => { results := [.lit (.bool true)], args := [d] }
  | _ => none }
def treeNobodyRow : OpenClaim := { program := "ytahomnlkkafbjaa", sum := "7cfd5604e2d19039a1d571e79e0c9306023f3c6404888751b4786f022a99b75b", func := "seedbed/seedbedlaw19.TreeNobody", spec := "treeNobody", unfollowed := true, recurses := true, apart := false }
def TreeNobodySaid : Prop := treeNobodyRow.holds Try.pinned (OpenSpec.ofChange treeNobodySpec)

/-- ITS FALSE NEIGHBOUR: 'it returns false'. Refute it at one input. -/
def treeNobodyWrong : ChangeSpec := { name := "treeNobody", fn := fun _ => fun
  | [d] => { results := [.lit (.bool false)], args := [d] }
  | _ => none }
def TreeNobodyWrongFalsely : Prop := treeNobodyRow.holds Try.pinned (OpenSpec.ofChange treeNobodyWrong)

/-- 'seedbedlaw19.TreePlays': WHATEVER THE INPUT: true; the input reads as it did. -/
def treePlaysSpec : ChangeSpec := { name := "treePlays", fn := fun _ => fun
  | [d1, d2] => { results := [.lit (.bool true)], args := [d1, d2] }
  | _ => none }
def treePlaysRow : OpenClaim := { program := "ytahomnlkkafbjaa", sum := "7cfd5604e2d19039a1d571e79e0c9306023f3c6404888751b4786f022a99b75b", func := "seedbed/seedbedlaw19.TreePlays", spec := "treePlays", unfollowed := true, recurses := true, apart := false }
def TreePlaysSaid : Prop := treePlaysRow.holds Try.pinned (OpenSpec.ofChange treePlaysSpec)

/-- ITS FALSE NEIGHBOUR: 'it returns false'. Refute it at one input. -/
def treePlaysWrong : ChangeSpec := { name := "treePlays", fn := fun _ => fun
  | [d1, d2] => { results := [.lit (.bool false)], args := [d1, d2] }
  | _ => none }
def TreePlaysWrongFalsely : Prop := treePlaysRow.holds Try.pinned (OpenSpec.ofChange treePlaysWrong)

/- THE SECOND FORM. 'bulk': how many values and letters a reading holds, each counted each time it is reached (what is shared counts as often as it is met; a slice's spare places count too). A statement '..UptoSaid' is the law's where the arguments, and the package variables that the reading takes, are together of bulk at most 1048576: NARROWER than '..Said'. Prove '..Said' where nothing that the law and all that it calls make is longer than what came in: it says more and counts as full. Else prove '..UptoSaid'. A law counts once. -/
mutual
def uptoBulk {H : Type} : DataW H → Nat
  | .lit (.string bytes) => bytes.length + 1
  | .lit _ => 1
  | .nil => 1
  | .ptr d => uptoBulk d + 1
  | .slice elems spare => uptoBulkAll elems + uptoBulkAll spare + 1
  | .agg parts => uptoBulkAll parts + 1
  | .iface _ d => uptoBulk d + 1
  | .map entries => uptoBulkEntries entries + 1
  | .held _ => 1
def uptoBulkAll {H : Type} : List (DataW H) → Nat
  | [] => 0
  | d :: r => uptoBulk d + uptoBulkAll r
def uptoBulkEntries {H : Type} : List (Lit × DataW H) → Nat
  | [] => 0
  | x :: r => uptoBulkEntry x + uptoBulkEntries r
def uptoBulkEntry {H : Type} : Lit × DataW H → Nat
  | (.string bytes, d) => bytes.length + uptoBulk d + 1
  | (_, d) => uptoBulk d + 1
 end
def uptoSmall : (H : Type) → List (DataW H) → Bool := fun _ ds => decide (uptoBulkAll ds ≤ 1048576)
def OpenSpec.upto (s : _root_.Go.ChangeSpec) : _root_.Go.OpenSpec := { _root_.Go.OpenSpec.ofChange s with cond := some uptoSmall }

/-- 'seedbedlaw19.TreeFirst', WHERE WHAT IT READS IS OF BULK AT MOST 1048576: true; the input reads as it did. -/
def treeFirstUptoRow : OpenClaim := { program := "ytahomnlkkafbjaa", sum := "7cfd5604e2d19039a1d571e79e0c9306023f3c6404888751b4786f022a99b75b", func := "seedbed/seedbedlaw19.TreeFirst", spec := "treeFirst", unfollowed := true, recurses := true, apart := false, narrowed := true }
def TreeFirstUptoSaid : Prop := treeFirstUptoRow.holds Try.pinned (OpenSpec.upto treeFirstSpec)

/-- 'seedbedlaw19.TreeOver', WHERE WHAT IT READS IS OF BULK AT MOST 1048576: true; the input reads as it did. -/
def treeOverUptoRow : OpenClaim := { program := "ytahomnlkkafbjaa", sum := "7cfd5604e2d19039a1d571e79e0c9306023f3c6404888751b4786f022a99b75b", func := "seedbed/seedbedlaw19.TreeOver", spec := "treeOver", unfollowed := true, recurses := true, apart := false, narrowed := true }
def TreeOverUptoSaid : Prop := treeOverUptoRow.holds Try.pinned (OpenSpec.upto treeOverSpec)

/-- 'seedbedlaw19.TreeWithin', WHERE WHAT IT READS IS OF BULK AT MOST 1048576: true; the input reads as it did. -/
def treeWithinUptoRow : OpenClaim := { program := "ytahomnlkkafbjaa", sum := "7cfd5604e2d19039a1d571e79e0c9306023f3c6404888751b4786f022a99b75b", func := "seedbed/seedbedlaw19.TreeWithin", spec := "treeWithin", unfollowed := true, recurses := true, apart := false, narrowed := true }
def TreeWithinUptoSaid : Prop := treeWithinUptoRow.holds Try.pinned (OpenSpec.upto treeWithinSpec)

/-- 'seedbedlaw19.TreeRefuses', WHERE WHAT IT READS IS OF BULK AT MOST 1048576: true; the input reads as it did. -/
def treeRefusesUptoRow : OpenClaim := { program := "ytahomnlkkafbjaa", sum := "7cfd5604e2d19039a1d571e79e0c9306023f3c6404888751b4786f022a99b75b", func := "seedbed/seedbedlaw19.TreeRefuses", spec := "treeRefuses", unfollowed := true, recurses := true, apart := false, narrowed := true }
def TreeRefusesUptoSaid : Prop := treeRefusesUptoRow.holds Try.pinned (OpenSpec.upto treeRefusesSpec)

/-- 'seedbedlaw19.TreeBelow', WHERE WHAT IT READS IS OF BULK AT MOST 1048576: true; the input reads as it did. -/
def treeBelowUptoRow : OpenClaim := { program := "ytahomnlkkafbjaa", sum := "7cfd5604e2d19039a1d571e79e0c9306023f3c6404888751b4786f022a99b75b", func := "seedbed/seedbedlaw19.TreeBelow", spec := "treeBelow", unfollowed := true, recurses := true, apart := false, narrowed := true }
def TreeBelowUptoSaid : Prop := treeBelowUptoRow.holds Try.pinned (OpenSpec.upto treeBelowSpec)

/-- 'seedbedlaw19.TreeCopies', WHERE WHAT IT READS IS OF BULK AT MOST 1048576: true; the input reads as it did. -/
def treeCopiesUptoRow : OpenClaim := { program := "ytahomnlkkafbjaa", sum := "7cfd5604e2d19039a1d571e79e0c9306023f3c6404888751b4786f022a99b75b", func := "seedbed/seedbedlaw19.TreeCopies", spec := "treeCopies", unfollowed := true, recurses := true, apart := false, narrowed := true }
def TreeCopiesUptoSaid : Prop := treeCopiesUptoRow.holds Try.pinned (OpenSpec.upto treeCopiesSpec)

/-- 'seedbedlaw19.TreeNobody', WHERE WHAT IT READS IS OF BULK AT MOST 1048576: true; the input reads as it did. -/
def treeNobodyUptoRow : OpenClaim := { program := "ytahomnlkkafbjaa", sum := "7cfd5604e2d19039a1d571e79e0c9306023f3c6404888751b4786f022a99b75b", func := "seedbed/seedbedlaw19.TreeNobody", spec := "treeNobody", unfollowed := true, recurses := true, apart := false, narrowed := true }
def TreeNobodyUptoSaid : Prop := treeNobodyUptoRow.holds Try.pinned (OpenSpec.upto treeNobodySpec)

/-- 'seedbedlaw19.TreePlays', WHERE WHAT IT READS IS OF BULK AT MOST 1048576: true; the input reads as it did. -/
def treePlaysUptoRow : OpenClaim := { program := "ytahomnlkkafbjaa", sum := "7cfd5604e2d19039a1d571e79e0c9306023f3c6404888751b4786f022a99b75b", func := "seedbed/seedbedlaw19.TreePlays", spec := "treePlays", unfollowed := true, recurses := true, apart := false, narrowed := true }
def TreePlaysUptoSaid : Prop := treePlaysUptoRow.holds Try.pinned (OpenSpec.upto treePlaysSpec)

end Rows
end Go.Proofs.Ytahomnlkkafbjaa
