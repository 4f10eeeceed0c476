/-
  No cell of these rows narrows 'for every input' (looked for: loops, veiled, ifaces, maps, wideKeys, modest, calm, conditions, laid).
  DERIVED. THE GIVEN ROWS OF THIS SEAT. 7 by the template 'for every input the law returns true; each argument reads behind the call as it read before'; 0 by the template 'total and deterministic' (their statements: YtkkhokgpcifckaaTotals.lean).
  GIVEN WITH THE SEED: the statements are not yours to turn. If you find one false, say at which input.
  Laid BY PROGRAM, IN A SANDBOX (cutbox-rows.mjs): the forced cells as the released guide's own fill.sh prints them over the translation 004accde1ef368d9… (all of the seat's roots in one cut). By AI agents, Wed Nov 11 2026. No macro, syntax, notation, axiom, sorry.
-/
import Derived.Test.YtkkhokgpcifckaaChecked
import GoSem.Claim
import GoSem.ClaimJoined
import GoSem.ClaimMapViews
import Derived.JoinedTies
import Derived.KernelRfl
namespace Go.Proofs.Ytkkhokgpcifckaa
/- THE CELL 'sum', in the pinned program and in every row, IS THE sha256 OF THE DUMP (.gsa) THAT YtkkhokgpcifckaaProg.lean LOADS. Nothing in Lean hashes anything: it is a label: what it is worth is what the hold of that sum in a sandbox is worth. -/
noncomputable def Try.pinned : Pinned := { name := "ytkkhokgpcifckaa", sum := "004accde1ef368d9bbb56e01cb6661e8d0d3263070ec0765847cd43ed329485b", checked := Try.checked }
namespace Rows
def none {H : Type} : Left H := { results := [], args := [] }

/-- 'seedbedlaw22.SuperviseBounded': WHATEVER THE INPUT: true; the input reads as it did. -/
def superviseBoundedSpec : ChangeSpec := { name := "superviseBounded", fn := fun _ => fun
  | [d1, d2] => { results := [.lit (.bool true)], args := [d1, d2] }
  | _ => none }
def superviseBoundedRow : OpenClaim := { program := "ytkkhokgpcifckaa", sum := "004accde1ef368d9bbb56e01cb6661e8d0d3263070ec0765847cd43ed329485b", func := "seedbed/seedbedlaw22.SuperviseBounded", spec := "superviseBounded", unfollowed := true, recurses := true, apart := false }
def SuperviseBoundedSaid : Prop := superviseBoundedRow.holds Try.pinned (OpenSpec.ofChange superviseBoundedSpec)

/-- ITS FALSE NEIGHBOUR: 'it returns false'. Refute it at one input. -/
def superviseBoundedWrong : ChangeSpec := { name := "superviseBounded", fn := fun _ => fun
  | [d1, d2] => { results := [.lit (.bool false)], args := [d1, d2] }
  | _ => none }
def SuperviseBoundedWrongFalsely : Prop := superviseBoundedRow.holds Try.pinned (OpenSpec.ofChange superviseBoundedWrong)

/-- 'seedbedlaw22.SuperviseOrders': WHATEVER THE INPUT: true; the input reads as it did. -/
def superviseOrdersSpec : ChangeSpec := { name := "superviseOrders", fn := fun _ => fun
  | [d1, d2] => { results := [.lit (.bool true)], args := [d1, d2] }
  | _ => none }
def superviseOrdersRow : OpenClaim := { program := "ytkkhokgpcifckaa", sum := "004accde1ef368d9bbb56e01cb6661e8d0d3263070ec0765847cd43ed329485b", func := "seedbed/seedbedlaw22.SuperviseOrders", spec := "superviseOrders", unfollowed := true, recurses := true, apart := false }
def SuperviseOrdersSaid : Prop := superviseOrdersRow.holds Try.pinned (OpenSpec.ofChange superviseOrdersSpec)

/-- ITS FALSE NEIGHBOUR: 'it returns false'. Refute it at one input. -/
def superviseOrdersWrong : ChangeSpec := { name := "superviseOrders", fn := fun _ => fun
  | [d1, d2] => { results := [.lit (.bool false)], args := [d1, d2] }
  | _ => none }
def SuperviseOrdersWrongFalsely : Prop := superviseOrdersRow.holds Try.pinned (OpenSpec.ofChange superviseOrdersWrong)

/-- 'seedbedlaw22.SuperviseEnds': WHATEVER THE INPUT: true; the input reads as it did. -/
def superviseEndsSpec : ChangeSpec := { name := "superviseEnds", fn := fun _ => fun
  | [d1, d2] => { results := [.lit (.bool true)], args := [d1, d2] }
  | _ => none }
def superviseEndsRow : OpenClaim := { program := "ytkkhokgpcifckaa", sum := "004accde1ef368d9bbb56e01cb6661e8d0d3263070ec0765847cd43ed329485b", func := "seedbed/seedbedlaw22.SuperviseEnds", spec := "superviseEnds", unfollowed := true, recurses := true, apart := false }
def SuperviseEndsSaid : Prop := superviseEndsRow.holds Try.pinned (OpenSpec.ofChange superviseEndsSpec)

/-- ITS FALSE NEIGHBOUR: 'it returns false'. Refute it at one input. -/
def superviseEndsWrong : ChangeSpec := { name := "superviseEnds", fn := fun _ => fun
  | [d1, d2] => { results := [.lit (.bool false)], args := [d1, d2] }
  | _ => none }
def SuperviseEndsWrongFalsely : Prop := superviseEndsRow.holds Try.pinned (OpenSpec.ofChange superviseEndsWrong)

/-- 'seedbedlaw22.SuperviseWhen': WHATEVER THE INPUT: true; the input reads as it did. -/
def superviseWhenSpec : ChangeSpec := { name := "superviseWhen", fn := fun _ => fun
  | [d1, d2, d3] => { results := [.lit (.bool true)], args := [d1, d2, d3] }
  | _ => none }
def superviseWhenRow : OpenClaim := { program := "ytkkhokgpcifckaa", sum := "004accde1ef368d9bbb56e01cb6661e8d0d3263070ec0765847cd43ed329485b", func := "seedbed/seedbedlaw22.SuperviseWhen", spec := "superviseWhen", unfollowed := true, recurses := true, apart := false }
def SuperviseWhenSaid : Prop := superviseWhenRow.holds Try.pinned (OpenSpec.ofChange superviseWhenSpec)

/-- ITS FALSE NEIGHBOUR: 'it returns false'. Refute it at one input. -/
def superviseWhenWrong : ChangeSpec := { name := "superviseWhen", fn := fun _ => fun
  | [d1, d2, d3] => { results := [.lit (.bool false)], args := [d1, d2, d3] }
  | _ => none }
def SuperviseWhenWrongFalsely : Prop := superviseWhenRow.holds Try.pinned (OpenSpec.ofChange superviseWhenWrong)

/-- 'seedbedlaw22.SuperviseCopies': WHATEVER THE INPUT: true; the input reads as it did. -/
def superviseCopiesSpec : ChangeSpec := { name := "superviseCopies", fn := fun _ => fun
  | [d1, d2] => { results := [.lit (.bool true)], args := [d1, d2] }
  | _ => none }
def superviseCopiesRow : OpenClaim := { program := "ytkkhokgpcifckaa", sum := "004accde1ef368d9bbb56e01cb6661e8d0d3263070ec0765847cd43ed329485b", func := "seedbed/seedbedlaw22.SuperviseCopies", spec := "superviseCopies", unfollowed := true, recurses := true, apart := false }
def SuperviseCopiesSaid : Prop := superviseCopiesRow.holds Try.pinned (OpenSpec.ofChange superviseCopiesSpec)

/-- ITS FALSE NEIGHBOUR: 'it returns false'. Refute it at one input. -/
def superviseCopiesWrong : ChangeSpec := { name := "superviseCopies", fn := fun _ => fun
  | [d1, d2] => { results := [.lit (.bool false)], args := [d1, d2] }
  | _ => none }
def SuperviseCopiesWrongFalsely : Prop := superviseCopiesRow.holds Try.pinned (OpenSpec.ofChange superviseCopiesWrong)

/-- 'seedbedlaw22.SupervisePlays': WHATEVER THE INPUT: true; the input reads as it did. -/
def supervisePlaysSpec : ChangeSpec := { name := "supervisePlays", fn := fun _ => fun
  | [d1, d2] => { results := [.lit (.bool true)], args := [d1, d2] }
  | _ => none }
def supervisePlaysRow : OpenClaim := { program := "ytkkhokgpcifckaa", sum := "004accde1ef368d9bbb56e01cb6661e8d0d3263070ec0765847cd43ed329485b", func := "seedbed/seedbedlaw22.SupervisePlays", spec := "supervisePlays", unfollowed := true, recurses := true, apart := false }
def SupervisePlaysSaid : Prop := supervisePlaysRow.holds Try.pinned (OpenSpec.ofChange supervisePlaysSpec)

/-- ITS FALSE NEIGHBOUR: 'it returns false'. Refute it at one input. -/
def supervisePlaysWrong : ChangeSpec := { name := "supervisePlays", fn := fun _ => fun
  | [d1, d2] => { results := [.lit (.bool false)], args := [d1, d2] }
  | _ => none }
def SupervisePlaysWrongFalsely : Prop := supervisePlaysRow.holds Try.pinned (OpenSpec.ofChange supervisePlaysWrong)

/-- 'seedbedlaw22.SuperviseNobody': WHATEVER THE INPUT: true; the input reads as it did. -/
def superviseNobodySpec : ChangeSpec := { name := "superviseNobody", fn := fun _ => fun
  | [d] => { results := [.lit (.bool true)], args := [d] }
  | _ => none }
def superviseNobodyRow : OpenClaim := { program := "ytkkhokgpcifckaa", sum := "004accde1ef368d9bbb56e01cb6661e8d0d3263070ec0765847cd43ed329485b", func := "seedbed/seedbedlaw22.SuperviseNobody", spec := "superviseNobody", unfollowed := true, recurses := true, apart := false }
def SuperviseNobodySaid : Prop := superviseNobodyRow.holds Try.pinned (OpenSpec.ofChange superviseNobodySpec)

/-- ITS FALSE NEIGHBOUR: 'it returns false'. Refute it at one input. -/
def superviseNobodyWrong : ChangeSpec := { name := "superviseNobody", fn := fun _ => fun
  | [d] => { results := [.lit (.bool false)], args := [d] }
  | _ => none }
def SuperviseNobodyWrongFalsely : Prop := superviseNobodyRow.holds Try.pinned (OpenSpec.ofChange superviseNobodyWrong)

/- THE SECOND FORM. 'bulk': how many values and letters a reading holds, each counted each time it is reached (what is shared counts as often as it is met; a slice's spare places count too). A statement '..UptoSaid' is the law's where the arguments, and the package variables that the reading takes, are together of bulk at most 1048576: NARROWER than '..Said'. Prove '..Said' where nothing that the law and all that it calls make is longer than what came in: it says more and counts as full. Else prove '..UptoSaid'. A law counts once. -/
mutual
def uptoBulk {H : Type} : DataW H → Nat
  | .lit (.string bytes) => bytes.length + 1
  | .lit _ => 1
  | .nil => 1
  | .ptr d => uptoBulk d + 1
  | .slice elems spare => uptoBulkAll elems + uptoBulkAll spare + 1
  | .agg parts => uptoBulkAll parts + 1
  | .iface _ d => uptoBulk d + 1
  | .map entries => uptoBulkEntries entries + 1
  | .held _ => 1
def uptoBulkAll {H : Type} : List (DataW H) → Nat
  | [] => 0
  | d :: r => uptoBulk d + uptoBulkAll r
def uptoBulkEntries {H : Type} : List (Lit × DataW H) → Nat
  | [] => 0
  | x :: r => uptoBulkEntry x + uptoBulkEntries r
def uptoBulkEntry {H : Type} : Lit × DataW H → Nat
  | (.string bytes, d) => bytes.length + uptoBulk d + 1
  | (_, d) => uptoBulk d + 1
 end
def uptoSmall : (H : Type) → List (DataW H) → Bool := fun _ ds => decide (uptoBulkAll ds ≤ 1048576)
def OpenSpec.upto (s : _root_.Go.ChangeSpec) : _root_.Go.OpenSpec := { _root_.Go.OpenSpec.ofChange s with cond := some uptoSmall }

/-- 'seedbedlaw22.SuperviseBounded', WHERE WHAT IT READS IS OF BULK AT MOST 1048576: true; the input reads as it did. -/
def superviseBoundedUptoRow : OpenClaim := { program := "ytkkhokgpcifckaa", sum := "004accde1ef368d9bbb56e01cb6661e8d0d3263070ec0765847cd43ed329485b", func := "seedbed/seedbedlaw22.SuperviseBounded", spec := "superviseBounded", unfollowed := true, recurses := true, apart := false, narrowed := true }
def SuperviseBoundedUptoSaid : Prop := superviseBoundedUptoRow.holds Try.pinned (OpenSpec.upto superviseBoundedSpec)

/-- 'seedbedlaw22.SuperviseOrders', WHERE WHAT IT READS IS OF BULK AT MOST 1048576: true; the input reads as it did. -/
def superviseOrdersUptoRow : OpenClaim := { program := "ytkkhokgpcifckaa", sum := "004accde1ef368d9bbb56e01cb6661e8d0d3263070ec0765847cd43ed329485b", func := "seedbed/seedbedlaw22.SuperviseOrders", spec := "superviseOrders", unfollowed := true, recurses := true, apart := false, narrowed := true }
def SuperviseOrdersUptoSaid : Prop := superviseOrdersUptoRow.holds Try.pinned (OpenSpec.upto superviseOrdersSpec)

/-- 'seedbedlaw22.SuperviseEnds', WHERE WHAT IT READS IS OF BULK AT MOST 1048576: true; the input reads as it did. -/
def superviseEndsUptoRow : OpenClaim := { program := "ytkkhokgpcifckaa", sum := "004accde1ef368d9bbb56e01cb6661e8d0d3263070ec0765847cd43ed329485b", func := "seedbed/seedbedlaw22.SuperviseEnds", spec := "superviseEnds", unfollowed := true, recurses := true, apart := false, narrowed := true }
def SuperviseEndsUptoSaid : Prop := superviseEndsUptoRow.holds Try.pinned (OpenSpec.upto superviseEndsSpec)

/-- 'seedbedlaw22.SuperviseWhen', WHERE WHAT IT READS IS OF BULK AT MOST 1048576: true; the input reads as it did. -/
def superviseWhenUptoRow : OpenClaim := { program := "ytkkhokgpcifckaa", sum := "004accde1ef368d9bbb56e01cb6661e8d0d3263070ec0765847cd43ed329485b", func := "seedbed/seedbedlaw22.SuperviseWhen", spec := "superviseWhen", unfollowed := true, recurses := true, apart := false, narrowed := true }
def SuperviseWhenUptoSaid : Prop := superviseWhenUptoRow.holds Try.pinned (OpenSpec.upto superviseWhenSpec)

/-- 'seedbedlaw22.SuperviseCopies', WHERE WHAT IT READS IS OF BULK AT MOST 1048576: true; the input reads as it did. -/
def superviseCopiesUptoRow : OpenClaim := { program := "ytkkhokgpcifckaa", sum := "004accde1ef368d9bbb56e01cb6661e8d0d3263070ec0765847cd43ed329485b", func := "seedbed/seedbedlaw22.SuperviseCopies", spec := "superviseCopies", unfollowed := true, recurses := true, apart := false, narrowed := true }
def SuperviseCopiesUptoSaid : Prop := superviseCopiesUptoRow.holds Try.pinned (OpenSpec.upto superviseCopiesSpec)

/-- 'seedbedlaw22.SupervisePlays', WHERE WHAT IT READS IS OF BULK AT MOST 1048576: true; the input reads as it did. -/
def supervisePlaysUptoRow : OpenClaim := { program := "ytkkhokgpcifckaa", sum := "004accde1ef368d9bbb56e01cb6661e8d0d3263070ec0765847cd43ed329485b", func := "seedbed/seedbedlaw22.SupervisePlays", spec := "supervisePlays", unfollowed := true, recurses := true, apart := false, narrowed := true }
def SupervisePlaysUptoSaid : Prop := supervisePlaysUptoRow.holds Try.pinned (OpenSpec.upto supervisePlaysSpec)

/-- 'seedbedlaw22.SuperviseNobody', WHERE WHAT IT READS IS OF BULK AT MOST 1048576: true; the input reads as it did. -/
def superviseNobodyUptoRow : OpenClaim := { program := "ytkkhokgpcifckaa", sum := "004accde1ef368d9bbb56e01cb6661e8d0d3263070ec0765847cd43ed329485b", func := "seedbed/seedbedlaw22.SuperviseNobody", spec := "superviseNobody", unfollowed := true, recurses := true, apart := false, narrowed := true }
def SuperviseNobodyUptoSaid : Prop := superviseNobodyUptoRow.holds Try.pinned (OpenSpec.upto superviseNobodySpec)

end Rows
end Go.Proofs.Ytkkhokgpcifckaa
