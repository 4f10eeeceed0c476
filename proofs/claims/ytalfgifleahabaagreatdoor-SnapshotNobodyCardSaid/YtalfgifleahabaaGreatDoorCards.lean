/-
  DERIVED. GIVEN WITH THE SEED: THE CARDS: each row of YtalfgifleahabaaGreatDoorRows.lean that lists a variable, with what it lists TIED to the program's text (the seventh form; the later family's looks); each row that meets fmt, with fmt's text TOLD by the authors' own Lean function (tested against real Go, not proved from fmt's source: count such statements apart). THE CARD IS WHAT COUNTS. Prove the row's statement (the work); the ties are given (YtalfgifleahabaaGreatDoorTie.lean); close each card by the builder's one call (the guide's Derived/Test/ToyasCard.lean, 'card_holds'). Laid BY PROGRAM, IN A SANDBOX (cutbox-door.mjs). By AI agents, Wed Nov 11 2026. No macro, syntax, notation, axiom, sorry.
-/
import Derived.Test.YtalfgifleahabaaGreatDoorRows
import GoSem.ClaimSeven
namespace Go.Proofs.YtalfgifleahabaaGreatDoor
namespace Rows

/-- THE TIED CARD OF 'seedbedlaw26.SnapshotNobody'. -/
def snapshotNobodyCard : Claim7 := { stood := { row := snapshotNobodyRow, standIns := [], harness := (true, "d48897b65fbe90d87f99a96a38328a6ef5eb68ae4b035e69ac03e2763e9a2b77"), looks := true }, kinds := [], alts := [], laidByText := true, laidKinds := [.data, .data, .data, .data, .data, .data, .listed, .pinned, .data], laidTests := true, laidLooks := .later }
def SnapshotNobodyCardSaid : Prop := Claim7.holds Tryz.pinned (.plain (OpenSpec.ofChange snapshotNobodySpec)) snapshotNobodyCard

/-- THE SECOND FORM's CARD OF 'seedbedlaw26.SnapshotNobody'. -/
def snapshotNobodyUptoCard : Claim7 := { stood := { row := snapshotNobodyUptoRow, standIns := [], harness := (true, "d48897b65fbe90d87f99a96a38328a6ef5eb68ae4b035e69ac03e2763e9a2b77"), looks := true }, kinds := [], alts := [], laidByText := true, laidKinds := [.data, .data, .data, .data, .data, .data, .listed, .pinned, .data], laidTests := true, laidLooks := .later }
def SnapshotNobodyUptoCardSaid : Prop := Claim7.holds Tryz.pinned (.plain (OpenSpec.upto snapshotNobodySpec)) snapshotNobodyUptoCard
end Rows
end Go.Proofs.YtalfgifleahabaaGreatDoor
