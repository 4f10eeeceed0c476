/-
  The maps' keys are plain.
-/
import Derived.Test.YtalfgifleahabaaGreatDoorRows
import Derived.JoinedOf
import Derived.KernelRfl
namespace Go.Proofs.YtalfgifleahabaaGreatDoor.sn
open Go
set_option maxRecDepth 100000
set_option linter.unusedVariables false

theorem keysOk : (Rows.snapshotNobodyRow.plainKeys == Tryz.prog.plainKeys) = true := by kernel_rfl

end Go.Proofs.YtalfgifleahabaaGreatDoor.sn
