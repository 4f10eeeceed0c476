/-
  The variables that the law's functions name.
-/
import Derived.Test.YtalfgifleahabaaGreatDoorRows
import Derived.JoinedOf
import Derived.KernelRfl
namespace Go.Proofs.YtalfgifleahabaaGreatDoor.sn
open Go
set_option maxRecDepth 100000
set_option linter.unusedVariables false

theorem namedOk : (Rows.snapshotNobodyRow.named == Tryz.prog.varsNamed 3) = true := by kernel_rfl

end Go.Proofs.YtalfgifleahabaaGreatDoor.sn
