/-
  What the law reaches that is answered in place.
-/
import Derived.Test.YtalfgifleahabaaGreatDoorRows
import Derived.JoinedOf
import Derived.KernelRfl
namespace Go.Proofs.YtalfgifleahabaaGreatDoor.sn
open Go
set_option maxRecDepth 100000
set_option linter.unusedVariables false

theorem inPlaceOk : (Rows.snapshotNobodyRow.inPlace == Tryz.prog.inPlace 3) = true := by kernel_rfl

end Go.Proofs.YtalfgifleahabaaGreatDoor.sn
