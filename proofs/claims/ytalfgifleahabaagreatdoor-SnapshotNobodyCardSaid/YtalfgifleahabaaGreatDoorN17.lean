/-
  That the law reaches what calls itself.
-/
import Derived.Test.YtalfgifleahabaaGreatDoorRows
import Derived.JoinedOf
import Derived.KernelRfl
namespace Go.Proofs.YtalfgifleahabaaGreatDoor.sn
open Go
set_option maxRecDepth 100000
set_option linter.unusedVariables false

theorem recursesOk : (Rows.snapshotNobodyRow.recurses == Tryz.prog.recurses 3) = true := by kernel_rfl

end Go.Proofs.YtalfgifleahabaaGreatDoor.sn
