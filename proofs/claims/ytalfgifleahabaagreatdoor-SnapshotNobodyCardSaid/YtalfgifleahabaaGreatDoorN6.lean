/-
  The run makes its one step.
-/
import Derived.Test.YtalfgifleahabaaGreatDoorN1
import Derived.KernelRfl
namespace Go.Proofs.YtalfgifleahabaaGreatDoor.sn
open Go Go.Ev
set_option maxRecDepth 100000
set_option linter.unusedVariables false

theorem ok54 : tabOk (evX Tryz.prog RR T1 3000 (.fn 54) a54 s54) r54 e54 = true := by kernel_rfl

end Go.Proofs.YtalfgifleahabaaGreatDoor.sn
