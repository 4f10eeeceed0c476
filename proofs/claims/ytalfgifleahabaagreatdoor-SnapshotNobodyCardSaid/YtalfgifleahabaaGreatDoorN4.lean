/-
  The program is prepared.
-/
import Derived.Test.YtalfgifleahabaaGreatDoorN1
import Derived.KernelRfl
namespace Go.Proofs.YtalfgifleahabaaGreatDoor.sn
open Go Go.Ev
set_option maxRecDepth 100000
set_option linter.unusedVariables false

theorem ok53 : tabOk (evX Tryz.prog RR T1 3000 (.fn 53) a53 s53) r53 e53 = true := by kernel_rfl

end Go.Proofs.YtalfgifleahabaaGreatDoor.sn
