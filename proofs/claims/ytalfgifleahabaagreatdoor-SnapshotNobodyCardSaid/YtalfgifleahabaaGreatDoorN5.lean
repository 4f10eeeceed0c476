/-
  A run of it is begun.
-/
import Derived.Test.YtalfgifleahabaaGreatDoorN1
import Derived.KernelRfl
namespace Go.Proofs.YtalfgifleahabaaGreatDoor.sn
open Go Go.Ev
set_option maxRecDepth 100000
set_option linter.unusedVariables false

theorem ok52 : tabOk (evX Tryz.prog RR T1 3000 (.fn 52) a52 s52) r52 e52 = true := by kernel_rfl

end Go.Proofs.YtalfgifleahabaaGreatDoor.sn
