/-
  The source is parsed.
-/
import Derived.Test.YtalfgifleahabaaGreatDoorN1
import Derived.KernelRfl
namespace Go.Proofs.YtalfgifleahabaaGreatDoor.sn
open Go Go.Ev
set_option maxRecDepth 100000
set_option linter.unusedVariables false

theorem ok51 : tabOk (evX Tryz.prog RR T1 3000 (.fn 51) src h0) r51 e51 = true := by kernel_rfl

end Go.Proofs.YtalfgifleahabaaGreatDoor.sn
