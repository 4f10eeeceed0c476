/-
  The law answers true, by what is known of its pieces.
-/
import Derived.Test.YtalfgifleahabaaGreatDoorN1
import Derived.KernelRfl
namespace Go.Proofs.YtalfgifleahabaaGreatDoor.sn
open Go Go.Ev
set_option maxRecDepth 100000
set_option linter.unusedVariables false

theorem okLaw : isT (evX Tryz.prog RR TT 3000 (.fn 3) [] h0) = true := by kernel_rfl

end Go.Proofs.YtalfgifleahabaaGreatDoor.sn
