/-
  The maps are laid out as they are looked at.
-/
import Derived.Test.YtalfgifleahabaaGreatDoorRows
import Derived.JoinedOf
import Derived.KernelRfl
namespace Go.Proofs.YtalfgifleahabaaGreatDoor.sn
open Go
set_option maxRecDepth 100000
set_option linter.unusedVariables false

theorem mapsOk : mapsRowed Tryz.prog = true := by kernel_rfl

end Go.Proofs.YtalfgifleahabaaGreatDoor.sn
