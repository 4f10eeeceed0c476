/-
  Half of the functions start no goroutine.
-/
import Derived.Test.YtalfgifleahabaaGreatDoorRows
import Derived.Test.YtalfgifleahabaaGreatDoorCards
import Derived.KernelRfl
namespace Go.Proofs.YtalfgifleahabaaGreatDoor.sn
open Go
set_option maxRecDepth 100000
set_option linter.unusedVariables false

theorem goes1 : (Tryz.prog.funcs.toList.take 300).any Func.goes = false := by kernel_rfl

end Go.Proofs.YtalfgifleahabaaGreatDoor.sn
