/-
  'lexis.words' comes to a new slice of the 46 words, whatever else there is.
-/
import Derived.Test.YtalfgifleahabaaGreatDoorN1
import Derived.KernelRfl
namespace Go.Proofs.YtalfgifleahabaaGreatDoor.sn
open Go Go.Ev
set_option maxRecDepth 100000
set_option linter.unusedVariables false

theorem okWords : newOk (evX Tryz.prog RR noT 3000 (.fn 497) [] [.glob 8 asc]) 46 1 wordsL = true := by kernel_rfl

end Go.Proofs.YtalfgifleahabaaGreatDoor.sn
