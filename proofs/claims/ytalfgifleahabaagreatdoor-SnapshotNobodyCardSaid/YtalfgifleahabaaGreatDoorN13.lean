/-
  The types are laid out as they are looked at.
-/
import Derived.Test.YtalfgifleahabaaGreatDoorN12
import Derived.KernelRfl
namespace Go.Proofs.YtalfgifleahabaaGreatDoor.sn
open Go
set_option maxRecDepth 100000
set_option linter.unusedVariables false

theorem fine2 : ((List.range Tryz.prog.types.size).drop 350).all (rowFine Tryz.prog) = true := by kernel_rfl
theorem fine3 : Tryz.prog.globals.all (fun g => decide (g.type < Tryz.prog.types.size)) = true := by kernel_rfl
theorem fine4 : Tryz.prog.funcs.all (fun f => f.params.all fun t => decide (t < Tryz.prog.types.size)) = true := by kernel_rfl
theorem laidOut : laidOutB Tryz.prog = true := by
  unfold laidOutB
  rw [fine3, fine4, ← List.take_append_drop 350 (List.range Tryz.prog.types.size), List.all_append, fine1, fine2]
  rfl

end Go.Proofs.YtalfgifleahabaaGreatDoor.sn
