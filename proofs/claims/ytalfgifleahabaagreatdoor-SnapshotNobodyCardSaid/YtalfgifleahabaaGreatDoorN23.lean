/-
  No function starts a goroutine.
-/
import Derived.Test.YtalfgifleahabaaGreatDoorN22
import Derived.KernelRfl
namespace Go.Proofs.YtalfgifleahabaaGreatDoor.sn
open Go
set_option maxRecDepth 100000
set_option linter.unusedVariables false

theorem goes2 : (Tryz.prog.funcs.toList.drop 300).any Func.goes = false := by kernel_rfl
theorem goesNone {P : Program} {k : Nat} (h1 : (P.funcs.toList.take k).any Func.goes = false) (h2 : (P.funcs.toList.drop k).any Func.goes = false) : ∀ (g : Nat) fn, P.funcs[g]? = some fn → fn.goes = false := by
  intro g fn hg
  have hm : fn ∈ P.funcs.toList.take k ++ P.funcs.toList.drop k := by
    rw [List.take_append_drop]
    exact List.mem_of_getElem? (i := g) (by simpa using hg)
  rcases List.mem_append.1 hm with h | h
  · simpa using (List.any_eq_false.1 h1) fn h
  · simpa using (List.any_eq_false.1 h2) fn h
theorem goesNot {P : Program} (h : ∀ (g : Nat) fn, P.funcs[g]? = some fn → fn.goes = false) (f : FuncId) : P.goes f = false := by
  have e1 : ((P.closure f).any fun g => (P.funcs[g]?).any Func.goes) = false := by
    rw [List.any_eq_false]
    intro g _
    cases hg : P.funcs[g]? with
    | none => simp
    | some fn => simp [h g fn hg]
  have e2 : P.funcs.any Func.goes = false := by
    rw [← Array.any_toList, List.any_eq_false]
    intro fn hm
    obtain ⟨g, hg⟩ := List.mem_iff_getElem?.1 hm
    simp [h g fn (by simpa using hg)]
  unfold Program.goes
  rw [e1, e2]
  simp
theorem goesOk : false = Rows.snapshotNobodyRow.goesBy Tryz.prog := by
  have h := goesNot (goesNone goes1 goes2)
  have e : Tryz.prog.goesFrom Rows.snapshotNobodyRow.func = false := by
    unfold Program.goesFrom
    cases Tryz.prog.funcNamed Rows.snapshotNobodyRow.func with
    | none => rfl
    | some f => simp [h f]
  unfold OpenClaim.goesBy Program.goesAt
  rw [e]
  rfl

end Go.Proofs.YtalfgifleahabaaGreatDoor.sn
