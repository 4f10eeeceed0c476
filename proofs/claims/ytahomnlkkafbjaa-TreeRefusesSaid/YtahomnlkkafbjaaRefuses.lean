/-
  'TreeRefuses' answers true for every number of roots, every row of calls and every call. No condition.
-/
import Derived.Test.YtahomnlkkafbjaaRefusesE
import Derived.Test.YtahomnlkkafbjaaRows
import Derived.WalkKit
import Derived.ProofKit
import Derived.OpenShut
namespace Go.Proofs.Ytahomnlkkafbjaa.wdRefuses
open Go.ChangeShapes Go.WideShapes Go.ChangeAt Go.RowKit Go.Ev
set_option linter.unusedVariables false
set_option linter.constructorNameAsVariable false

theorem own : ownKnob Try.prog.godebug = none := by kernel_rfl
theorem names : namesB Try.prog = true := by kernel_rfl
theorem mixed : Try.prog.follows .mixedOrders = true := by kernel_rfl
theorem laid : laidOutB Try.prog = true := by kernel_rfl

set_option maxRecDepth 100000 in
theorem law : EvLaw Try.prog 6 8 [3, 22, 32] := by
  intro xs h hn ht
  obtain ⟨a, as1, rfl, h1, ht⟩ := ht.cons_inv
  obtain ⟨b, as2, rfl, h2, ht⟩ := ht.cons_inv
  obtain ⟨c, as3, rfl, h3, ht⟩ := ht.cons_inv
  obtain rfl := ht.nil_inv
  obtain ⟨n, rfl, _⟩ := h1.asInt tr.u3
  obtain ⟨ops, hO⟩ := tr.ops_arg h2
  obtain ⟨o, rfl⟩ := tr.op_arg h3
  obtain ⟨h', k0, hk⟩ := tr.refuses_run n hO o
  exact ⟨k0, h, h', .inl rfl, hk k0 (Nat.le_refl _)⟩

set_option maxRecDepth 100000 in
theorem lifted (os : Os) (started : os.Started) (H : Type) (enc : TypeId × Value → H) :
    ReturnsInHanded {} Try.checked os 6 .any (Rows.treeRefusesSpec.pre6 enc Try.prog Try.f6 Rows.treeRefusesRow.domain false) (Rows.treeRefusesSpec.post enc Try.prog Try.f6 false true false false) := by
  refine returnsInHanded_of_change (C := Try.checked) own started (by kernel_rfl) Try.func6
    (ChangeSpec.witness6 (enc := enc) (C := Try.checked) false ⟨#[], #[.int .i64 0, .slice none 0 0, .agg #[.int .i64 0, .int .i64 0, .bool false, .int .i64 0, .string ⟨#[]⟩]], []⟩ 8 (by kernel_rfl) (by kernel_rfl) (by kernel_rfl) (by kernel_rfl)) ?_
  intro W base args ds gs before hval hW _ _
  exact law_contract names mixed laid (tb := 4) Try.underlying4 (by kernel_rfl) rfl (F := 8) (ts := [3, 22, 32]) (by rw [Try.params6]) (by kernel_rfl) (fun ds hd => by match ds, hd with | [_, _, _], _ => rfl) law base args ds gs before hval hW

theorem over : Rows.treeRefusesRow.holds Try.pinned (OpenSpec.ofChange Rows.treeRefusesSpec) :=
  OpenClaim.holds_of_wide 6 Try.f6 rfl rfl rfl rfl rfl rfl rfl ⟨rfl, rfl, rfl, rfl, rfl⟩ rfl rfl rfl rfl rfl (by kernel_rfl) Try.func6 (by kernel_rfl)
    (of_decide_eq_true (by kernel_rfl)) (by unfold Func.isWrapper; first | (rw [if_pos (by decide +kernel)]; kernel_rfl) | (rw [if_neg (by decide +kernel)]; exact ⟨rfl, rfl⟩))
    (fun os started H enc _ => lifted os started H enc)

theorem proved : Rows.TreeRefusesSaid := over
#print axioms proved

end Go.Proofs.Ytahomnlkkafbjaa.wdRefuses
