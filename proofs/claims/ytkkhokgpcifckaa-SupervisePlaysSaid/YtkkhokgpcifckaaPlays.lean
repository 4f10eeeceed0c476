/-
  'SupervisePlays' answers true for every specification and every row of calls. No condition.
-/
import Derived.Test.YtkkhokgpcifckaaPlaysG
import Derived.Test.YtkkhokgpcifckaaRows
import Derived.WalkKit
import Derived.ProofKit
import Derived.OpenShut
namespace Go.Proofs.Ytkkhokgpcifckaa.wdPlays
open Go.ChangeShapes Go.WideShapes Go.ChangeAt Go.RowKit Go.Ev
set_option linter.unusedVariables false
set_option linter.constructorNameAsVariable false

theorem own : ownKnob Try.prog.godebug = none := by kernel_rfl
theorem names : namesB Try.prog = true := by kernel_rfl
theorem mixed : Try.prog.follows .mixedOrders = true := by kernel_rfl
theorem laid : laidOutB Try.prog = true := by kernel_rfl

set_option maxRecDepth 100000 in
theorem law : EvLaw Try.prog 8 8 [24, 25] := by
  intro xs h hn ht
  obtain ⟨a, as1, rfl, h1, ht⟩ := ht.cons_inv
  obtain ⟨b, as2, rfl, h2, ht⟩ := ht.cons_inv
  obtain rfl := ht.nil_inv
  obtain ⟨s, v, l, rfl, hS⟩ := wd.spec_arg h1
  obtain ⟨ops, hO⟩ := wd.ops_arg h2
  obtain ⟨h', k0, hk⟩ := rf.plays_run s hS hO
  exact ⟨k0, h, h', .inl rfl, hk k0 (Nat.le_refl _)⟩

set_option maxRecDepth 100000 in
theorem lifted (os : Os) (started : os.Started) (H : Type) (enc : TypeId × Value → H) :
    ReturnsInHanded {} Try.checked os 8 .any (Rows.supervisePlaysSpec.pre6 enc Try.prog Try.f8 Rows.supervisePlaysRow.domain false) (Rows.supervisePlaysSpec.post enc Try.prog Try.f8 false true false false) := by
  refine returnsInHanded_of_change (C := Try.checked) own started (by kernel_rfl) Try.func8
    (ChangeSpec.witness6 (enc := enc) (C := Try.checked) false ⟨#[], #[.agg #[.int .i64 0, .int .i64 0, .int .i64 0, .int .i64 0, .int .i64 0, .slice none 0 0], .slice none 0 0], []⟩ 8 (by kernel_rfl) (by kernel_rfl) (by kernel_rfl) (by kernel_rfl)) ?_
  intro W base args ds gs before hval hW _ _
  exact law_contract names mixed laid (tb := 4) Try.underlying4 (by kernel_rfl) rfl (F := 8) (ts := [24, 25]) (by rw [Try.params8]) (by kernel_rfl) (fun ds hd => by match ds, hd with | [_, _], _ => rfl) law base args ds gs before hval hW

theorem over : Rows.supervisePlaysRow.holds Try.pinned (OpenSpec.ofChange Rows.supervisePlaysSpec) :=
  OpenClaim.holds_of_wide 8 Try.f8 rfl rfl rfl rfl rfl rfl rfl ⟨rfl, rfl, rfl, rfl, rfl⟩ rfl rfl rfl rfl rfl (by kernel_rfl) Try.func8 (by kernel_rfl)
    (of_decide_eq_true (by kernel_rfl)) (by unfold Func.isWrapper; first | (rw [if_pos (by decide +kernel)]; kernel_rfl) | (rw [if_neg (by decide +kernel)]; exact ⟨rfl, rfl⟩))
    (fun os started H enc _ => lifted os started H enc)

theorem proved : Rows.SupervisePlaysSaid := over
#print axioms proved

end Go.Proofs.Ytkkhokgpcifckaa.wdPlays
