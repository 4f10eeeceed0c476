/-
  'CancelCopies' answers true for every number of roots and every two lists of calls. No condition.
-/
import Derived.Test.YtlonjogfeidgfaaCopiesG
import Derived.Test.YtlonjogfeidgfaaRows
import Derived.WalkKit
import Derived.ProofKit
import Derived.OpenShut
namespace Go.Proofs.Ytlonjogfeidgfaa.wdCopies
open Go.ChangeShapes Go.WideShapes Go.ChangeAt Go.RowKit Go.Ev
set_option linter.unusedVariables false
set_option linter.constructorNameAsVariable false

theorem own : ownKnob Try.prog.godebug = none := by kernel_rfl
theorem names : namesB Try.prog = true := by kernel_rfl
theorem mixed : Try.prog.follows .mixedOrders = true := by kernel_rfl
theorem laid : laidOutB Try.prog = true := by kernel_rfl

set_option maxRecDepth 100000 in
theorem law : EvLaw Try.prog 8 8 [3, 22, 22] := by
  intro xs h hn ht
  obtain ⟨a, as1, rfl, h1, ht⟩ := ht.cons_inv
  obtain ⟨b, as2, rfl, h2, ht⟩ := ht.cons_inv
  obtain ⟨c, as3, rfl, h3, ht⟩ := ht.cons_inv
  obtain rfl := ht.nil_inv
  obtain ⟨n, rfl, _⟩ := h1.asInt gr.u3
  obtain ⟨ops, hO⟩ := gr.ops_arg h2
  obtain ⟨more, hM⟩ := gr.ops_arg h3
  obtain ⟨h', k0, hk⟩ := gr.copies_law n hO hM
  exact ⟨k0, h, h', .inl rfl, hk k0 (Nat.le_refl _)⟩

set_option maxRecDepth 100000 in
theorem lifted (os : Os) (started : os.Started) (H : Type) (enc : TypeId × Value → H) :
    ReturnsInHanded {} Try.checked os 8 .any (Rows.cancelCopiesSpec.pre6 enc Try.prog Try.f8 Rows.cancelCopiesRow.domain false) (Rows.cancelCopiesSpec.post enc Try.prog Try.f8 false true false false) := by
  refine returnsInHanded_of_change (C := Try.checked) own started (by kernel_rfl) Try.func8
    (ChangeSpec.witness6 (enc := enc) (C := Try.checked) false ⟨#[], #[.int .i64 0, .slice none 0 0, .slice none 0 0], []⟩ 8 (by kernel_rfl) (by kernel_rfl) (by kernel_rfl) (by kernel_rfl)) ?_
  intro W base args ds gs before hval hW _ _
  exact law_contract names mixed laid (tb := 4) Try.underlying4 (by kernel_rfl) rfl (F := 8) (ts := [3, 22, 22]) (by rw [Try.params8]) (by kernel_rfl) (fun ds hd => by match ds, hd with | [_, _, _], _ => rfl) law base args ds gs before hval hW

theorem over : Rows.cancelCopiesRow.holds Try.pinned (OpenSpec.ofChange Rows.cancelCopiesSpec) :=
  OpenClaim.holds_of_wide 8 Try.f8 rfl rfl rfl rfl rfl rfl rfl ⟨rfl, rfl, rfl, rfl, rfl⟩ rfl rfl rfl rfl rfl (by kernel_rfl) Try.func8 (by kernel_rfl)
    (of_decide_eq_true (by kernel_rfl)) (by unfold Func.isWrapper; first | (rw [if_pos (by decide +kernel)]; kernel_rfl) | (rw [if_neg (by decide +kernel)]; exact ⟨rfl, rfl⟩))
    (fun os started H enc _ => lifted os started H enc)

theorem proved : Rows.CancelCopiesSaid := over
#print axioms proved

end Go.Proofs.Ytlonjogfeidgfaa.wdCopies
