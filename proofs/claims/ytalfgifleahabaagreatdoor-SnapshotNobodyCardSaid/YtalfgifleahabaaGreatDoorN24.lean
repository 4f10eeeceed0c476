/-
  SnapshotNobody: a call of the law returns true, in every world in which the listed variables hold what the program's text lays into them; and what the row lists is tied to that text.
-/
import Derived.Test.YtalfgifleahabaaGreatDoorN8
import Derived.Test.YtalfgifleahabaaGreatDoorN10
import Derived.Test.YtalfgifleahabaaGreatDoorN11
import Derived.Test.YtalfgifleahabaaGreatDoorN13
import Derived.Test.YtalfgifleahabaaGreatDoorN14
import Derived.Test.YtalfgifleahabaaGreatDoorN15
import Derived.Test.YtalfgifleahabaaGreatDoorN16
import Derived.Test.YtalfgifleahabaaGreatDoorN17
import Derived.Test.YtalfgifleahabaaGreatDoorN18
import Derived.Test.YtalfgifleahabaaGreatDoorN19
import Derived.Test.YtalfgifleahabaaGreatDoorN20
import Derived.Test.YtalfgifleahabaaGreatDoorN21
import Derived.Test.YtalfgifleahabaaGreatDoorN23
import Derived.Test.YtalfgifleahabaaGreatDoorCards
import Derived.WalkKit
import Derived.ProofKit
import Derived.ChangeVars
import Derived.JoinedOf
import Derived.Stop.Joined
import Derived.KernelRfl
namespace Go.Proofs.YtalfgifleahabaaGreatDoor.sn
open Go Go.ChangeShapes Go.WideShapes Go.ChangeAt Go.RowKit Go.Ev
set_option maxRecDepth 100000
set_option linter.unusedVariables false

theorem own : ownKnob Tryz.prog.godebug = none := by kernel_rfl
theorem levIs : levD = Rows.laid_seedbed_seedbedref02_levels := by kernel_rfl
theorem ascIs : ascD = Rows.laid_strings_asciiSpace := by kernel_rfl
theorem inLev : ("seedbed/seedbedref02.levels", levD) ∈ Rows.snapshotNobodyRow.laid := by
  rw [levIs]
  exact .tail _ (.tail _ (.tail _ (.head _)))
theorem inAsc : ("strings.asciiSpace", ascD) ∈ Rows.snapshotNobodyRow.laid := by
  rw [ascIs]
  exact .tail _ (.tail _ (.tail _ (.tail _ (.tail _ (.head _)))))

theorem lifted (os : Os) (started : os.Started) (H : Type) (enc : TypeId × Value → H) :
    ReturnsInHanded {} Tryz.checked os 3 .any (fun w args => (Rows.snapshotNobodySpec.pre enc Tryz.prog Tryz.f3 [] false w args ∧ laidMetH Tryz.prog Rows.snapshotNobodyRow.laid w) ∧ sizedMet enc Tryz.prog Tryz.f3 (OpenSpec.ofChange Rows.snapshotNobodySpec) false w args)
      (Rows.snapshotNobodySpec.post enc Tryz.prog Tryz.f3 false true false false) := by
  refine returnsInHanded_of_change_and (C := Tryz.checked) (X := fun w _ => laidMetH Tryz.prog Rows.snapshotNobodyRow.laid w) (fun _ _ _ hh h => h.of_heap hh) own started (by kernel_rfl) Tryz.func3
    (ChangeSpec.witness_shaped (enc := enc) (C := Tryz.checked) (os := os) (X := fun w _ => laidMetH Tryz.prog Rows.snapshotNobodyRow.laid w) false (laidWorld os) #[] 8 rfl (World.shaped_of_RefB (wShape1 os) (wShape2 os)) (by kernel_rfl) (by kernel_rfl) (by kernel_rfl) (wMet os)) ?_
  intro W base args ds gs before _ hW _ _ hL _
  rw [MakeChecks.laidMetH_plain _ _ _ plainL] at hL
  obtain ⟨m, s⟩ := start inLev inAsc hL
  obtain ⟨h', run⟩ := runs s
  exact law_contract0 (tb := 4) (by kernel_rfl) (by kernel_rfl) rfl (by kernel_rfl) rfl run args ds gs before hW

theorem andT {a b : Bool} (h : a = true) (k : b = true) : (a && b) = true := by rw [h, k]; rfl
theorem closed : joinedFacts Tryz.prog 3 Tryz.f3 Rows.snapshotNobodySpec Rows.snapshotNobodyRow = true := by
  unfold joinedFacts
  exact (andT (andT (andT (andT (andT (andT (andT (andT (andT (andT (andT (andT (andT (andT (andT (andT (andT (andT (andT (andT (andT (andT (andT (andT (andT (andT (andT (andT (andT (andT (andT (by kernel_rfl) laidOut) mapsOk) (by kernel_rfl)) (by kernel_rfl)) (by kernel_rfl)) (by kernel_rfl)) (by kernel_rfl)) (by kernel_rfl)) inPlaceOk) unfollowedOk) recursesOk) namedOk) (by kernel_rfl)) (by kernel_rfl)) (by kernel_rfl)) (by kernel_rfl)) (by kernel_rfl)) (by kernel_rfl)) (by kernel_rfl)) (by kernel_rfl)) (by kernel_rfl)) keysOk) (by kernel_rfl)) heardOk) enterOk) (by kernel_rfl)) (by kernel_rfl)) (by kernel_rfl)) (by kernel_rfl)) (by kernel_rfl)) (by kernel_rfl))

theorem rowHolds : Rows.SnapshotNobodySaid :=
  OpenClaim.holds_of_wide 3 Tryz.f3 rfl rfl rfl rfl rfl rfl rfl ⟨rfl, rfl, rfl, rfl, rfl⟩ rfl rfl rfl rfl rfl (by kernel_rfl) Tryz.func3 closed
    (of_decide_eq_true (by kernel_rfl)) (by unfold Func.isWrapper; first | (rw [if_pos (by decide +kernel)]; kernel_rfl) | (rw [if_neg (by decide +kernel)]; exact ⟨rfl, rfl⟩))
    (fun os started H enc _ => lifted os started H enc)

theorem isMain : Tryz.prog.mainIs = some (true, "d48897b65fbe90d87f99a96a38328a6ef5eb68ae4b035e69ac03e2763e9a2b77".toList) := by kernel_rfl
theorem isF3 : Tryz.prog.funcNamed "seedbed/seedbedlaw26.SnapshotNobody" = some 3 := by kernel_rfl
theorem looksOk : true = Tryz.prog.looks [] := by kernel_rfl

theorem proved : Rows.SnapshotNobodyCardSaid :=
  Claim7.holds_tied_plain_at .later [] [.data, .data, .data, .data, .data, .data, .listed, .pinned, .data] true (true, "d48897b65fbe90d87f99a96a38328a6ef5eb68ae4b035e69ac03e2763e9a2b77") true
    rowHolds (fun _ h => by cases h) (by kernel_rfl) (fun _ h => by cases h) rowTied rfl ⟨rfl, rfl⟩ isMain rfl
    (fun f fn hf hfn => by
      obtain rfl : f = 3 := Option.some.inj (isF3.symm.trans hf) |>.symm
      obtain rfl : fn = Tryz.f3 := (Option.some.inj (Tryz.func3.symm.trans hfn)).symm
      exact ⟨looksOk, fun j t ht => by
        rw [Tryz.params3] at ht
        simp at ht⟩)
    goesOk
#print axioms proved

end Go.Proofs.YtalfgifleahabaaGreatDoor.sn
