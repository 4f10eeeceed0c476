/-
  'SuperviseNobody' answers true for every operation. No condition: the law does not look at its argument's numbers beyond copying them; the body is run by a verified evaluator (the texts SbEv..), and its answer is computed once with the five cells left open.
-/
import Derived.Test.YtkkhokgpcifckaaSbEvLaw
import Derived.Test.YtkkhokgpcifckaaRows
import Derived.WalkKit
import Derived.ProofKit
import Derived.OpenShut
namespace Go.Proofs.Ytkkhokgpcifckaa.nobody
open Go.ChangeShapes Go.WideShapes Go.ChangeAt Go.RowKit Go.Ev
set_option linter.unusedVariables false
set_option linter.constructorNameAsVariable false

theorem own : ownKnob Try.prog.godebug = none := by kernel_rfl
theorem names : namesB Try.prog = true := by kernel_rfl
theorem mixed : Try.prog.follows .mixedOrders = true := by kernel_rfl
theorem laid : laidOutB Try.prog = true := by kernel_rfl

theorem five {α : Type} {l : List α} (h : l.length = 5) : ∃ a b c d e, l = [a, b, c, d, e] := by
  match l, h with
  | [a, b, c, d, e], _ => exact ⟨a, b, c, d, e, rfl⟩

/-- An operation, taken apart. -/
theorem op_open {h : Hp} {F : Nat} {a : Value} (ht : ArgTyped Try.prog h F 36 a) : ∃ k n t f s, a = .agg #[.int .i64 k, .int .i64 n, .int .i64 t, .int .i64 f, .string s] := by
  obtain ⟨cs, rfl, hc⟩ := ht.asStruct Try.underlying36
  obtain ⟨G, rfl, hl, hf⟩ := hc.asStruct Try.underlying36
  have c36 : Try.prog.cellsOf 36 = 5 := by kernel_rfl
  have c34 : Try.prog.cellsOf 34 = 2 := by kernel_rfl
  have c3 : Try.prog.cellsOf 3 = 1 := by kernel_rfl
  have c9 : Try.prog.cellsOf 9 = 1 := by kernel_rfl
  have u3 : Try.prog.underlying 3 = some (.int .i64) := by kernel_rfl
  have u9 : Try.prog.underlying 9 = some .string := by kernel_rfl
  rw [c36] at hl
  obtain ⟨l⟩ := cs
  obtain ⟨a, b, c, d, e, rfl⟩ := five hl
  simp only [List.forall_mem_cons, c3, c34] at hf
  obtain ⟨k, h1, _⟩ := hf.1.asInt u3
  obtain ⟨n, h2, _⟩ := hf.2.1.asInt u3
  obtain ⟨t, h3, _⟩ := hf.2.2.1.asInt u3
  obtain ⟨G, rfl, hl, hg⟩ := hf.2.2.2.1.asStruct Try.underlying34
  simp only [List.forall_mem_cons, c3, c9] at hg
  obtain ⟨f, h4, _⟩ := hg.1.asInt u3
  obtain ⟨s, h5, _⟩ := hg.2.1.asString u9
  simp at h1 h2 h3 h4 h5
  subst h1; subst h2; subst h3; subst h4; subst h5
  exact ⟨k, n, t, f, s, rfl⟩

theorem say (k n t f : Int) (s : ByteArray) : (evCall Try.prog 40 (.fn 9) [.agg #[.int .i64 k, .int .i64 n, .int .i64 t, .int .i64 f, .string s]] []).map (·.1) = some (.bool true) := by kernel_rfl

set_option maxRecDepth 100000 in
theorem law : EvLaw Try.prog 9 4 [36] := by
  intro xs h hn ht
  obtain ⟨a, as', rfl, h1, h2⟩ := ht.cons_inv
  obtain rfl := h2.nil_inv
  obtain ⟨k, n, t, f, s, rfl⟩ := op_open h1
  have hs := say k n t f s
  obtain ⟨h', e⟩ := map_fst hs
  refine ⟨40, [], h', .inr ⟨rfl, fun x hx => ?_⟩, e⟩
  simp only [List.mem_singleton] at hx
  subst hx
  rfl

set_option maxRecDepth 100000 in
theorem lifted (os : Os) (started : os.Started) (H : Type) (enc : TypeId × Value → H) :
    ReturnsInHanded {} Try.checked os 9 .any (Rows.superviseNobodySpec.pre6 enc Try.prog Try.f9 Rows.superviseNobodyRow.domain false) (Rows.superviseNobodySpec.post enc Try.prog Try.f9 false true false false) := by
  refine returnsInHanded_of_change (C := Try.checked) own started (by kernel_rfl) Try.func9
    (ChangeSpec.witness6 (enc := enc) (C := Try.checked) false ⟨#[], #[.agg #[.int .i64 0, .int .i64 0, .int .i64 0, .int .i64 0, .string ⟨#[]⟩]], []⟩ 8 (by kernel_rfl) (by kernel_rfl) (by kernel_rfl) (by kernel_rfl)) ?_
  intro W base args ds gs before hval hW _ _
  exact law_contract names mixed laid (tb := 4) Try.underlying4 (by kernel_rfl) rfl (F := 4) (ts := [36]) (by rw [Try.params9]) (by kernel_rfl) (fun ds hd => by match ds, hd with | [d], _ => rfl) law base args ds gs before hval hW

theorem over : Rows.superviseNobodyRow.holds Try.pinned (OpenSpec.ofChange Rows.superviseNobodySpec) :=
  OpenClaim.holds_of_wide 9 Try.f9 rfl rfl rfl rfl rfl rfl rfl ⟨rfl, rfl, rfl, rfl, rfl⟩ rfl rfl rfl rfl rfl (by kernel_rfl) Try.func9 (by kernel_rfl)
    (of_decide_eq_true (by kernel_rfl)) (by unfold Func.isWrapper; first | (rw [if_pos (by decide +kernel)]; kernel_rfl) | (rw [if_neg (by decide +kernel)]; exact ⟨rfl, rfl⟩))
    (fun os started H enc _ => lifted os started H enc)

theorem proved : Rows.SuperviseNobodySaid := over
#print axioms proved

end Go.Proofs.Ytkkhokgpcifckaa.nobody
