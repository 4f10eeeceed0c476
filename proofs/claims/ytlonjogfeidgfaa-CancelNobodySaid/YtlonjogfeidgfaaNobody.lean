/-
  'CancelNobody' answers true for every operation. No condition. The law's own code is walked with its argument's cells left open; each call it makes on the nil grove, and 'awake', is run by a verified evaluator (the texts SbEv..).
-/
import Derived.Test.YtlonjogfeidgfaaSbEvShut
import Derived.Test.YtlonjogfeidgfaaRows
import Derived.WalkKit
import Derived.ProofKit
import Derived.OpenShut
namespace Go.Proofs.Ytlonjogfeidgfaa.nobody
open Go.ChangeShapes Go.WideShapes Go.ChangeAt Go.RowKit Go.Ev
set_option linter.unusedVariables false
set_option linter.constructorNameAsVariable false

theorem own : ownKnob Try.prog.godebug = none := by kernel_rfl
theorem names : namesB Try.prog = true := by kernel_rfl
theorem mixed : Try.prog.follows .mixedOrders = true := by kernel_rfl
theorem laid : laidOutB Try.prog = true := by kernel_rfl

theorem six {α : Type} {l : List α} (h : l.length = 6) : ∃ a b c d e f, l = [a, b, c, d, e, f] := by
  match l, h with
  | [a, b, c, d, e, f], _ => exact ⟨a, b, c, d, e, f, rfl⟩

/-- An operation, taken apart. -/
theorem op_open {h : Hp} {F : Nat} {a : Value} (ht : ArgTyped Try.prog h F 31 a) : ∃ k n m b f s, a = .agg #[.int .i64 k, .int .i64 n, .int .i64 m, .bool b, .int .i64 f, .string s] := by
  obtain ⟨cs, rfl, hc⟩ := ht.asStruct Try.underlying31
  obtain ⟨G, rfl, hl, hf⟩ := hc.asStruct Try.underlying31
  have c31 : Try.prog.cellsOf 31 = 6 := by kernel_rfl
  have c29 : Try.prog.cellsOf 29 = 2 := by kernel_rfl
  have c3 : Try.prog.cellsOf 3 = 1 := by kernel_rfl
  have c4 : Try.prog.cellsOf 4 = 1 := by kernel_rfl
  have c9 : Try.prog.cellsOf 9 = 1 := by kernel_rfl
  have u3 : Try.prog.underlying 3 = some (.int .i64) := by kernel_rfl
  have u4 : Try.prog.underlying 4 = some .bool := by kernel_rfl
  have u9 : Try.prog.underlying 9 = some .string := by kernel_rfl
  rw [c31] at hl
  obtain ⟨l⟩ := cs
  obtain ⟨a, b, c, d, e, g, rfl⟩ := six hl
  simp only [List.forall_mem_cons, c3, c4, c29] at hf
  obtain ⟨k, h1, _⟩ := hf.1.asInt u3
  obtain ⟨n, h2, _⟩ := hf.2.1.asInt u3
  obtain ⟨m, h6, _⟩ := hf.2.2.1.asInt u3
  obtain ⟨t, h3⟩ := hf.2.2.2.1.asBool u4
  obtain ⟨G, rfl, hl, hg⟩ := hf.2.2.2.2.1.asStruct Try.underlying29
  simp only [List.forall_mem_cons, c3, c9] at hg
  obtain ⟨f, h4, _⟩ := hg.1.asInt u3
  obtain ⟨s, h5, _⟩ := hg.2.1.asString u9
  simp at h1 h2 h3 h4 h5 h6
  subst h1; subst h2; subst h3; subst h4; subst h5; subst h6
  exact ⟨k, n, m, t, f, s, rfl⟩

/-- What the walk is told: 'dir': carry it out; 'run': run the callee; 'unr': round by round. -/
def answers : List Ans := [.dir, .dir, .dir, .dir, .run 60, .dir, .run 60, .dir, .dir, .inl, .dir, .run 60, .dir, .run 60, .run 60, .dir, .dir, .inl, .dir, .run 60, .dir, .run 60, .run 60, .dir, .dir, .inl, .dir, .run 60, .dir, .run 60, .run 60, .run 60, .dir, .run 60, .dir, .run 60, .dir, .run 60, .dir, .dir, .dir, .run 60, .dir, .dir, .dir, .run 60, .dir, .run 60, .dir, .run 60, .dir, .run 60, .dir] ++ [.unr 20] ++ (List.range 14).flatMap (fun _ => [.dir, .dir, .dir, .dir, .dir]) ++ [.dir] ++ [.run 60, .dir, .run 60, .dir, .dir, .dir, .dir, .dir, .dir, .dir, .dir, .dir, .dir, .dir, .dir, .dir, .run 60, .run 60, .dir, .run 60]

theorem say (k n m : Int) (b : Bool) (f : Int) (s : ByteArray) : shutL Try.prog (.bool true) (pvFn Try.prog (pvCall Try.prog 1) Try.f9 [.agg #[.int .i64 k, .int .i64 n, .int .i64 m, .bool b, .int .i64 f, .string s]] (.is []) answers) =
    shutR (.bool true) (pvFn Try.prog (pvCall Try.prog 1) Try.f9 [.agg #[.int .i64 k, .int .i64 n, .int .i64 m, .bool b, .int .i64 f, .string s]] (.is []) answers) := by kernel_rfl

set_option maxRecDepth 100000 in
theorem law : EvLaw Try.prog 9 4 [31] := by
  intro xs h hn ht
  obtain ⟨a, as', rfl, h1, h2⟩ := ht.cons_inv
  obtain rfl := h2.nil_inv
  obtain ⟨k, n, m, b, f, s, rfl⟩ := op_open h1
  have hs := say k n m b f s
  obtain ⟨h', hr⟩ := run_shut Try.func9 1 hs
  obtain ⟨q, e⟩ := hr.ev
  refine ⟨q, [], h', .inr ⟨rfl, fun x hx => ?_⟩, e⟩
  simp only [List.mem_singleton] at hx
  subst hx
  rfl

set_option maxRecDepth 100000 in
theorem lifted (os : Os) (started : os.Started) (H : Type) (enc : TypeId × Value → H) :
    ReturnsInHanded {} Try.checked os 9 .any (Rows.cancelNobodySpec.pre6 enc Try.prog Try.f9 Rows.cancelNobodyRow.domain false) (Rows.cancelNobodySpec.post enc Try.prog Try.f9 false true false false) := by
  refine returnsInHanded_of_change (C := Try.checked) own started (by kernel_rfl) Try.func9
    (ChangeSpec.witness6 (enc := enc) (C := Try.checked) false ⟨#[], #[.agg #[.int .i64 0, .int .i64 0, .int .i64 0, .bool false, .int .i64 0, .string ⟨#[]⟩]], []⟩ 8 (by kernel_rfl) (by kernel_rfl) (by kernel_rfl) (by kernel_rfl)) ?_
  intro W base args ds gs before hval hW _ _
  exact law_contract names mixed laid (tb := 4) Try.underlying4 (by kernel_rfl) rfl (F := 4) (ts := [31]) (by rw [Try.params9]) (by kernel_rfl) (fun ds hd => by match ds, hd with | [d], _ => rfl) law base args ds gs before hval hW

theorem over : Rows.cancelNobodyRow.holds Try.pinned (OpenSpec.ofChange Rows.cancelNobodySpec) :=
  OpenClaim.holds_of_wide 9 Try.f9 rfl rfl rfl rfl rfl rfl rfl ⟨rfl, rfl, rfl, rfl, rfl⟩ rfl rfl rfl rfl rfl (by kernel_rfl) Try.func9 (by kernel_rfl)
    (of_decide_eq_true (by kernel_rfl)) (by unfold Func.isWrapper; first | (rw [if_pos (by decide +kernel)]; kernel_rfl) | (rw [if_neg (by decide +kernel)]; exact ⟨rfl, rfl⟩))
    (fun os started H enc _ => lifted os started H enc)

theorem proved : Rows.CancelNobodySaid := over
#print axioms proved

end Go.Proofs.Ytlonjogfeidgfaa.nobody
