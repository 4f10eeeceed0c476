import Derived.Test.YtlonjogfeidgfaaSbEvPvSnd
namespace Go.Ev
open Go.RowKit

mutual
/-- Values that 'veq' knows. -/
def veqR : Value → Bool
  | .bool _ | .int .. | .string _ | .pointer _ | .slice .. | .map _ | .nilFunc | .nilIface => true
  | .iface _ v => veqR v
  | .agg a => veqRA a
  | .tuple a => veqRA a
  | .func (.func _) a b => veqRA a && veqRA b
  | _ => false
def veqRA : Array Value → Bool
  | ⟨l⟩ => veqRL l
def veqRL : List Value → Bool
  | [] => true
  | v :: l => veqR v && veqRL l
end

theorem nbeq (n : Nat) : Nat.beq n n = true := by simp

mutual
theorem veq_refl : ∀ {v : Value}, veqR v = true → veq v v = true
  | .bool b, _ => by simp [veq]
  | .int k n, _ => by simp [veq]
  | .string s, _ => by simp [veq]
  | .pointer a, _ => by simp [veq]
  | .slice a n c, _ => by simp [veq]
  | .map m, _ => by simp [veq]
  | .nilFunc, _ => by simp [veq]
  | .nilIface, _ => by simp [veq]
  | .iface t v, h => by simp [veqR] at h; simp [veq, veq_refl h]
  | .agg a, h => by simp [veqR] at h; simp [veq, veqA_refl h]
  | .tuple a, h => by simp [veqR] at h; simp [veq, veqA_refl h]
  | .func f a b, h => by
    cases f <;> simp [veqR] at h
    simp [veq, veqA_refl h.1, veqA_refl h.2]
theorem veqA_refl : ∀ {a : Array Value}, veqRA a = true → veqA a a = true
  | ⟨l⟩, h => by simp [veqRA] at h; simp [veqA, veqL_refl h]
theorem veqL_refl : ∀ {l : List Value}, veqRL l = true → veqL l l = true
  | [], _ => rfl
  | v :: l, h => by simp [veqRL] at h; simp [veqL, veq_refl h.1, veqL_refl h.2]
end

/-- What is asked, left and right; and what can be looked at. -/
def Asm.lhs (P : Program) : Asm → List (Option Value)
  | .again s t av _ => [evLoad P s.den t av]
  | _ => []
def Asm.rhs : Asm → List (Option Value)
  | .again _ _ _ v => [some v]
  | _ => []
def Asm.okB : Asm → Bool
  | .again _ _ _ v => veqR v
  | .stat ops => statOk ops
  | .refl v => veqR v
  | _ => false

theorem allA_of {P : Program} : ∀ {a : List Asm}, a.flatMap (Asm.lhs P) = a.flatMap Asm.rhs → a.all Asm.okB = true → AllA P a
  | [], _, _ => trivial
  | x :: a, h, hk => by
    simp only [List.flatMap_cons, List.all_cons, Bool.and_eq_true] at h hk
    obtain ⟨h1, h2⟩ := hk
    cases x <;> first | (cases h1; done) | skip
    · exact ⟨h1, allA_of (by simpa [Asm.lhs, Asm.rhs] using h) h2⟩
    · simp only [Asm.lhs, Asm.rhs, List.cons_append, List.nil_append, List.cons.injEq] at h
      exact ⟨⟨h.1, veq_refl h1⟩, allA_of h.2 h2⟩
    · exact ⟨veq_refl h1, allA_of (by simpa [Asm.lhs, Asm.rhs] using h) h2⟩

abbrev PvRes := Option (Value × SH × List Ans × List Asm)
def shutL (P : Program) (v : Value) : PvRes → Value × List (Option Value) × Bool
  | some (u, _, _, a) => (u, a.flatMap (Asm.lhs P), a.all Asm.okB)
  | none => (v, [], false)
def shutR (v : Value) : PvRes → Value × List (Option Value) × Bool
  | some (_, _, _, a) => (v, a.flatMap Asm.rhs, true)
  | none => (v, [], true)

/-- A walk whose answers can all be looked at. -/
theorem run_shut {P : Program} {f : FuncId} {fn : Func} (hf : P.funcs[f]? = some fn) {args : List Value} {h : Hp} {v : Value} {as : List Ans} (k : Nat)
    (he : shutL P v (pvFn P (pvCall P k) fn args (.is h) as) = shutR v (pvFn P (pvCall P k) fn args (.is h) as)) : ∃ h', Run P f args h v h' := by
  cases hr : pvFn P (pvCall P k) fn args (.is h) as with
  | none => rw [hr] at he; simp [shutL, shutR] at he
  | some x =>
    obtain ⟨u, s', r, a⟩ := x
    rw [hr] at he
    simp only [shutL, shutR, Prod.mk.injEq] at he
    obtain ⟨rfl, h1, h2⟩ := he
    exact ⟨s'.den, pvFn_snd (pvCall_snd k) hf hr (allA_of h1 h2)⟩

theorem Run.ev {P : Program} {f : FuncId} {args : List Value} {h h' : Hp} {v : Value} (hr : Run P f args h v h') : ∃ k, evCall P k (.fn f) args h = some (v, h') :=
  let ⟨k, hk⟩ := hr; ⟨k, hk k (Nat.le_refl _)⟩

end Go.Ev
