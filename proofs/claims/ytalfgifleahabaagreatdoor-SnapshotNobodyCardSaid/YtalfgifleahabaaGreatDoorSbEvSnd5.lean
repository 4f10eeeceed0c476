import Derived.Test.YtalfgifleahabaaGreatDoorSbEvSnd4
import Derived.LaidEql
import Derived.Laws.Pointers
namespace Go.Ev
open Go.RowKit

variable {P : Program} {B : Bs} {w0 : World} {m : Pl} {h : Hp} {w : World} {E : Env} {a : Act}

/-- No pair of numbers, floats or strings: '==' goes to 'equal'. -/
def eqPlain : Value → Bool
  | .int .. | .float .. | .complex .. | .string .. | .agg .. => false
  | _ => true

theorem binOp_eql {t : TypeId} {x y : Value} {r : Bool} (hx : eqPlain x = true) (he : (Op.equal t x y).run P w = .ok r w) : (binOp .eql t x y).run P w = .ok (.bool r) w := by
  cases x <;> simp [eqPlain] at hx <;> simp [binOp, he]
theorem binOp_neq {t : TypeId} {x y : Value} {r : Bool} (hx : eqPlain x = true) (he : (Op.equal t x y).run P w = .ok r w) : (binOp .neq t x y).run P w = .ok (.bool (!r)) w := by
  cases x <;> simp [eqPlain] at hx <;> simp [binOp, he]

theorem VRel.ptr_nil_inv {u : Value} (hr : VRel m (.pointer none) u) : u = .pointer none := by
  cases hr with
  | ptrNil => rfl
theorem VRel.ptr_any_inv {b : Option Addr} {u : Value} (hr : VRel m (.pointer b) u) : ∃ b', u = .pointer b' ∧ b'.isNone = b.isNone := by
  cases hr with
  | ptrNil => exact ⟨none, rfl, rfl⟩
  | ptr i off p h => exact ⟨_, rfl, rfl⟩
theorem VRel.slice_any_inv {b : Option Addr} {n z : Nat} {u : Value} (hr : VRel m (.slice b n z) u) : ∃ b' c, u = .slice b' n c ∧ b'.isNone = b.isNone := by
  cases hr with
  | sliceNil => exact ⟨none, 0, rfl, rfl⟩
  | slice i off len z c p h hc hl hz => exact ⟨_, _, rfl, rfl⟩
  | sliceEnd i off z b hz => exact ⟨_, _, rfl, rfl⟩
theorem VRel.map_any_inv {b : Option Nat} {u : Value} (hr : VRel m (.map b) u) : ∃ b', u = .map b' ∧ b'.isNone = b.isNone := by
  cases hr with
  | mapNil => exact ⟨none, rfl, rfl⟩
  | map i p h => exact ⟨_, rfl, rfl⟩
theorem VRel.nilFunc_inv {u : Value} (hr : VRel m .nilFunc u) : u = .nilFunc := by cases hr with | nilFunc => rfl
theorem VRel.func_any_inv {f : Fn} {x y : Array Value} {u : Value} (hr : VRel m (.func f x y) u) : ∃ g x' y', u = .func g x' y' := by
  cases hr with
  | func f a b c d h1 h2 hf e1 e2 => exact ⟨_, _, _, rfl⟩
  | yield i p h => exact ⟨_, _, _, rfl⟩
theorem VRel.nilIface_inv {u : Value} (hr : VRel m .nilIface u) : u = .nilIface := by cases hr with | nilIface => rfl
theorem VRel.iface_inv {t : TypeId} {v u : Value} (hr : VRel m (.iface t v) u) : ∃ x, u = .iface t x ∧ VRel m v x := by
  cases hr with
  | iface t v u h => exact ⟨u, rfl, h⟩

theorem evEq_snd (s : Sim B w0 m h w) {t : TypeId} {x y ux uy : Value} {r : Bool} (hl : evEq P h t x y = some r) (hx : VRel m x ux) (hy : VRel m y uy) :
    eqPlain ux = true ∧ (Op.equal t ux uy).run P w = .ok r w := by
  suffices H : eqPlain ux = true ∧ ∀ d : Nat, (Op.equalIn (d + 1) t ux uy).run P w = .ok r w from ⟨H.1, H.2 9999⟩
  unfold evEq at hl
  split at hl
  · rename_i e b hu
    cases hl
    have := hx.ptr_nil_inv; subst this
    obtain ⟨b', rfl, hb⟩ := hy.ptr_any_inv
    refine ⟨rfl, fun d => ?_⟩
    rw [← hb]
    simp [Op.equalIn, run_underlying hu]
  · rename_i e b hu
    cases hl
    have := hy.ptr_nil_inv; subst this
    obtain ⟨b', rfl, hb⟩ := hx.ptr_any_inv
    refine ⟨rfl, fun d => ?_⟩
    cases b' with
    | none => simp at hb
    | some b' => simp [Op.equalIn, run_underlying hu]
  · rename_i e i o j o' hu
    obtain ⟨p, hp, rfl⟩ := hx.ptr_inv
    obtain ⟨q, hq, rfl⟩ := hy.ptr_inv
    refine ⟨rfl, fun d => ?_⟩
    split at hl
    · rename_i n c c' hn hc hc'
      have hoi := ownAt_some hc
      have hoj := ownAt_some hc'
      have gp := s.get hp hoi
      have gq := s.get hq hoj
      split at hl
      · rename_i hij
        have e1 : i = j := Nat.eq_of_beq_eq_true hij
        subst e1
        rw [hp] at hq; cases hq
        cases hl
        by_cases ho : o = o'
        · subst ho
          simp [Op.equalIn, run_underlying hu, run_sizeO hn, sameAddr]
        · have : Nat.beq o o' = false := by
            cases hb : Nat.beq o o' with
            | false => rfl
            | true => exact absurd (Nat.eq_of_beq_eq_true hb) ho
          simp [Op.equalIn, run_underlying hu, run_sizeO hn, sameAddr, this, ho]
      · rename_i hij
        cases hl
        have hne : i ≠ j := by
          intro e; subst e
          have := Nat.beq_refl i
          rw [this] at hij; cases hij
        have hbl : p.block ≠ q.block := fun e => hne (s.inj i j p q _ _ hp hq hoi hoj rfl rfl e)
        obtain ⟨arr, t1, fz, g1, _, _, _, g5⟩ := gp
        obtain ⟨arr', t2, fz', k1, _, _, _, k5⟩ := gq
        rw [if_pos rfl] at g5 k5
        obtain ⟨rfl, _⟩ := g5
        obtain ⟨rfl, _⟩ := k5
        have hsa := run_sameAddr_other (P := P) (w := w) (a := ⟨p.block, p.base + o, none⟩) (b := ⟨q.block, q.base + o', none⟩) (by intro e; injection e with e; exact hbl e) g1 k1
        simp [Op.equalIn, run_underlying hu, run_sizeO hn, hsa]
    · cases hl
  · rename_i e n1 z1 b n2 z2 hu
    cases hl
    obtain ⟨b1, c1, rfl, hb1⟩ := hx.slice_any_inv
    obtain ⟨b2, c2, rfl, hb2⟩ := hy.slice_any_inv
    refine ⟨rfl, fun d => ?_⟩
    have : b1 = none := by simpa using hb1
    subst this
    rw [← hb2]
    simp [Op.equalIn, run_underlying hu]
  · rename_i e b n1 z1 n2 z2 hu
    cases hl
    obtain ⟨b1, c1, rfl, hb1⟩ := hx.slice_any_inv
    obtain ⟨b2, c2, rfl, hb2⟩ := hy.slice_any_inv
    refine ⟨rfl, fun d => ?_⟩
    have : b2 = none := by simpa using hb2
    subst this
    cases b1 with
    | none => simp at hb1
    | some b1 => simp [Op.equalIn, run_underlying hu]
  · rename_i k e b hu
    cases hl
    obtain ⟨b1, rfl, hb1⟩ := hx.map_any_inv
    obtain ⟨b2, rfl, hb2⟩ := hy.map_any_inv
    refine ⟨rfl, fun d => ?_⟩
    have : b1 = none := by simpa using hb1
    subst this
    rw [← hb2]
    simp [Op.equalIn, run_underlying hu]
  · rename_i k e b hu
    cases hl
    obtain ⟨b1, rfl, hb1⟩ := hx.map_any_inv
    obtain ⟨b2, rfl, hb2⟩ := hy.map_any_inv
    refine ⟨rfl, fun d => ?_⟩
    have : b2 = none := by simpa using hb2
    subst this
    cases b1 with
    | none => simp at hb1
    | some b1 => simp [Op.equalIn, run_underlying hu]
  · rename_i hu
    cases hl
    have := hx.nilFunc_inv; subst this
    obtain ⟨g, x', y', rfl⟩ := hy.func_any_inv
    exact ⟨rfl, fun d => by simp [Op.equalIn, run_underlying hu]⟩
  · rename_i hu
    cases hl
    have := hy.nilFunc_inv; subst this
    obtain ⟨g, x', y', rfl⟩ := hx.func_any_inv
    exact ⟨rfl, fun d => by simp [Op.equalIn, run_underlying hu]⟩
  · rename_i hu
    cases hl
    have := hx.nilIface_inv; subst this
    obtain ⟨x', rfl, _⟩ := hy.iface_inv
    exact ⟨rfl, fun d => by simp [Op.equalIn, run_underlying hu]⟩
  · rename_i hu
    cases hl
    have := hy.nilIface_inv; subst this
    obtain ⟨x', rfl, _⟩ := hx.iface_inv
    exact ⟨rfl, fun d => by simp [Op.equalIn, run_underlying hu]⟩
  · cases hl

end Go.Ev
