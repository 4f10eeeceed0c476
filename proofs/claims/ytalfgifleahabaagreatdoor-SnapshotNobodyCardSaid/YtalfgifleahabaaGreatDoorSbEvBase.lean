import Derived.CallsIn
import Derived.Below
import Derived.Laws.AppendOwn
namespace Go.Ev
open Go.RowKit

/-- Where a live object lies: its block, its first cell, how many cells it may take. -/
structure Place where
  block : Nat
  base : Nat
  ext : Nat
  deriving Inhabited

abbrev Pl := Nat → Option Place

def Pl.le (m m' : Pl) : Prop := ∀ i p, m i = some p → m' i = some p
theorem Pl.le_refl (m : Pl) : m.le m := fun _ _ h => h
theorem Pl.le_trans {a b c : Pl} (h : a.le b) (k : b.le c) : a.le c := fun i p hp => k i p (h i p hp)

/-- An abstract value (whose addresses name objects; the third part of a slice is the size of an element) and a value of the model. -/
inductive VRel (m : Pl) : Value → Value → Prop
  | bool (b : Bool) : VRel m (.bool b) (.bool b)
  | int (k : IntKind) (n : Int) : VRel m (.int k n) (.int k n)
  | float (k : FloatKind) (n : Nat) : VRel m (.float k n) (.float k n)
  | complex (k : FloatKind) (a b : Nat) : VRel m (.complex k a b) (.complex k a b)
  | string (s : ByteArray) : VRel m (.string s) (.string s)
  | ptrNil : VRel m (.pointer none) (.pointer none)
  | ptr (i off : Nat) (p : Place) (h : m i = some p) : VRel m (.pointer (some ⟨i, off, none⟩)) (.pointer (some ⟨p.block, p.base + off, none⟩))
  | sliceNil : VRel m (.slice none 0 0) (.slice none 0 0)
  | slice (i off len z c : Nat) (p : Place) (h : m i = some p) (hc : off + c * z = p.ext) (hl : len ≤ c) (hz : 0 < z) :
      VRel m (.slice (some ⟨i, off, none⟩) len z) (.slice (some ⟨p.block, p.base + off, none⟩) len c)
  | sliceEnd (i off z : Nat) (a : Addr) (hz : 0 < z) : VRel m (.slice (some ⟨i, off, none⟩) 0 z) (.slice (some a) 0 0)
  | mapNil : VRel m (.map none) (.map none)
  | map (i : Nat) (p : Place) (h : m i = some p) : VRel m (.map (some i)) (.map (some p.block))
  | nilFunc : VRel m .nilFunc .nilFunc
  | func (f : Fn) (a b c d : Array Value) (h1 : a.size = c.size) (h2 : b.size = d.size) (hf : ∀ l, f ≠ .yield l)
      (e1 : ∀ j (h : j < a.size) (h' : j < c.size), VRel m a[j] c[j]) (e2 : ∀ j (h : j < b.size) (h' : j < d.size), VRel m b[j] d[j]) : VRel m (.func f a b) (.func f c d)
  | yield (i : Nat) (p : Place) (h : m i = some p) : VRel m (.func (.yield i) #[] #[]) (.func (.yield p.block) #[] #[])
  | nilIface : VRel m .nilIface .nilIface
  | iface (t : TypeId) (v u : Value) (h : VRel m v u) : VRel m (.iface t v) (.iface t u)
  | agg (a b : Array Value) (h : a.size = b.size) (e : ∀ j (h : j < a.size) (h' : j < b.size), VRel m a[j] b[j]) : VRel m (.agg a) (.agg b)
  | tuple (a b : Array Value) (h : a.size = b.size) (e : ∀ j (h : j < a.size) (h' : j < b.size), VRel m a[j] b[j]) : VRel m (.tuple a) (.tuple b)

theorem VRel.mono {m m' : Pl} (hm : m.le m') {v u : Value} (h : VRel m v u) : VRel m' v u := by
  induction h with
  | bool b => exact .bool b
  | int k n => exact .int k n
  | float k n => exact .float k n
  | complex k a b => exact .complex k a b
  | string s => exact .string s
  | ptrNil => exact .ptrNil
  | ptr i off p h => exact .ptr i off p (hm _ _ h)
  | sliceNil => exact .sliceNil
  | slice i off len z c p h hc hl hz => exact .slice i off len z c p (hm _ _ h) hc hl hz
  | sliceEnd i off z a hz => exact .sliceEnd i off z a hz
  | mapNil => exact .mapNil
  | map i p h => exact .map i p (hm _ _ h)
  | nilFunc => exact .nilFunc
  | func f a b c d h1 h2 hf _ _ e1 e2 => exact .func f a b c d h1 h2 hf e1 e2
  | yield i p h => exact .yield i p (hm _ _ h)
  | nilIface => exact .nilIface
  | iface t v u _ ih => exact .iface t v u ih
  | agg a b h _ e => exact .agg a b h e
  | tuple a b h _ e => exact .tuple a b h e

/-- Rows of values. -/
def VRels (m : Pl) (a b : List Value) : Prop := a.length = b.length ∧ ∀ (j : Nat) v u, a[j]? = some v → b[j]? = some u → VRel m v u

theorem VRels.mono {m m' : Pl} (hm : m.le m') {a b : List Value} (h : VRels m a b) : VRels m' a b := ⟨h.1, fun j v u hv hu => (h.2 j v u hv hu).mono hm⟩
theorem VRels.nil (m : Pl) : VRels m [] [] := ⟨rfl, fun j v u h => by simp at h⟩
theorem VRels.cons {m : Pl} {v u : Value} {a b : List Value} (h : VRel m v u) (k : VRels m a b) : VRels m (v :: a) (u :: b) := by
  refine ⟨by simp [k.1], fun j x y hx hy => ?_⟩
  cases j with
  | zero => simp at hx hy; subst hx; subst hy; exact h
  | succ j => simp at hx hy; exact k.2 j x y hx hy
theorem VRels.get {m : Pl} {a b : List Value} (h : VRels m a b) {j : Nat} {v : Value} (hv : a[j]? = some v) : ∃ u, b[j]? = some u ∧ VRel m v u := by
  have hj : j < a.length := (List.getElem?_eq_some_iff.1 hv).1
  have hj' : j < b.length := by rw [← h.1]; exact hj
  exact ⟨b[j], List.getElem?_eq_getElem hj', h.2 j v _ hv (List.getElem?_eq_getElem hj')⟩
theorem VRels.append {m : Pl} {a b c d : List Value} (h : VRels m a b) (k : VRels m c d) : VRels m (a ++ c) (b ++ d) := by
  refine ⟨by simp [h.1, k.1], fun j v u hv hu => ?_⟩
  rw [List.getElem?_append] at hv hu
  rw [h.1] at hv
  split at hv
  · rename_i hj; rw [if_pos hj] at hu; exact h.2 j v u hv hu
  · rename_i hj; rw [if_neg hj] at hu; exact k.2 _ v u hv hu
theorem VRels.take {m : Pl} {a b : List Value} (n : Nat) (h : VRels m a b) : VRels m (a.take n) (b.take n) := by
  refine ⟨by simp [h.1], fun j v u hv hu => ?_⟩
  rw [List.getElem?_take] at hv hu
  split at hv
  · rename_i hj; rw [if_pos hj] at hu; exact h.2 j v u hv hu
  · cases hv
theorem VRels.drop {m : Pl} {a b : List Value} (n : Nat) (h : VRels m a b) : VRels m (a.drop n) (b.drop n) := by
  refine ⟨by simp [h.1], fun j v u hv hu => ?_⟩
  rw [List.getElem?_drop] at hv hu
  exact h.2 _ v u hv hu
theorem VRels.set {m : Pl} {a b : List Value} (n : Nat) {v u : Value} (h : VRels m a b) (k : VRel m v u) : VRels m (a.set n v) (b.set n u) := by
  refine ⟨by simp [h.1], fun j x y hx hy => ?_⟩
  rw [List.getElem?_set] at hx hy
  rw [h.1] at hx
  split at hx
  · rename_i hj
    subst hj
    rw [if_pos rfl] at hy
    split at hx
    · rename_i hl; rw [if_pos hl] at hy; cases hx; cases hy; exact k
    · cases hx
  · rename_i hj; rw [if_neg hj] at hy; exact h.2 j x y hx hy
theorem VRels.of_arr {m : Pl} {a b : Array Value} (h : a.size = b.size) (e : ∀ j (h : j < a.size) (h' : j < b.size), VRel m a[j] b[j]) : VRels m a.toList b.toList := by
  refine ⟨by simp [h], fun j v u hv hu => ?_⟩
  simp only [Array.getElem?_toList] at hv hu
  obtain ⟨h1, rfl⟩ := Array.getElem?_eq_some_iff.1 hv
  obtain ⟨h2, rfl⟩ := Array.getElem?_eq_some_iff.1 hu
  exact e j h1 h2
theorem VRels.arr {m : Pl} {a b : List Value} (h : VRels m a b) : ∀ j (h : j < a.toArray.size) (h' : j < b.toArray.size), VRel m a.toArray[j] b.toArray[j] := by
  intro j h1 h2
  exact h.2 j _ _ (by simp) (by simp)
theorem VRel.agg_l {m : Pl} {a b : List Value} (h : VRels m a b) : VRel m (.agg a.toArray) (.agg b.toArray) := .agg _ _ (by simp [h.1]) h.arr
theorem VRel.tuple_l {m : Pl} {a b : List Value} (h : VRels m a b) : VRel m (.tuple a.toArray) (.tuple b.toArray) := .tuple _ _ (by simp [h.1]) h.arr

/- A value that names no object. -/
mutual
def ground : Value → Bool
  | .bool _ | .int .. | .float .. | .complex .. | .string _ | .pointer none | .slice none 0 0 | .map none | .nilFunc | .nilIface => true
  | .iface _ v => ground v
  | .func f a b => (match f with | .yield _ => false | _ => true) && groundA a && groundA b
  | .agg a => groundA a
  | .tuple a => groundA a
  | _ => false
def groundA : Array Value → Bool
  | ⟨l⟩ => groundL l
def groundL : List Value → Bool
  | [] => true
  | v :: l => ground v && groundL l
end

theorem groundL_get : ∀ {l : List Value} {j : Nat} {v : Value}, groundL l = true → l[j]? = some v → ground v = true
  | x :: l, 0, v, h, hv => by simp [groundL] at h hv; subst hv; exact h.1
  | x :: l, j + 1, v, h, hv => by simp [groundL] at h hv; exact groundL_get h.2 hv
theorem groundA_get {a : Array Value} {j : Nat} (h : groundA a = true) (hj : j < a.size) : ground a[j] = true := by
  cases a with
  | mk l => exact groundL_get (l := l) (j := j) h (by simp at hj ⊢)

theorem arr_eq {a b : Array Value} (h : a.size = b.size) (e : ∀ j (h : j < a.size) (h' : j < b.size), a[j] = b[j]) : a = b := Array.ext h e

/-- A value that names no object is the very value. -/
theorem VRel.ground {m : Pl} {v u : Value} (h : VRel m v u) : ground v = true → v = u := by
  induction h with
  | func f a b c d h1 h2 hf _ _ e1 e2 =>
    intro g
    simp only [Ev.ground, Bool.and_eq_true] at g
    have ha : a = c := arr_eq h1 fun j h h' => e1 j h h' (groundA_get g.1.2 h)
    have hb : b = d := arr_eq h2 fun j h h' => e2 j h h' (groundA_get g.2 h)
    rw [ha, hb]
  | iface t v u _ ih => intro g; simp only [Ev.ground] at g; rw [ih g]
  | agg a b h _ e => intro g; simp only [Ev.ground] at g; rw [arr_eq h fun j h h' => e j h h' (groundA_get g h)]
  | tuple a b h _ e => intro g; simp only [Ev.ground] at g; rw [arr_eq h fun j h h' => e j h h' (groundA_get g h)]
  | _ => intro g; first | rfl | (simp [Ev.ground] at g)

mutual
theorem VRel.refl (m : Pl) : ∀ (v : Value), Ev.ground v = true → VRel m v v
  | .bool b, _ => .bool b
  | .int k n, _ => .int k n
  | .float k n, _ => .float k n
  | .complex k a b, _ => .complex k a b
  | .string s, _ => .string s
  | .pointer none, _ => .ptrNil
  | .slice none 0 0, _ => .sliceNil
  | .map none, _ => .mapNil
  | .nilFunc, _ => .nilFunc
  | .nilIface, _ => .nilIface
  | .iface t v, g => .iface t v v (VRel.refl m v (by simpa [Ev.ground] using g))
  | .func f a b, g => by
    simp only [Ev.ground, Bool.and_eq_true] at g
    exact .func f a b a b rfl rfl (fun l e => by subst e; simp at g) (fun j h _ => VRel.reflA m a g.1.2 j h) (fun j h _ => VRel.reflA m b g.2 j h)
  | .agg a, g => .agg a a rfl (fun j h _ => VRel.reflA m a (by simpa [Ev.ground] using g) j h)
  | .tuple a, g => .tuple a a rfl (fun j h _ => VRel.reflA m a (by simpa [Ev.ground] using g) j h)
theorem VRel.reflA (m : Pl) : ∀ (a : Array Value), groundA a = true → ∀ j (h : j < a.size), VRel m a[j] a[j]
  | ⟨l⟩, g, j, h => VRel.reflL m l g j (by simpa using h)
theorem VRel.reflL (m : Pl) : ∀ (l : List Value), groundL l = true → ∀ j (h : j < l.length), VRel m l[j] l[j]
  | v :: l, g, 0, _ => VRel.refl m v (by simp only [groundL, Bool.and_eq_true] at g; exact g.1)
  | v :: l, g, j + 1, h => VRel.reflL m l (by simp only [groundL, Bool.and_eq_true] at g; exact g.2) j (by simpa using h)
end

end Go.Ev
