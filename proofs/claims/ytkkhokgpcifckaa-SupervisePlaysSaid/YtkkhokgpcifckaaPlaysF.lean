import Derived.Test.YtkkhokgpcifckaaPlaysE
import Derived.Test.YtkkhokgpcifckaaProg
import Derived.KernelRfl
set_option linter.unusedVariables false
namespace Go.Proofs.Ytkkhokgpcifckaa.wd
open Go Go.Ev
set_option maxRecDepth 100000
set_option linter.constructorNameAsVariable false

/-! ### The arguments, taken apart -/

theorem chunks {α : Type} (f : α → List Value) {z : Nat} (hz : ∀ x, (f x).length = z) : ∀ (n : Nat) (c : List Value), c.length = n * z → (∀ k, k < n → ∃ x, (c.drop (k * z)).take z = f x) →
    ∃ l : List α, l.length = n ∧ c = l.flatMap f ∧ ∀ k x, l[k]? = some x → (c.drop (k * z)).take z = f x
  | 0, c, hl, _ => ⟨[], rfl, List.length_eq_zero_iff.1 (by simpa using hl), fun k x h => by simp at h⟩
  | n + 1, c, hl, hc => by
    have hs : (n + 1) * z = n * z + z := by rw [Nat.add_mul, Nat.one_mul]
    obtain ⟨x, hx⟩ := hc 0 (by omega)
    obtain ⟨l, h1, h2, h3⟩ := chunks f hz n (c.drop z) (by rw [List.length_drop, hl, hs]; omega) (fun k hk => by
      obtain ⟨y, hy⟩ := hc (k + 1) (by omega)
      refine ⟨y, ?_⟩
      rw [List.drop_drop, ← hy, Nat.add_mul, Nat.one_mul, Nat.add_comm])
    refine ⟨x :: l, by simp [h1], ?_, fun k y hy => ?_⟩
    · rw [List.flatMap_cons, ← h2, ← hx, Nat.zero_mul, List.drop_zero, List.take_append_drop]
    · cases k with
      | zero => simp at hy; subst hy; exact hx
      | succ k =>
        have := h3 k y (by simpa using hy)
        rw [List.drop_drop, Nat.add_comm z] at this
        rw [Nat.add_mul, Nat.one_mul]; exact this

theorem vvC_flat : ∀ l : List VV, l.flatMap VV.cells = vvC l
  | [] => rfl
  | x :: l => by rw [List.flatMap_cons, vvC_flat l]; rfl
theorem svhC_flat : ∀ l : List SvH, l.flatMap SvH.cells = svhC l
  | [] => rfl
  | x :: l => by rw [List.flatMap_cons, svhC_flat l]; rfl

def opC : List OpV → List Value
  | [] => []
  | x :: l => .int .i64 x.kind :: .int .i64 x.n :: .int .i64 x.at' :: .int .i64 x.fk :: .string x.ft :: opC l
theorem opC_flat : ∀ l : List OpV, l.flatMap OpV.cells = opC l
  | [] => rfl
  | x :: l => by rw [List.flatMap_cons, opC_flat l]; rfl
theorem opC_len : ∀ l : List OpV, (opC l).length = l.length * 5
  | [] => rfl
  | x :: l => by simp [opC, opC_len l]; omega
theorem opC_cut : ∀ {l : List OpV} {k : Nat} {x : OpV}, l[k]? = some x → ((opC l).drop (k * 5)).take 5 = x.cells
  | [], k, x, h => by simp at h
  | y :: l, 0, x, h => by simp at h; subst h; simp [opC, OpV.cells]
  | y :: l, k + 1, x, h => by
    have := opC_cut (l := l) (k := k) (x := x) (by simpa using h)
    rw [show (k + 1) * 5 = k * 5 + 5 by omega]
    simpa [opC] using this

/-- The calls where they lie. -/
def OpsAt (h : Hp) (v : Value) (l : List OpV) : Prop := (v = .slice none 0 0 ∧ l = []) ∨ ∃ o rw, v = .slice (some ⟨o, 0, none⟩) l.length 5 ∧ h[o]? = some (.cells (opC l) rw)

section
variable {h : Hp} {F : Nat}
theorem c3 : Try.prog.cellsOf 3 = 1 := by kernel_rfl
theorem c9 : Try.prog.cellsOf 9 = 1 := by kernel_rfl
theorem c34 : Try.prog.cellsOf 34 = 2 := by kernel_rfl
theorem c36 : Try.prog.cellsOf 36 = 5 := by kernel_rfl
theorem c54 : Try.prog.cellsOf 54 = 3 := by kernel_rfl
theorem c52 : Try.prog.cellsOf 52 = 1 := by kernel_rfl
theorem c22 : Try.prog.cellsOf 22 = 1 := by kernel_rfl
theorem c24 : Try.prog.cellsOf 24 = 6 := by kernel_rfl
theorem c71 : Try.prog.cellsOf 71 = 3 := by kernel_rfl
theorem u3 : Try.prog.underlying 3 = some (.int .i64) := by kernel_rfl
theorem u9 : Try.prog.underlying 9 = some .string := by kernel_rfl
theorem u25 : Try.prog.underlying 25 = some (.slice 36) := by kernel_rfl
theorem u22 : Try.prog.underlying 22 = some (.slice 54) := by kernel_rfl
theorem u52 : Try.prog.underlying 52 = some (.slice 71) := by kernel_rfl

theorem op_cells {cs : List Value} (hc : ATyped Try.prog h F 36 cs) : ∃ x : OpV, cs = x.cells := by
  obtain ⟨G, rfl, hl, hf⟩ := hc.asStruct Try.underlying36
  rw [c36] at hl
  match cs, hl with
  | [a, b, c, d, e], _ =>
    simp only [List.forall_mem_cons, c3, c34] at hf
    obtain ⟨k, h1, _⟩ := hf.1.asInt u3
    obtain ⟨n, h2, _⟩ := hf.2.1.asInt u3
    obtain ⟨t, h3, _⟩ := hf.2.2.1.asInt u3
    obtain ⟨G, rfl, hl, hg⟩ := hf.2.2.2.1.asStruct Try.underlying34
    simp only [List.forall_mem_cons, c3, c9] at hg
    obtain ⟨f, h4, _⟩ := hg.1.asInt u3
    obtain ⟨s, h5, _⟩ := hg.2.1.asString u9
    simp at h1 h2 h3 h4 h5
    subst h1; subst h2; subst h3; subst h4; subst h5
    exact ⟨⟨k, n, t, f, s⟩, rfl⟩
theorem ops_arg {a : Value} (ht : ArgTyped Try.prog h F 25 a) : ∃ l : List OpV, OpsAt h a l := by
  obtain ⟨G, rfl, rfl | ⟨i, len, c, rfl, hi, hl, _, hk⟩⟩ := ht.asSlice u25
  · exact ⟨[], .inl ⟨rfl, rfl⟩⟩
  · rw [c36] at hl hk
    obtain ⟨l, h1, h2, _⟩ := chunks OpV.cells (z := 5) (fun _ => rfl) len c hl (fun k hlt => op_cells (hk k hlt))
    rw [opC_flat] at h2
    exact ⟨l, .inr ⟨i, false, by rw [c36, h1], by rw [← h2]; exact hi⟩⟩

theorem vv_cells {cs : List Value} (hc : ATyped Try.prog h F 71 cs) : ∃ x : VV, cs = x.cells := by
  obtain ⟨G, rfl, hl, hf⟩ := hc.asStruct Try.underlying71
  rw [c71] at hl
  match cs, hl with
  | [a, b, c], _ =>
    simp only [List.forall_mem_cons, c3, c9] at hf
    obtain ⟨k, h1, _⟩ := hf.1.asInt u3
    obtain ⟨n, h2, _⟩ := hf.2.1.asInt u3
    obtain ⟨s, h3, _⟩ := hf.2.2.1.asString u9
    simp at h1 h2 h3
    subst h1; subst h2; subst h3
    exact ⟨⟨k, n, s⟩, rfl⟩
theorem args_cells {cs : List Value} (hc : ATyped Try.prog h F 52 cs) : ∃ v l, cs = [v] ∧ ArgsAt h v l := by
  obtain ⟨G, rfl, rfl | ⟨i, len, c, rfl, hi, hl, _, hk⟩⟩ := hc.asSlice u52
  · exact ⟨_, [], rfl, .inl ⟨rfl, rfl⟩⟩
  · rw [c71] at hl hk
    obtain ⟨l, h1, h2, _⟩ := chunks VV.cells (z := 3) (fun _ => rfl) len c hl (fun k hlt => vv_cells (hk k hlt))
    rw [vvC_flat] at h2
    exact ⟨_, l, rfl, .inr ⟨i, false, by rw [c71, h1], by rw [← h2]; exact hi⟩⟩
theorem sv_cells {cs : List Value} (hc : ATyped Try.prog h F 54 cs) : ∃ (x : SvH), cs = x.cells ∧ ∃ l, ArgsAt h x.av l := by
  obtain ⟨G, rfl, hl, hf⟩ := hc.asStruct Try.underlying54
  rw [c54] at hl
  match cs, hl with
  | [a, b, c], _ =>
    simp only [List.forall_mem_cons, c3, c52] at hf
    obtain ⟨k, h1, _⟩ := hf.1.asInt u3
    obtain ⟨v, l, h2, hA⟩ := args_cells hf.2.1
    obtain ⟨n, h3, _⟩ := hf.2.2.1.asInt u3
    simp at h1 h2 h3
    subst h1; subst h2; subst h3
    exact ⟨⟨k, b, n⟩, rfl, l, hA⟩
theorem svs_cells {cs : List Value} (hc : ATyped Try.prog h F 22 cs) : ∃ v l, cs = [v] ∧ SlAt h v l := by
  obtain ⟨G, rfl, rfl | ⟨i, len, c, rfl, hi, hl, _, hk⟩⟩ := hc.asSlice u22
  · exact ⟨_, [], rfl, .inl ⟨rfl, rfl⟩⟩
  · rw [c54] at hl hk
    obtain ⟨xs, h1, h2, h3⟩ := chunks SvH.cells (z := 3) (fun _ => rfl) len c hl (fun k hlt => (sv_cells (hk k hlt)).imp fun _ h => h.1)
    rw [svhC_flat] at h2
    have ex : ∀ x ∈ xs, ∃ l, ArgsAt h x.av l := fun x hx => by
      obtain ⟨k, hk'⟩ := List.mem_iff_getElem?.1 hx
      obtain ⟨y, hy, l, hl⟩ := sv_cells (hk k (by have := (List.getElem?_eq_some_iff.1 hk').1; omega))
      rw [h3 k x hk'] at hy
      obtain ⟨a, b, c⟩ := x
      obtain ⟨a', b', c'⟩ := y
      simp [SvH.cells] at hy
      obtain ⟨rfl, rfl, rfl⟩ := hy
      exact ⟨l, hl⟩
    obtain ⟨ys, hy⟩ : ∃ ys : List SvV, SvsAt h xs ys := by
      clear h1 h2 h3
      induction xs with
      | nil => exact ⟨[], rfl, fun k x y h => by simp at h⟩
      | cons x xs ih =>
        obtain ⟨l, hl⟩ := ex x (List.mem_cons_self ..)
        obtain ⟨ys, e1, e2⟩ := ih (fun y hy => ex y (List.mem_cons_of_mem _ hy))
        refine ⟨⟨x.fn, l, x.wh⟩ :: ys, by simp [e1], fun k a b ha hb => ?_⟩
        cases k with
        | zero => simp at ha hb; subst ha; subst hb; exact ⟨rfl, rfl, hl⟩
        | succ k => exact e2 k a b (by simpa using ha) (by simpa using hb)
    exact ⟨_, ys, rfl, .inr ⟨i, false, xs, by rw [c54, ← hy.1, h1], by rw [← h2]; exact hi, hy⟩⟩
theorem spec_arg {a : Value} (ht : ArgTyped Try.prog h F 24 a) : ∃ s : SpecV, ∃ v l, a = .agg (s.cells v).toArray ∧ SlAt h v l := by
  obtain ⟨cs, rfl, hc⟩ := ht.asStruct Try.underlying24
  obtain ⟨G, rfl, hl, hf⟩ := hc.asStruct Try.underlying24
  rw [c24] at hl
  obtain ⟨cs⟩ := cs
  match cs, hl with
  | [a, b, c, d, e, f], _ =>
    simp only [List.forall_mem_cons, c3, c22] at hf
    obtain ⟨k, h1, _⟩ := hf.1.asInt u3
    obtain ⟨n, h2, _⟩ := hf.2.1.asInt u3
    obtain ⟨t, h3, _⟩ := hf.2.2.1.asInt u3
    obtain ⟨p, h4, _⟩ := hf.2.2.2.1.asInt u3
    obtain ⟨q, h5, _⟩ := hf.2.2.2.2.1.asInt u3
    obtain ⟨v, l, h6, hA⟩ := svs_cells hf.2.2.2.2.2.1
    simp at h1 h2 h3 h4 h5 h6
    subst h1; subst h2; subst h3; subst h4; subst h5; subst h6
    exact ⟨⟨k, n, t, p, q⟩, f, l, rfl, hA⟩
end

end Go.Proofs.Ytkkhokgpcifckaa.wd

namespace Go.Proofs.Ytkkhokgpcifckaa.wd
open Go Go.Ev

/-! ### Plain facts of the Warden -/

theorem stS_get (p : Nat → Bool) : ∀ (n : Nat) (l : List Sv) (k : Nat), (stS p n l)[k]? = (l[k]?).map (stStep p (n + k))
  | n, [], k => by simp [stS]
  | n, x :: l, 0 => by simp [stS]
  | n, x :: l, k + 1 => by
    have := stS_get p (n + 1) l k
    rw [show n + (k + 1) = n + 1 + k by omega]
    simpa [stS] using this
theorem mS_get (f : Nat → Sv → Sv) : ∀ (n : Nat) (l : List Sv) (k : Nat), (mS f n l)[k]? = (l[k]?).map (f (n + k))
  | n, [], k => by simp [mS]
  | n, x :: l, 0 => by simp [mS]
  | n, x :: l, k + 1 => by
    have := mS_get f (n + 1) l k
    rw [show n + (k + 1) = n + 1 + k by omega]
    simpa [mS] using this
theorem setSt_get (l : List Sv) (n s : Int) (k : Nat) : (setSt l n s)[k]? = (l[k]?).map fun x => if k = (n - 1).toNat then { x with state := s } else x := by
  unfold setSt
  cases hx : l[(n - 1).toNat]? with
  | none =>
    simp only
    cases hk : l[k]? with
    | none => rfl
    | some y =>
      have : k ≠ (n - 1).toNat := fun e => by subst e; rw [hx] at hk; cases hk
      simp only [Option.map_some, if_neg this]
  | some x =>
    simp only
    by_cases e : k = (n - 1).toNat
    · subst e
      rw [List.getElem?_set_self (get_lt' hx), hx]; simp only [Option.map_some, if_true]
    · rw [List.getElem?_set_ne (Ne.symm e)]
      cases l[k]? with
      | none => rfl
      | some y => simp only [Option.map_some, if_neg e]
theorem putSv_get (l : List Sv) (n : Int) (f : Sv → Sv) (k : Nat) : (putSv l n f)[k]? = (l[k]?).map fun x => if k = (n - 1).toNat then f x else x := by
  unfold putSv
  cases hx : l[(n - 1).toNat]? with
  | none =>
    simp only
    cases hk : l[k]? with
    | none => rfl
    | some y =>
      have : k ≠ (n - 1).toNat := fun e => by subst e; rw [hx] at hk; cases hk
      simp only [Option.map_some, if_neg this]
  | some x =>
    simp only
    by_cases e : k = (n - 1).toNat
    · subst e
      rw [List.getElem?_set_self (get_lt' hx), hx]; simp only [Option.map_some, if_true]
    · rw [List.getElem?_set_ne (Ne.symm e)]
      cases l[k]? with
      | none => rfl
      | some y => simp only [Option.map_some, if_neg e]

/-- What each service becomes: pointwise relations between two rows of services. -/
def Each (R : Sv → Sv → Prop) (l m : List Sv) : Prop := m.length = l.length ∧ ∀ (k : Nat) x y, l[k]? = some x → m[k]? = some y → R x y
theorem Each.refl {R : Sv → Sv → Prop} (hr : ∀ x, R x x) (l : List Sv) : Each R l l := ⟨rfl, fun k x y hx hy => by rw [hx] at hy; cases hy; exact hr x⟩
theorem Each.trans {R : Sv → Sv → Prop} (ht : ∀ x y z, R x y → R y z → R x z) {a b c : List Sv} (h : Each R a b) (g : Each R b c) : Each R a c :=
  ⟨by rw [g.1, h.1], fun k x z hx hz => by
    have hk := get_lt' hx
    have hb : k < b.length := by rw [h.1]; exact hk
    exact ht x b[k] z (h.2 k x _ hx (List.getElem?_eq_getElem hb)) (g.2 k _ z (List.getElem?_eq_getElem hb) hz)⟩
theorem Each.mono {R S : Sv → Sv → Prop} (hi : ∀ x y, R x y → S x y) {a b : List Sv} (h : Each R a b) : Each S a b := ⟨h.1, fun k x y hx hy => hi x y (h.2 k x y hx hy)⟩
theorem Each.of_map {R : Sv → Sv → Prop} {a b : List Sv} (f : Nat → Sv → Sv) (hl : b.length = a.length) (hb : ∀ k : Nat, b[k]? = (a[k]?).map (f k)) (hr : ∀ k x, R x (f k x)) : Each R a b :=
  ⟨hl, fun k x y hx hy => by rw [hb k, hx] at hy; simp at hy; subst hy; exact hr k x⟩

theorem stS_each {R : Sv → Sv → Prop} (p : Nat → Bool) (l : List Sv) (hr : ∀ k x, R x (stStep p k x)) : Each R l (stS p 0 l) := .of_map _ (stS_len p 0 l) (fun k => stS_get p 0 l k) (fun k x => by simpa using hr (0 + k) x)
theorem mS_each {R : Sv → Sv → Prop} (f : Nat → Sv → Sv) (l : List Sv) (hr : ∀ k x, R x (f k x)) : Each R l (mS f 0 l) := .of_map _ (mS_len f 0 l) (fun k => mS_get f 0 l k) (fun k x => by simpa using hr (0 + k) x)
theorem setSt_each {R : Sv → Sv → Prop} (l : List Sv) (n s : Int) (hr : ∀ x, R x x) (hs : ∀ x, R x { x with state := s }) : Each R l (setSt l n s) := .of_map _ (setSt_len l n s) (fun k => setSt_get l n s k) (fun k x => by split; exact hs x; exact hr x)
theorem putSv_each {R : Sv → Sv → Prop} (l : List Sv) (n : Int) (f : Sv → Sv) (hr : ∀ x, R x x) (hs : ∀ x, R x (f x)) : Each R l (putSv l n f) := .of_map _ (putSv_len l n f) (fun k => putSv_get l n f k) (fun k x => by split; exact hs x; exact hr x)
theorem map_each {R : Sv → Sv → Prop} (f : Sv → Sv) (l : List Sv) (hr : ∀ x, R x (f x)) : Each R l (l.map f) := .of_map (fun _ => f) (by simp) (fun k => by simp) (fun _ x => hr x)

/-- A service keeps its kind, and a state from 1 to 5. -/
def WH (x y : Sv) : Prop := y.when = x.when ∧ (1 ≤ x.state ∧ x.state ≤ 5 → 1 ≤ y.state ∧ y.state ≤ 5)
theorem WH.refl (x : Sv) : WH x x := ⟨rfl, id⟩
theorem WH.trans (x y z : Sv) (h : WH x y) (g : WH y z) : WH x z := ⟨g.1.trans h.1, fun e => g.2 (h.2 e)⟩
theorem stStep_wh (p : Nat → Bool) (k : Nat) (x : Sv) : WH x (stStep p k x) := by
  unfold stStep
  split
  · exact ⟨rfl, fun _ => by simp⟩
  · exact WH.refl x
theorem bgStep_wh (a : Int) (x : Sv) : WH x (bgStep a x) := by
  unfold bgStep
  split
  · exact ⟨rfl, fun _ => by simp⟩
  · exact WH.refl x
theorem gvStep_wh (k : Nat) (x : Sv) : WH x (gvStep k x) := by
  unfold gvStep
  split
  · exact ⟨rfl, fun _ => by simp⟩
  · exact WH.refl x
theorem ofStep_wh (p : Nat → Bool) (k : Nat) (x : Sv) : WH x (ofStep p k x) := by
  unfold ofStep
  split
  · exact ⟨rfl, fun _ => by simp⟩
  · exact WH.refl x
theorem set_wh {s : Int} (hs : 1 ≤ s ∧ s ≤ 5) (x : Sv) : WH x { x with state := s } := ⟨rfl, fun _ => hs⟩

theorem begin_wh (w : WS) : Each WH w.svs (beginF w).1.svs := by
  unfold beginF
  split
  · exact .refl WH.refl _
  · exact map_each _ _ (bgStep_wh _)
theorem giveUp_wh (w : WS) (n : Int) : Each WH w.svs (giveUpF w n).1.svs := by
  unfold giveUpF stopped gave
  exact ((setSt_each _ n 5 WH.refl (set_wh (by omega))).trans WH.trans (mS_each _ _ gvStep_wh)).trans WH.trans (stS_each _ _ (stStep_wh _))
theorem off3_wh (w : WS) (n : Int) : Each WH w.svs (off3 w n).svs := by
  unfold off3 off2 stopped off1
  exact ((setSt_each _ n 3 WH.refl (set_wh (by omega))).trans WH.trans (stS_each _ _ (stStep_wh _))).trans WH.trans (mS_each _ _ (ofStep_wh _))
theorem again_wh (w : WS) (n : Int) : Each WH w.svs (againF w n).1.svs := by
  unfold againF
  split
  · exact giveUp_wh (timed w) n
  · exact (off3_wh w n).trans WH.trans (begin_wh _)
theorem follow_wh (w : WS) (n fk : Int) (x : Sv) : Each WH w.svs (followF w n fk x).1.svs := by
  unfold followF
  split
  · exact setSt_each _ n 5 WH.refl (set_wh (by omega))
  · split
    · exact (setSt_each w.svs n 3 WH.refl (set_wh (by omega))).trans WH.trans (begin_wh { w with svs := setSt w.svs n 3 })
    · split
      · exact setSt_each _ n 5 WH.refl (set_wh (by omega))
      · exact again_wh w n
theorem ended_wh (w : WS) (n fk : Int) (ft : ByteArray) (now : Int) : Each WH w.svs (endedF w n fk ft now).1.svs := by
  unfold endedF
  split
  · exact .refl WH.refl _
  · split
    · exact .refl WH.refl _
    · split
      · exact follow_wh { w with now := now } n fk _
      · exact .refl WH.refl _
theorem started_wh (w : WS) (n now : Int) : Each WH w.svs (startedF w n now).1.svs := by
  unfold startedF
  split
  · exact .refl WH.refl _
  · split
    · exact .refl WH.refl _
    · split
      · split
        · exact .refl WH.refl _
        · exact putSv_each _ n _ WH.refl fun x => ⟨rfl, fun _ => by simp⟩
      · exact .refl WH.refl _
/-- What stays as it was given. -/
def SameSpec (w v : WS) : Prop := v.rule = w.rule ∧ v.most = w.most ∧ v.within = w.within ∧ v.base = w.base ∧ v.cap = w.cap
theorem SameSpec.refl (w : WS) : SameSpec w w := ⟨rfl, rfl, rfl, rfl, rfl⟩
theorem SameSpec.trans {a b c : WS} (h : SameSpec a b) (g : SameSpec b c) : SameSpec a c := ⟨g.1.trans h.1, g.2.1.trans h.2.1, g.2.2.1.trans h.2.2.1, g.2.2.2.1.trans h.2.2.2.1, g.2.2.2.2.trans h.2.2.2.2⟩
theorem begin_same (w : WS) : SameSpec w (beginF w).1 := by
  unfold beginF
  split
  · exact .refl _
  · exact .refl _
theorem again_same (w : WS) (n : Int) : SameSpec w (againF w n).1 := by
  unfold againF
  split
  · exact ⟨rfl, rfl, rfl, rfl, rfl⟩
  · exact SameSpec.trans (b := off3 w n) ⟨rfl, rfl, rfl, rfl, rfl⟩ (begin_same _)
theorem follow_same (w : WS) (n fk : Int) (x : Sv) : SameSpec w (followF w n fk x).1 := by
  unfold followF
  split
  · exact .refl _
  · split
    · exact SameSpec.trans (b := { w with svs := setSt w.svs n 3 }) (.refl _) (begin_same _)
    · split
      · exact .refl _
      · exact again_same w n
theorem run_same (w : WS) (o : OpV) : SameSpec w (runF w o).1 := by
  unfold runF
  split
  · unfold endedF
    split
    · exact .refl _
    · split
      · exact .refl _
      · split
        · exact SameSpec.trans (b := { w with now := o.at' }) (.refl _) (follow_same _ _ _ _)
        · exact .refl _
  · unfold startedF
    split
    · exact .refl _
    · split
      · exact .refl _
      · split
        · split
          · exact .refl _
          · exact .refl _
        · exact .refl _

/-- The first facts: the bounds, the services' kinds and states, what was given. -/
structure Good (w0 w : WS) (n : Nat) : Prop where
  ok : WOk w
  times : w.times.length ≤ n
  each : Each WH w0.svs w.svs
  same : SameSpec w0 w

end Go.Proofs.Ytkkhokgpcifckaa.wd

namespace Go.Proofs.Ytkkhokgpcifckaa.wd
open Go Go.Ev
set_option maxRecDepth 100000
set_option linter.constructorNameAsVariable false

/-! ### Parts one behind the other -/

def chain : List Code → Code
  | [] => .skip
  | a :: l => match l with
    | [] => a
    | _ :: _ => .seq a (chain l)
def chainT : List Code → Code → Code
  | [], d => d
  | a :: l, d => .seq a (chainT l d)
theorem ev_chain {P : Program} {C : CallF} {k n : Nat} {rd : Bool} {d : Code} {r : Ex × Env × Hp} : ∀ {l : List Code} {E E1 : Env} {h h1 : Hp}, evCode P C k n rd (chain l) E h = some (.normal, E1, h1) → evCode P C k n rd d E1 h1 = some r → evCode P C k n rd (chainT l d) E h = some r
  | [], E, E1, h, h1, e1, e2 => by
    simp only [chain, evCode, Option.some.injEq, Prod.mk.injEq] at e1
    obtain ⟨_, rfl, rfl⟩ := e1
    exact e2
  | [a], E, E1, h, h1, e1, e2 => by
    simp only [chain] at e1
    simp only [chainT, evCode, e1, e2]
  | a :: b :: l, E, E1, h, h1, e1, e2 => by
    simp only [chain] at e1
    rcases evSeq e1 with ⟨E', h', f1, f2⟩ | ⟨f1, _⟩
    · have := ev_chain (l := b :: l) (by simpa only [chain] using f2) e2
      show evCode P C k n rd (.seq a (chainT (b :: l) d)) E h = some r
      simp only [evCode, f1, this]
    · exact absurd rfl f1
theorem CRunChain {P : Program} {n : Nat} {rd : Bool} {l : List Code} {d : Code} {E E1 E2 : Env} {h h1 h2 : Hp} {x : Ex} (p : CRun P n rd (chain l) E h .normal E1 h1) (hd : CRun P n rd d E1 h1 x E2 h2) : CRun P n rd (chainT l d) E h x E2 h2 := p.map2 hd fun _ e1 e2 => ev_chain e1 e2

/-! ### What all laws begin with -/

/-- A specification's own object is neither its services' nor a list of values. -/
theorem SlAt.keepB {h h' : Hp} {b : Nat} {s : SpecV} {v0 v : Value} {l : List SvV} (hb : h[b]? = some (.cells (s.cells v0) true)) (K : Keep (fun q => q = b) h h') (a : SlAt h v l) : SlAt h' v l := by
  have hA : ∀ {v : Value} {l : List VV}, ArgsAt h v l → ArgsAt h' v l := fun {v l} a => by
    rcases a with h1 | ⟨o, rw', h1, h2⟩
    · exact .inl h1
    · refine .inr ⟨o, rw', h1, K.2 _ _ h2 fun e => ?_⟩
      subst e
      rw [hb] at h2
      simp only [Option.some.injEq, AObj.cells.injEq] at h2
      have h6 := congrArg List.length h2.1
      rw [vvC_len] at h6
      have h2l : l.length = 2 := by have : (s.cells v0).length = 6 := rfl
                                    omega
      match l, h2l with
      | [x, y], _ => simp [SpecV.cells, vvC] at h2
  rcases a with h1 | ⟨o, rw', xs, h1, h2, h3⟩
  · exact .inl h1
  · refine .inr ⟨o, rw', xs, h1, K.2 _ _ h2 fun e => ?_, h3.1, fun q x y hx hy => let ⟨z1, z2, z3⟩ := h3.2 q x y hx hy; ⟨z1, z2, hA z3⟩⟩
    subst e
    rw [hb] at h2
    simp only [Option.some.injEq, AObj.cells.injEq] at h2
    have h6 := congrArg List.length h2.1
    rw [svhC_len] at h6
    have h2l : xs.length = 2 := by have : (s.cells v0).length = 6 := rfl
                                   omega
    match xs, h2l with
    | [x, y], _ =>
      simp [SpecV.cells, svhC] at h2
      have hl := h3.1
      match l, hl with
      | [p, q], _ =>
        have := (h3.2 0 x p rfl rfl).2.2
        rcases this with ⟨e, _⟩ | ⟨_, _, e, _⟩ <;> rw [← h2.1.2.1] at e <;> cases e

/-- What the rounds of a law may turn: the warden, and what is new. -/
def fpB (i j B : Nat) (q : Nat) : Prop := q = i ∨ q = j ∨ B ≤ q
theorem keepB {i j B : Nat} {t : Option Nat} {g g' : Hp} (k : Keep (fpW i j t) g g') (ht : ∀ q, t = some q → B ≤ q) : Keep (fpB i j B) g g' := k.mono fun q _ e => by
  rcases e with e | e | e
  · exact .inl e
  · exact .inr (.inl e)
  · exact .inr (.inr (ht q e))
theorem keep0B {i j B : Nat} {g g' : Hp} (k : Keep (fun _ => False) g g') : Keep (fpB i j B) g g' := k.mono fun q _ e => e.elim

/-- The warden in the rounds of a law. -/
structure In (B i j : Nat) (w : WS) (h0 g : Hp) : Prop where
  at' : ∃ t, WAt g i j t w ∧ ∀ q, t = some q → B ≤ q
  keep : Keep (fpB i j B) h0 g
  base : B ≤ g.length

theorem In.next {B i j : Nat} {w w' : WS} {h0 g g' : Hp} {t t' : Option Nat} (I : In B i j w h0 g) (ht : ∀ q, t = some q → B ≤ q) (a' : WAt g' i j t' w') (K : Keep (fpW i j t) g g') (ht' : ∀ q, t' = some q → t = some q ∨ g.length ≤ q) : In B i j w' h0 g' :=
  ⟨⟨t', a', fun q e => by rcases ht' q e with e | e; exact ht q e; have := I.base; omega⟩, I.keep.trans (keepB K ht), Nat.le_trans I.base K.1⟩
theorem In.grow {B i j : Nat} {w : WS} {h0 g g' : Hp} (I : In B i j w h0 g) (K : Keep (fun _ => False) g g') : In B i j w h0 g' := by
  obtain ⟨t, a, ht⟩ := I.at'
  exact ⟨⟨t, a.keep K fun q _ e => e.elim, ht⟩, I.keep.trans (keep0B K), Nat.le_trans I.base K.1⟩
theorem In.tmp {B i j : Nat} {w : WS} {h0 g : Hp} (I : In B i j w h0 g) (x y : AObj) : In B i j w h0 ((g ++ [x]).set g.length y) :=
  I.grow ((Keep.push (fun _ => False) g _).trans_new (Keep.set (fp := fun q => q = g.length) rfl _) (fun q hq e => by omega))

/-! ### When -/

end Go.Proofs.Ytkkhokgpcifckaa.wd

namespace Go.Proofs.Ytkkhokgpcifckaa.rf
open Go Go.Ev Go.Proofs.Ytkkhokgpcifckaa.wd
set_option maxRecDepth 100000
set_option linter.constructorNameAsVariable false
set_option linter.unusedVariables false

/-! ### The reference's warden: a value -/
def stC (l : List Sv) : List Value := iC (l.map Sv.state)
def atC (l : List Sv) : List Value := iC (l.map Sv.at')
def tvA : Option Nat → Option Addr
  | none => none
  | some r => some ⟨r, 0, none⟩
def tvL : Option Nat → Nat → Nat
  | none, _ => 0
  | some _, n => n
def tvZ : Option Nat → Nat
  | none => 0
  | some _ => 1
/-- Its cells: the services lie in o, the states in p, the times of start in q, the times of restarts in t. -/
def rC (o p q : Nat) (t : Option Nat) (w : WS) : List Value :=
  [.int .i64 w.rule, .int .i64 w.most, .int .i64 w.within, .int .i64 w.base, .int .i64 w.cap, .slice (some ⟨o, 0, none⟩) w.svs.length 3, .slice (some ⟨p, 0, none⟩) w.svs.length 1, .slice (some ⟨q, 0, none⟩) w.svs.length 1,
    .int .i64 w.now, .slice (tvA t) (tvL t w.times.length) (tvZ t), .int .i64 w.delay, .bool w.given]

structure RAt (h : Hp) (o p q : Nat) (t : Option Nat) (w : WS) : Prop where
  st : h[p]? = some (.cells (stC w.svs) true)
  ats : h[q]? = some (.cells (atC w.svs) true)
  tms : (t = none ∧ w.times = []) ∨ ∃ r, t = some r ∧ h[r]? = some (.cells (iC w.times) true) ∧ r ≠ p ∧ r ≠ q ∧ w.times ≠ []
  ne : p ≠ q
  sv : ∃ xs rw, h[o]? = some (.cells (svhC xs) rw) ∧ xs.map SvH.wh = w.svs.map Sv.when
  no : o ≠ p ∧ o ≠ q ∧ t ≠ some o

def fpR (p q : Nat) (t : Option Nat) (x : Nat) : Prop := x = p ∨ x = q ∨ t = some x

variable {h h' g : Hp} {o p q : Nat} {t : Option Nat} {w : WS}

theorem stC_len (l : List Sv) : (stC l).length = l.length := by simp [stC, iC]
theorem atC_len (l : List Sv) : (atC l).length = l.length := by simp [atC, iC]
theorem stC_get {l : List Sv} {k : Nat} {x : Sv} (hx : l[k]? = some x) : (stC l)[k]? = some (.int .i64 x.state) := by simp [stC, iC, hx]
theorem atC_get {l : List Sv} {k : Nat} {x : Sv} (hx : l[k]? = some x) : (atC l)[k]? = some (.int .i64 x.at') := by simp [atC, iC, hx]
theorem put_set {α : Type} {l : List α} {k : Nat} (v : α) (hk : k < l.length) : l.take k ++ [v] ++ l.drop (k + 1) = l.set k v := by
  rw [List.set_eq_take_append_cons_drop, if_pos hk]; simp
theorem st_put {l : List Sv} {k : Nat} {x : Sv} (hx : l[k]? = some x) (y : Sv) : (stC l).take k ++ [.int .i64 y.state] ++ (stC l).drop (k + 1) = stC (l.set k y) := by
  rw [put_set _ (by rw [stC_len]; exact get_lt' hx)]; simp [stC, iC, List.map_set]
theorem at_put {l : List Sv} {k : Nat} {x : Sv} (hx : l[k]? = some x) (y : Sv) : (atC l).take k ++ [.int .i64 y.at'] ++ (atC l).drop (k + 1) = atC (l.set k y) := by
  rw [put_set _ (by rw [atC_len]; exact get_lt' hx)]; simp [atC, iC, List.map_set]
theorem set_same {α : Type} {l : List α} {k : Nat} {x : α} (hx : l[k]? = some x) : l.set k x = l := by
  obtain ⟨hb, he⟩ := List.getElem?_eq_some_iff.1 hx
  rw [← he]; exact List.set_getElem_self hb
theorem map_set_same {α β : Type} (f : α → β) {l : List α} {k : Nat} {x y : α} (hx : l[k]? = some x) (e : f y = f x) : (l.set k y).map f = l.map f := by
  rw [List.map_set, e]; exact set_same (by simp [hx])
theorem st_same {l : List Sv} {k : Nat} {x y : Sv} (hx : l[k]? = some x) (e : y.state = x.state) : stC (l.set k y) = stC l := by simp only [stC]; rw [map_set_same _ hx e]
theorem at_same {l : List Sv} {k : Nat} {x y : Sv} (hx : l[k]? = some x) (e : y.at' = x.at') : atC (l.set k y) = atC l := by simp only [atC]; rw [map_set_same _ hx e]

theorem RAt.lts (a : RAt h o p q t w) : ∀ x, fpR p q t x → x < h.length := by
  rintro x (r | r | r)
  · subst r; exact get_lt a.st
  · subst r; exact get_lt a.ats
  · rcases a.tms with ⟨e, _⟩ | ⟨s, e, hs, _⟩
    · rw [e] at r; cases r
    · rw [e] at r; cases r; exact get_lt hs
theorem RAt.olt (a : RAt h o p q t w) : o < h.length := by
  obtain ⟨_, _, h1, _⟩ := a.sv
  exact get_lt h1
theorem RAt.keep {fp : Nat → Prop} (a : RAt h o p q t w) (k : Keep fp h h') (hf : ∀ x, x < h.length → fp x → ¬ fpR p q t x ∧ x ≠ o) : RAt h' o p q t w := by
  have f : ∀ {x y}, h[x]? = some y → (fpR p q t x ∨ x = o) → h'[x]? = some y := fun hx hy => k.2 _ _ hx fun e => by
    have := hf _ (get_lt hx) e
    rcases hy with hy | hy
    · exact this.1 hy
    · exact this.2 hy
  obtain ⟨xs, rw, h1, h2⟩ := a.sv
  exact ⟨f a.st (.inl (.inl rfl)), f a.ats (.inl (.inr (.inl rfl))), by
    rcases a.tms with h | ⟨r, h1, h2, h3⟩
    · exact .inl h
    · exact .inr ⟨r, h1, f h2 (.inl (.inr (.inr h1))), h3⟩, a.ne, ⟨xs, rw, f h1 (.inr rfl), h2⟩, a.no⟩
theorem RAt.grow (a : RAt h o p q t w) (k : Keep (fun _ => False) h h') : RAt h' o p q t w := a.keep k fun _ _ e => e.elim
theorem RAt.push (a : RAt h o p q t w) (x : AObj) : RAt (h ++ [x]) o p q t w := a.grow (Keep.push _ _ _)
/-- The services' states and times written anew. -/
theorem RAt.put {fp : Nat → Prop} {l : List Sv} (a : RAt h o p q t w) (k : Keep fp h h') (hf : ∀ x, x < h.length → fp x → x = p ∨ x = q ∨ (¬ fpR p q t x ∧ x ≠ o))
    (hp : h'[p]? = some (.cells (stC l) true)) (hq : h'[q]? = some (.cells (atC l) true)) (hw : l.map Sv.when = w.svs.map Sv.when) : RAt h' o p q t { w with svs := l } := by
  obtain ⟨xs, rw, h1, h2⟩ := a.sv
  have f : ∀ {x y}, h[x]? = some y → ((t = some x ∧ x ≠ p ∧ x ≠ q) ∨ x = o) → h'[x]? = some y := fun hx hy => k.2 _ _ hx fun e => by
    rcases hf _ (get_lt hx) e with r | r | r
    · rcases hy with hy | hy
      · exact hy.2.1 r
      · exact a.no.1 (hy ▸ r)
    · rcases hy with hy | hy
      · exact hy.2.2 r
      · exact a.no.2.1 (hy ▸ r)
    · rcases hy with hy | hy
      · exact r.1 (.inr (.inr hy.1))
      · exact r.2 hy
  exact ⟨hp, hq, by
    rcases a.tms with h | ⟨r, h1, h2, h3, h4, h5⟩
    · exact .inl h
    · exact .inr ⟨r, h1, f h2 (.inl ⟨h1, h3, h4⟩), h3, h4, h5⟩, a.ne, ⟨xs, rw, f h1 (.inr rfl), h2.trans hw.symm⟩, a.no⟩

theorem inc {k : Nat} (hk : k < 1000000000000) : (Asm.arith .add .i64 (k : Int) 1 ((k + 1 : Nat) : Int)).holds Try.prog := addI (by omega) (by omega) (by omega)

/-! ### every, some -/
theorem every_run (a : RAt h o p q t w) (hw : WOk w) (s : Int) : Run Try.prog 55 [.agg (rC o p q t w).toArray, .int .i64 s] h (.bool (w.svs.all fun x => decide (x.state = s))) (h ++ [.cells (rC o p q t w) true]) := by
  have n8 := hw.n8
  have hg := (a.push (.cells (rC o p q t w) true)).st
  obtain ⟨x', E1, h1, hl1, rfl, hx⟩ := loop_inv (P := Try.prog) (n := 18) (rd := false) (b := loopN Try.f55 0)
    (Q := fun x' E1 h1 => h1 = h ++ [.cells (rC o p q t w) true] ∧ ((x' = .exit 0 ∧ (w.svs.all fun x => decide (x.state = s)) = true) ∨ (x' = .ret ∧ EnvLe [(4, .bool false)] E1 ∧ (w.svs.all fun x => decide (x.state = s)) = false)))
    (fun m E g => ∃ k : Nat, k ≤ w.svs.length ∧ m = w.svs.length - k ∧ EnvLe [(10, .int .i64 k), (9, .int .i64 (Int.ofNat w.svs.length)), (8, .slice (some ⟨p, 0, none⟩) w.svs.length 1), (1, .int .i64 s)] E ∧ g = h ++ [.cells (rC o p q t w) true] ∧ ((w.svs.take k).all fun x => decide (x.state = s)) = true)
    (fun m E g ⟨k, k1, k2, k3, k4, k5⟩ => by
      subst k4
      by_cases e : k = w.svs.length
      · right
        obtain ⟨E2, q1, q2⟩ := pvC 0 k3 (v1p.ev_out p w.svs.length 0 k 0 0 s _) ⟨ltF (by simp; omega), trivial⟩
        refine ⟨_, E2, _, by simp, q2, rfl, .inl ⟨rfl, ?_⟩⟩
        rw [e, List.take_length] at k5; exact k5
      · obtain ⟨y, hy⟩ : ∃ y, w.svs[k]? = some y := ⟨_, List.getElem?_eq_getElem (by omega)⟩
        by_cases hs : y.state = s
        · left
          obtain ⟨E2, q1, q2⟩ := pvC 0 k3 (v1p.ev_go p w.svs.length k k ((k + 1 : Nat) : Int) y.state s _) ⟨ltT (by simp; omega), offI rfl (by omega) (by omega), a_ld1 hg (stC_get hy), neF hs, inc (by omega), trivial⟩
          refine ⟨w.svs.length - (k + 1), E2, _, by omega, q2, k + 1, by omega, rfl, .trans (.add (.add (.add (.add (.nil _) rfl) rfl) rfl) rfl) q1, rfl, ?_⟩
          rw [take_snoc hy, List.all_append, k5]; simp [hs]
        · right
          obtain ⟨E2, q1, q2⟩ := pvC 0 k3 (v1p.ev_no p w.svs.length k k 0 y.state s _) ⟨ltT (by simp; omega), offI rfl (by omega) (by omega), a_ld1 hg (stC_get hy), neT hs, trivial⟩
          refine ⟨_, E2, _, by simp, q2, rfl, .inr ⟨rfl, .trans (.add (.nil _) rfl) q1, ?_⟩⟩
          rw [List.all_eq_false]
          exact ⟨y, List.mem_of_getElem? hy, by simpa using hs⟩)
    w.svs.length [(10, .int .i64 (0 : Nat)), (9, .int .i64 (Int.ofNat w.svs.length)), (8, .slice (some ⟨p, 0, none⟩) w.svs.length 1), (1, .int .i64 s)] (h ++ [.cells (rC o p q t w) true]) ⟨0, by omega, rfl, .refl _, rfl, by simp⟩
  rcases hx with ⟨rfl, e⟩ | ⟨rfl, e, e2⟩
  · rw [e]
    exact pvF 0 Try.func55 (v1p.ev_all w.rule w.most w.within w.base w.cap w.now w.delay o p q w.svs.length (tvA t) (tvL t w.times.length) (tvZ t) w.given h.length s E1 h (h ++ [.cells (rC o p q t w) true])) ⟨rfl, a_ld1 (get_new h _) rfl, a_loop (by kernel_rfl) (.add (.add (.add (.add (.nil _) rfl) rfl) rfl) rfl) (.refl _) hl1, trivial⟩
  · rw [e2]
    obtain ⟨E3, he3, hl3⟩ : ∃ E3, EnvLe ((4, .bool false) :: E3) E1 ∧ E3 = E1 := ⟨E1, .add (.refl _) (e _ _ rfl), rfl⟩
    exact pvF 0 Try.func55 (v1p.ev_hit w.rule w.most w.within w.base w.cap w.now w.delay o p q w.svs.length (tvA t) (tvL t w.times.length) (tvZ t) w.given h.length s E3 h (h ++ [.cells (rC o p q t w) true])) ⟨rfl, a_ld1 (get_new h _) rfl, a_loop (by kernel_rfl) (.add (.add (.add (.add (.nil _) rfl) rfl) rfl) rfl) he3 hl1, trivial⟩

theorem some_run (a : RAt h o p q t w) (hw : WOk w) (s : Int) : Run Try.prog 68 [.agg (rC o p q t w).toArray, .int .i64 s] h (.bool (w.svs.any fun x => decide (x.state = s))) (h ++ [.cells (rC o p q t w) true]) := by
  have n8 := hw.n8
  have hg := (a.push (.cells (rC o p q t w) true)).st
  obtain ⟨x', E1, h1, hl1, rfl, hx⟩ := loop_inv (P := Try.prog) (n := 18) (rd := false) (b := loopN Try.f68 0)
    (Q := fun x' E1 h1 => h1 = h ++ [.cells (rC o p q t w) true] ∧ ((x' = .exit 0 ∧ (w.svs.any fun x => decide (x.state = s)) = false) ∨ (x' = .ret ∧ EnvLe [(4, .bool true)] E1 ∧ (w.svs.any fun x => decide (x.state = s)) = true)))
    (fun m E g => ∃ k : Nat, k ≤ w.svs.length ∧ m = w.svs.length - k ∧ EnvLe [(10, .int .i64 k), (9, .int .i64 (Int.ofNat w.svs.length)), (8, .slice (some ⟨p, 0, none⟩) w.svs.length 1), (1, .int .i64 s)] E ∧ g = h ++ [.cells (rC o p q t w) true] ∧ ((w.svs.take k).any fun x => decide (x.state = s)) = false)
    (fun m E g ⟨k, k1, k2, k3, k4, k5⟩ => by
      subst k4
      by_cases e : k = w.svs.length
      · right
        obtain ⟨E2, q1, q2⟩ := pvC 0 k3 (v1p.so_out p w.svs.length 0 k 0 0 s _) ⟨ltF (by simp; omega), trivial⟩
        refine ⟨_, E2, _, by simp, q2, rfl, .inl ⟨rfl, ?_⟩⟩
        rw [e, List.take_length] at k5; exact k5
      · obtain ⟨y, hy⟩ : ∃ y, w.svs[k]? = some y := ⟨_, List.getElem?_eq_getElem (by omega)⟩
        by_cases hs : y.state = s
        · right
          obtain ⟨E2, q1, q2⟩ := pvC 0 k3 (v1p.so_no p w.svs.length k k 0 y.state s _) ⟨ltT (by simp; omega), offI rfl (by omega) (by omega), a_ld1 hg (stC_get hy), eqT hs, trivial⟩
          refine ⟨_, E2, _, by simp, q2, rfl, .inr ⟨rfl, .trans (.add (.nil _) rfl) q1, ?_⟩⟩
          rw [List.any_eq_true]
          exact ⟨y, List.mem_of_getElem? hy, by simpa using hs⟩
        · left
          obtain ⟨E2, q1, q2⟩ := pvC 0 k3 (v1p.so_go p w.svs.length k k ((k + 1 : Nat) : Int) y.state s _) ⟨ltT (by simp; omega), offI rfl (by omega) (by omega), a_ld1 hg (stC_get hy), eqF hs, inc (by omega), trivial⟩
          refine ⟨w.svs.length - (k + 1), E2, _, by omega, q2, k + 1, by omega, rfl, .trans (.add (.add (.add (.add (.nil _) rfl) rfl) rfl) rfl) q1, rfl, ?_⟩
          rw [take_snoc hy, List.any_append, k5]; simp [hs])
    w.svs.length [(10, .int .i64 (0 : Nat)), (9, .int .i64 (Int.ofNat w.svs.length)), (8, .slice (some ⟨p, 0, none⟩) w.svs.length 1), (1, .int .i64 s)] (h ++ [.cells (rC o p q t w) true]) ⟨0, by omega, rfl, .refl _, rfl, by simp⟩
  rcases hx with ⟨rfl, e⟩ | ⟨rfl, e, e2⟩
  · rw [e]
    exact pvF 0 Try.func68 (v1p.so_all w.rule w.most w.within w.base w.cap w.now w.delay o p q w.svs.length (tvA t) (tvL t w.times.length) (tvZ t) w.given h.length s E1 h (h ++ [.cells (rC o p q t w) true])) ⟨rfl, a_ld1 (get_new h _) rfl, a_loop (by kernel_rfl) (.add (.add (.add (.add (.nil _) rfl) rfl) rfl) rfl) (.refl _) hl1, trivial⟩
  · rw [e2]
    obtain ⟨E3, he3, hl3⟩ : ∃ E3, EnvLe ((4, .bool true) :: E3) E1 ∧ E3 = E1 := ⟨E1, .add (.refl _) (e _ _ rfl), rfl⟩
    exact pvF 0 Try.func68 (v1p.so_hit w.rule w.most w.within w.base w.cap w.now w.delay o p q w.svs.length (tvA t) (tvL t w.times.length) (tvZ t) w.given h.length s E3 h (h ++ [.cells (rC o p q t w) true])) ⟨rfl, a_ld1 (get_new h _) rfl, a_loop (by kernel_rfl) (.add (.add (.add (.add (.nil _) rfl) rfl) rfl) rfl) he3 hl1, trivial⟩

/-! ### recent -/
theorem recent_run (a : RAt h o p q t w) (hw : WOk w) (s : Int) : Run Try.prog 72 [.agg (rC o p q t w).toArray, .int .i64 s] h (.int .i64 (cnt s w.times : Nat)) (h ++ [.cells (rC o p q t w) true]) := by
  have hb : (h ++ [AObj.cells (rC o p q t w) true])[h.length]? = some (.cells (rC o p q t w) true) := get_new h _
  rcases a.tms with ⟨rfl, e⟩ | ⟨r, rfl, hr, _⟩
  · rw [e]
    exact pvF 0 Try.func72 (v1p.rc_nil w.rule w.most w.within w.base w.cap w.now w.delay o p q w.svs.length w.given h.length s h) ⟨rfl, a_ld1 hb rfl, by simp [Asm.holds, cmpB], trivial⟩
  · have hl := hw.times
    have ho := get_push (x := .cells (rC o p q (some r) w) true) hr
    obtain ⟨x', E1, h1, hl1, rfl, hE1, rfl⟩ := loop_inv (P := Try.prog) (n := 22) (rd := false) (b := loopN Try.f72 0) (Q := fun x' E1 h1 => x' = .exit 0 ∧ EnvLe [(5, .int .i64 (cnt s w.times : Nat))] E1 ∧ h1 = h ++ [.cells (rC o p q (some r) w) true])
      (fun m E g => ∃ k : Nat, k ≤ w.times.length ∧ m = w.times.length - k ∧ EnvLe [(11, .int .i64 k), (10, .int .i64 (Int.ofNat w.times.length)), (9, .slice (some ⟨r, 0, none⟩) w.times.length 1), (5, .int .i64 (cnt s (w.times.take k) : Nat)), (1, .int .i64 s)] E ∧ g = h ++ [.cells (rC o p q (some r) w) true])
      (fun m E g ⟨k, k1, k2, k3, k4⟩ => by
        subst k4
        by_cases e : k = w.times.length
        · right
          obtain ⟨E2, q1, q2⟩ := pvC 0 k3 (v1p.rc_out r w.times.length 0 k 0 0 s _ 0 _) ⟨ltF (by simp; omega), trivial⟩
          refine ⟨_, E2, _, by simp, q2, rfl, .trans (.add (.nil _) ?_) q1, rfl⟩
          rw [e, List.take_length]; rfl
        · left
          obtain ⟨y, hy⟩ : ∃ y, w.times[k]? = some y := ⟨_, List.getElem?_eq_getElem (by omega)⟩
          have hc := cnt_le s (w.times.take k)
          have hcl : (w.times.take k).length ≤ k := by simp; omega
          by_cases hy' : y > s
          · obtain ⟨E2, q1, q2⟩ := pvC 0 k3 (v1p.rc_in r w.times.length k k ((k + 1 : Nat) : Int) y s (cnt s (w.times.take k) : Nat) ((cnt s (w.times.take k) + 1 : Nat) : Int) _)
              ⟨ltT (by simp; omega), offI rfl (by omega) (by omega), a_ld1 ho (iC_get hy), gtT hy', inc (by omega), inc (by omega), trivial⟩
            refine ⟨w.times.length - (k + 1), E2, _, by omega, q2, k + 1, by omega, rfl, ?_, rfl⟩
            rw [take_snoc hy, cnt_app, if_pos hy']
            exact .trans (.add (.add (.add (.add (.add (.nil _) rfl) rfl) rfl) rfl) rfl) q1
          · obtain ⟨E2, q1, q2⟩ := pvC 0 k3 (v1p.rc_not r w.times.length k k ((k + 1 : Nat) : Int) y s (cnt s (w.times.take k) : Nat) 0 _)
              ⟨ltT (by simp; omega), offI rfl (by omega) (by omega), a_ld1 ho (iC_get hy), gtF (by omega), inc (by omega), trivial⟩
            refine ⟨w.times.length - (k + 1), E2, _, by omega, q2, k + 1, by omega, rfl, ?_, rfl⟩
            rw [take_snoc hy, cnt_app, if_neg hy', Nat.add_zero]
            exact .trans (.add (.add (.add (.add (.add (.nil _) rfl) rfl) rfl) rfl) rfl) q1)
      w.times.length [(11, .int .i64 (0 : Nat)), (10, .int .i64 (Int.ofNat w.times.length)), (9, .slice (some ⟨r, 0, none⟩) w.times.length 1), (5, .int .i64 (0 : Nat)), (1, .int .i64 s)] _ ⟨0, by omega, rfl, .refl _, rfl⟩
    exact pvF 0 Try.func72 (v1p.rc_some w.rule w.most w.within w.base w.cap w.now w.delay o p q w.svs.length w.given h.length r w.times.length s (cnt s w.times : Nat) h (h ++ [.cells (rC o p q (some r) w) true])) ⟨rfl, a_ld1 hb rfl, a_loop (by kernel_rfl) (.add (.add (.add (.add (.add (.nil _) rfl) rfl) rfl) rfl) rfl) hE1 hl1, trivial⟩

/-! ### is -/
def isF (w : WS) (n s : Int) : Bool := match svAt w n with
  | none => false
  | some x => decide (x.state = s)
theorem svAt_some {n : Int} {x : Sv} (e : svAt w n = some x) : (1 ≤ n ∧ n ≤ w.svs.length) ∧ w.svs[(n - 1).toNat]? = some x := by
  unfold svAt at e
  split at e
  · rename_i hn; exact ⟨hn, e⟩
  · cases e
theorem is_run (a : RAt h o p q t w) (hw : WOk w) (n s : Int) : Run Try.prog 57 [.agg (rC o p q t w).toArray, .int .i64 n, .int .i64 s] h (.bool (isF w n s)) (h ++ [.cells (rC o p q t w) true]) := by
  have n8 := hw.n8
  have hb : (h ++ [AObj.cells (rC o p q t w) true])[h.length]? = some (.cells (rC o p q t w) true) := get_new h _
  have a1 := a.push (.cells (rC o p q t w) true)
  by_cases c : n < 1
  · have : isF w n s = false := by
      have : svAt w n = none := by simp only [svAt]; rw [if_neg (by omega)]
      simp [isF, this]
    rw [this]
    exact pvF 0 Try.func57 (v1p.is_lo w.rule w.most w.within w.base w.cap w.now w.delay o p q w.svs.length (tvA t) (tvL t w.times.length) (tvZ t) w.given h.length 0 n s 0 0 false h) ⟨rfl, geF c, trivial⟩
  · by_cases d : n > w.svs.length
    · have : isF w n s = false := by
        have : svAt w n = none := by simp only [svAt]; rw [if_neg (by omega)]
        simp [isF, this]
      rw [this]
      exact pvF 0 Try.func57 (v1p.is_hi w.rule w.most w.within w.base w.cap w.now w.delay o p q w.svs.length (tvA t) (tvL t w.times.length) (tvZ t) w.given h.length 0 n s 0 0 false h) ⟨rfl, geT (by omega), a_ld1 hb rfl, leF d, trivial⟩
    · have hk : (n - 1).toNat < w.svs.length := by omega
      have hx := List.getElem?_eq_getElem hk
      have : isF w n s = decide ((w.svs[(n - 1).toNat]).state = s) := by
        have : svAt w n = some (w.svs[(n - 1).toNat]) := by simp only [svAt]; rw [if_pos (by omega), hx]
        simp [isF, this]
      rw [this]
      exact pvF 0 Try.func57 (v1p.is_at w.rule w.most w.within w.base w.cap w.now w.delay o p q w.svs.length (tvA t) (tvL t w.times.length) (tvZ t) w.given h.length (n - 1).toNat n s (w.svs[(n - 1).toNat]).state (n - 1) _ h) ⟨rfl, geT (by omega), a_ld1 hb rfl, leT (by simp; omega), a_ld1 hb rfl, subI rfl (by omega) (by omega),
        offI (q := (n - 1).toNat) (by omega) (by omega) (by omega), a_ld1 a1.st (stC_get hx), eqD, trivial⟩

/-! ### State -/
theorem stat40 : statOk (drawN Try.f40 0) = true := by kernel_rfl
theorem stateR_run (a : RAt h o p q t w) (hw : WOk w) (n : Int) : Run Try.prog 40 [.agg (rC o p q t w).toArray, .int .i64 n] h (.tuple #[.int .i64 (stateOf w n).1, .int .i64 (stateOf w n).2]) (h ++ [.cells (rC o p q t w) true]) := by
  have n8 := hw.n8
  have hb : (h ++ [AObj.cells (rC o p q t w) true])[h.length]? = some (.cells (rC o p q t w) true) := get_new h _
  have a1 := a.push (.cells (rC o p q t w) true)
  by_cases c : n < 1
  · have : stateOf w n = (0, 0) := by simp [stateOf, c]
    rw [this]
    exact pvF 0 Try.func40 (v1p.st_lo w.rule w.most w.within w.base w.cap w.now w.delay o p q w.svs.length (tvA t) (tvL t w.times.length) (tvZ t) w.given h.length 0 0 n 0 0 0 0 h) ⟨rfl, ltT c, trivial⟩
  · by_cases d : n > w.svs.length
    · have : stateOf w n = (0, 0) := by simp [stateOf, d]
      rw [this]
      exact pvF 0 Try.func40 (v1p.st_hi w.rule w.most w.within w.base w.cap w.now w.delay o p q w.svs.length (tvA t) (tvL t w.times.length) (tvZ t) w.given h.length 0 0 n 0 0 0 0 h) ⟨rfl, ltF (by omega), a_ld1 hb rfl, gtT d, trivial⟩
    · have hk : (n - 1).toNat < w.svs.length := by omega
      have hx := List.getElem?_eq_getElem hk
      have : stateOf w n = ((w.svs[(n - 1).toNat]).state, (w.svs[(n - 1).toNat]).at') := by
        simp only [stateOf, c, d, or_self, if_false, hx]
      rw [this]
      exact pvF 0 Try.func40 (v1p.st_at w.rule w.most w.within w.base w.cap w.now w.delay o p q w.svs.length (tvA t) (tvL t w.times.length) (tvZ t) w.given h.length (n - 1).toNat (n - 1).toNat n (n - 1) (n - 1) _ _ h) ⟨rfl, ltF (by omega), a_ld1 hb rfl, gtF (by simp; omega), stat40, a_ld1 hb rfl, subI rfl (by omega) (by omega),
        offI (q := (n - 1).toNat) (by omega) (by omega) (by omega), a_ld1 a1.st (stC_get hx), a_ld1 hb rfl, subI rfl (by omega) (by omega), offI (q := (n - 1).toNat) (by omega) (by omega) (by omega), a_ld1 a1.ats (atC_get hx), trivial⟩

/-! ### Over -/
theorem stat39 : statOk (drawN Try.f39 0) = true := by kernel_rfl
def Sts (w : WS) : Prop := ∀ x ∈ w.svs, 1 ≤ x.state ∧ x.state ≤ 5
theorem every5 (hs : Sts w) : (w.svs.all fun x => decide (x.state = 5)) = overOf w := by
  simp only [overOf, Sts] at hs ⊢
  generalize w.svs = l at hs
  induction l with
  | nil => rfl
  | cons x l ih =>
    have h1 := hs x (List.mem_cons_self ..)
    rw [List.all_cons, List.any_cons, Bool.not_or, ih fun y hy => hs y (List.mem_cons_of_mem _ hy)]
    congr 1
    by_cases e : x.state = 5
    · simp [e]
    · have : x.state = 1 ∨ x.state = 2 ∨ x.state = 3 ∨ x.state = 4 := by omega
      rcases this with e | e | e | e <;> simp [e]
theorem overR_run (a : RAt h o p q t w) (hw : WOk w) (hs : Sts w) : Run Try.prog 39 [.agg (rC o p q t w).toArray] h (.tuple #[.bool (overOf w), .bool w.given]) (h ++ [.cells (rC o p q t w) true] ++ [.cells (rC o p q t w) true]) := by
  have hb : (h ++ [AObj.cells (rC o p q t w) true])[h.length]? = some (.cells (rC o p q t w) true) := get_new h _
  have hb2 := get_push (x := .cells (rC o p q t w) true) hb
  have r := every_run (a.push (.cells (rC o p q t w) true)) hw 5
  rw [every5 hs] at r
  exact pvF 0 Try.func39 (v1p.over w.rule w.most w.within w.base w.cap w.now w.delay o p q w.svs.length (tvA t) (tvL t w.times.length) (tvZ t) w.given h.length (overOf w) h _) ⟨rfl, stat39, a_again1 agg4 hb2 rfl rfl, a_again1 agg4 hb rfl rfl, a_again1 agg4 hb2 rfl rfl, a_ldn hb (by simp [rC]) (by simp [rC]), r, a_ld1 hb2 rfl, trivial⟩

end Go.Proofs.Ytkkhokgpcifckaa.rf

namespace Go.Proofs.Ytkkhokgpcifckaa.rf
open Go Go.Ev Go.Proofs.Ytkkhokgpcifckaa.wd
set_option maxRecDepth 100000
set_option linter.constructorNameAsVariable false
set_option linter.unusedVariables false

variable {h h' g : Hp} {o p q : Nat} {t : Option Nat} {w : WS}

theorem ints_app {P : Program} {s : SH} {j d n : Nat} {l : List Int} {rw : Bool} (hj : s.den[j]? = some (.cells (iC l) rw)) (hl : l.length = n) (hn : n ≠ 0) (hb : n ≤ 1000000) (hd : s.den.length = d) :
    (Asm.appNil s j 0 n (n - 1) 1 8 (iC l) d).holds P := by
  have e := iC_len l
  exact ⟨by omega, ⟨_, cells_of hj, by omega, by rw [List.drop_zero, List.take_of_length_le (by omega)]⟩, iC_ones l, by omega, by omega, hd⟩

def zR : AObj := .cells [.int .i64 0, .int .i64 0, .int .i64 0, .int .i64 0, .int .i64 0, .slice none 0 0, .slice none 0 0, .slice none 0 0, .int .i64 0, .slice none 0 0, .int .i64 0, .bool false] true

/-- 'copied': a warden of its own. -/
theorem copied_run (a : RAt h o p q t w) (hw : WOk w) : ∃ p' q' t' h', Run Try.prog 58 [.agg (rC o p q t w).toArray] h (.agg (rC o p' q' t' w).toArray) h' ∧ RAt h' o p' q' t' w ∧ Keep (fun _ => False) h h' ∧ (∀ x, fpR p' q' t' x → h.length ≤ x) := by
  have n8 := hw.n8
  have n1 := hw.n1
  have htm := hw.times
  have hol := a.olt
  have a2 := (a.push (.cells (rC o p q t w) true)).push zR
  have a3 := a2.push (.cells (stC w.svs) true)
  have a4 := a3.push (.cells (atC w.svs) true)
  have gb : (h ++ [AObj.cells (rC o p q t w) true])[h.length]? = some (.cells (rC o p q t w) true) := get_new h _
  have gb2 := get_push (x := zR) gb
  have gb3 := get_push (x := .cells (stC w.svs) true) gb2
  have gb4 := get_push (x := .cells (atC w.svs) true) gb3
  have A1 := ints_app (P := Try.prog) (s := .push (.push (.is h) (.cells (rC o p q t w) true)) zR) (n := w.svs.length) (d := h.length + 2) a2.st (by simp) (by omega) (by omega) (by simp [SH.den])
  have A2 := ints_app (P := Try.prog) (s := .push (.push (.push (.is h) (.cells (rC o p q t w) true)) zR) (.cells (stC w.svs) true)) (n := w.svs.length) (d := h.length + 3) a3.ats (by simp) (by omega) (by omega) (by simp [SH.den])
  obtain ⟨xs, rw', hsv1, hsv2⟩ := a.sv
  have hnz : (h ++ [AObj.cells (rC o p q t w) true])[h.length + 1]? = none := by simp
  rcases a.tms with ⟨rfl, e⟩ | ⟨r, rfl, hr, hr1, hr2, hr3⟩
  · let H4 : Hp := h ++ [.cells (rC o p q none w) true] ++ [zR] ++ [.cells (stC w.svs) true] ++ [.cells (atC w.svs) true]
    have G1 : H4[h.length]? = some (.cells (rC o p q none w) true) := gb4
    have Gc : H4[h.length + 1]? = some zR := get_push (get_push (get_new' _ (by simp)))
    have Gp : H4[h.length + 2]? = some (.cells (stC w.svs) true) := get_push (get_new' _ (by simp))
    have Gq : H4[h.length + 3]? = some (.cells (atC w.svs) true) := get_new' _ (by simp)
    let c1 := (rC o (h.length + 2) q none w)
    let c2 := (rC o (h.length + 2) (h.length + 3) none w)
    let HF : Hp := (((H4.set h.length (.cells c1 true)).set h.length (.cells c2 true)).set h.length (.cells c2 true)).set (h.length + 1) (.cells c2 true)
    have K : Keep (fun _ => False) h HF := (((((((((Keep.refl _ h).pushN _).pushN _).pushN _).pushN _).setN (Nat.le_refl _) _).setN (Nat.le_refl _) _).setN (Nat.le_refl _) _).setN (by omega) _)
    have Gb1 : (H4.set h.length (.cells c1 true))[h.length]? = some (.cells c1 true) := get_set_eq G1
    have Gb2 : ((H4.set h.length (.cells c1 true)).set h.length (.cells c2 true))[h.length]? = some (.cells c2 true) := get_set_eq Gb1
    have Gb3 : (((H4.set h.length (.cells c1 true)).set h.length (.cells c2 true)).set h.length (.cells c2 true))[h.length]? = some (.cells c2 true) := get_set_eq Gb2
    have Gc3 : (((H4.set h.length (.cells c1 true)).set h.length (.cells c2 true)).set h.length (.cells c2 true))[h.length + 1]? = some zR := get_set_ne (get_set_ne (get_set_ne Gc (by omega)) (by omega)) (by omega)
    have gF : ∀ {x y}, H4[x]? = some y → h.length + 2 ≤ x → HF[x]? = some y := fun hx hl => get_set_ne (get_set_ne (get_set_ne (get_set_ne hx (by omega)) (by omega)) (by omega)) (by omega)
    have hsF := K.2 _ _ hsv1 (fun e => e)
    refine ⟨h.length + 2, h.length + 3, none, HF, ?_, ⟨gF Gp (by omega), gF Gq (by omega), .inl ⟨rfl, e⟩, by omega, ⟨xs, rw', hsF, hsv2⟩, by omega, by omega, by simp⟩, K, ?_⟩
    · exact pvF 0 Try.func58 (v1p.cp_nil w.rule w.most w.within w.base w.cap w.now w.delay o p q w.svs.length w.given (w.svs.length - 1) h.length (h.length + 1) (h.length + 2) (h.length + 3) [] [] (stC w.svs) (atC w.svs) c1 c2 c2 c2 h)
        ⟨rfl, by simp [Asm.holds, SH.den], a_ld1 gb2 rfl, A1, a_ld1 gb3 rfl, A2, a_ld1 gb4 rfl, a_st G1 (by simp [rC]) rfl, a_st Gb1 (by simp [c1, rC]) rfl, a_st Gb2 (by simp [c2, rC]) rfl, a_ldn Gb3 (by simp [c2, rC]) rfl, a_st Gc3 (by simp) rfl,
          a_ldn (get_set_eq Gc3) (by simp [c2, rC]) rfl, trivial⟩
    · rintro x (e | e | e)
      · omega
      · omega
      · cases e
  · have hne : w.times.length ≠ 0 := fun e => hr3 (List.length_eq_zero_iff.1 e)
    have h4r : (h ++ [AObj.cells (rC o p q (some r) w) true] ++ [zR] ++ [.cells (stC w.svs) true] ++ [.cells (atC w.svs) true])[r]? = some (.cells (iC w.times) true) := get_push (get_push (get_push (get_push hr)))
    have A3 := ints_app (P := Try.prog) (s := .push (.push (.push (.push (.is h) (.cells (rC o p q (some r) w) true)) zR) (.cells (stC w.svs) true)) (.cells (atC w.svs) true)) (n := w.times.length) (d := h.length + 4) h4r rfl hne (by omega) (by simp [SH.den])
    let H4 : Hp := h ++ [.cells (rC o p q (some r) w) true] ++ [zR] ++ [.cells (stC w.svs) true] ++ [.cells (atC w.svs) true] ++ [.cells (iC w.times) true]
    have G1 : H4[h.length]? = some (.cells (rC o p q (some r) w) true) := get_push gb4
    have Gc : H4[h.length + 1]? = some zR := get_push (get_push (get_push (get_new' _ (by simp))))
    have Gp : H4[h.length + 2]? = some (.cells (stC w.svs) true) := get_push (get_push (get_new' _ (by simp)))
    have Gq : H4[h.length + 3]? = some (.cells (atC w.svs) true) := get_push (get_new' _ (by simp))
    have Gt : H4[h.length + 4]? = some (.cells (iC w.times) true) := get_new' _ (by simp)
    let c1 := (rC o (h.length + 2) q (some r) w)
    let c2 := (rC o (h.length + 2) (h.length + 3) (some r) w)
    let c3 := (rC o (h.length + 2) (h.length + 3) (some (h.length + 4)) w)
    let HF : Hp := (((H4.set h.length (.cells c1 true)).set h.length (.cells c2 true)).set h.length (.cells c3 true)).set (h.length + 1) (.cells c3 true)
    have K : Keep (fun _ => False) h HF := ((((((((((Keep.refl _ h).pushN _).pushN _).pushN _).pushN _).pushN _).setN (Nat.le_refl _) _).setN (Nat.le_refl _) _).setN (Nat.le_refl _) _).setN (by omega) _)
    have Gb1 : (H4.set h.length (.cells c1 true))[h.length]? = some (.cells c1 true) := get_set_eq G1
    have Gb2 : ((H4.set h.length (.cells c1 true)).set h.length (.cells c2 true))[h.length]? = some (.cells c2 true) := get_set_eq Gb1
    have Gb3 : (((H4.set h.length (.cells c1 true)).set h.length (.cells c2 true)).set h.length (.cells c3 true))[h.length]? = some (.cells c3 true) := get_set_eq Gb2
    have Gc3 : (((H4.set h.length (.cells c1 true)).set h.length (.cells c2 true)).set h.length (.cells c3 true))[h.length + 1]? = some zR := get_set_ne (get_set_ne (get_set_ne Gc (by omega)) (by omega)) (by omega)
    have gF : ∀ {x y}, H4[x]? = some y → h.length + 2 ≤ x → HF[x]? = some y := fun hx hl => get_set_ne (get_set_ne (get_set_ne (get_set_ne hx (by omega)) (by omega)) (by omega)) (by omega)
    have hsF := K.2 _ _ hsv1 (fun e => e)
    refine ⟨h.length + 2, h.length + 3, some (h.length + 4), HF, ?_, ⟨gF Gp (by omega), gF Gq (by omega), .inr ⟨_, rfl, gF Gt (by omega), by omega, by omega, hr3⟩, by omega, ⟨xs, rw', hsF, hsv2⟩, by omega, by omega, by simp; omega⟩, K, ?_⟩
    · exact pvF 0 Try.func58 (v1p.cp_some w.rule w.most w.within w.base w.cap w.now w.delay o p q w.svs.length w.given (w.svs.length - 1) h.length (h.length + 1) (h.length + 2) (h.length + 3) r w.times.length (w.times.length - 1) (h.length + 4) [] [] (stC w.svs) (atC w.svs) [] (iC w.times) c1 c2 c3 c3 h)
        ⟨rfl, by simp [Asm.holds, SH.den], a_ld1 gb2 rfl, A1, a_ld1 gb3 rfl, A2, a_ld1 gb4 rfl, A3, a_st G1 (by simp [rC]) rfl, a_st Gb1 (by simp [c1, rC]) rfl, a_st Gb2 (by simp [c2, rC]) rfl, a_ldn Gb3 (by simp [c3, rC]) rfl, a_st Gc3 (by simp) rfl,
          a_ldn (get_set_eq Gc3) (by simp [c3, rC]) rfl, trivial⟩
    · rintro x (e | e | e)
      · omega
      · omega
      · cases e; omega

/-! ### Text, Valid -/
theorem textR_run (g : Hp) (s : ByteArray) : Run Try.prog 67 [.string s] g (.bool (textB s)) g := by
  by_cases hl : s.size ≤ 60
  · have f0 : (Asm.cmp .gtr (Int.ofNat s.size) 60 false).holds Try.prog := by simp [Asm.holds, cmpB]; omega
    have hlen : s.data.toList.length = s.size := Array.length_toList
    have body : ∀ (k : Nat) (E : Env), k < s.size → EnvLe [(3, .int .i64 k), (0, .string s)] E → ∀ b, s.data.toList[k]? = some b →
        (okB b = true → ∃ E1, EnvLe [(3, .int .i64 ((k + 1 : Nat) : Int)), (0, .string s)] E1 ∧ CRun Try.prog 23 false (loopN Try.f67 0) E g .normal E1 g) ∧
        (okB b = false → ∃ E1, EnvLe [(2, .bool false)] E1 ∧ CRun Try.prog 23 false (loopN Try.f67 0) E g .ret E1 g) := by
      intro k E hk hE b hb
      have hat : s[k]? = some b := by rw [byte_at hk, ← hb, List.getElem?_eq_getElem]
      have f1 : (Asm.cmp .lss (k : Int) (Int.ofNat s.size) true).holds Try.prog := by simp [Asm.holds, cmpB]; omega
      have f2 : (Asm.sidx s k b.toNat).holds Try.prog := ⟨by omega, b, by simpa using hat, rfl⟩
      refine ⟨fun ho => ?_, fun ho => ?_⟩
      · simp [okB] at ho
        obtain ⟨E2, q1, q2⟩ := pvC 0 hE (v1p.tx_go s k g b.toNat ((k + 1 : Nat) : Int)) ⟨f1, f2, by simp [Asm.holds, cmpB]; omega, f2, by simp [Asm.holds, cmpB]; omega, by simp only [Asm.holds, arithI, add1 (show k < 1000000000000 by omega)], trivial⟩
        exact ⟨E2, .trans (.add (.add (.nil _) rfl) rfl) q1, q2⟩
      · by_cases h1 : b.toNat < 32
        · obtain ⟨E2, q1, q2⟩ := pvC 0 hE (v1p.tx_low s k g b.toNat) ⟨f1, f2, by simp [Asm.holds, cmpB]; omega, trivial⟩
          exact ⟨E2, .trans (.add (.nil _) rfl) q1, q2⟩
        · have h2 : 126 < b.toNat := by simp [okB] at ho; omega
          obtain ⟨E2, q1, q2⟩ := pvC 0 hE (v1p.tx_high s k g b.toNat) ⟨f1, f2, by simp [Asm.holds, cmpB]; omega, f2, by simp [Asm.holds, cmpB]; omega, trivial⟩
          exact ⟨E2, .trans (.add (.nil _) rfl) q1, q2⟩
    have pl : plainC (loopN Try.f67 0) = true := by kernel_rfl
    by_cases hall : s.data.toList.all okB = true
    · have e : textB s = true := by
        have : (s.data.toList.all fun b => decide (32 ≤ b.toNat) && decide (b.toNat ≤ 126)) = true := hall
        simp only [textB, this, decide_eq_true hl, Bool.and_self]
      rw [e]
      obtain ⟨x', E1, h1, hl1, rfl, rfl⟩ := loop_inv (P := Try.prog) (n := 23) (rd := false) (b := loopN Try.f67 0) (Q := fun x' _ h1 => x' = .exit 0 ∧ g = h1)
        (fun m E g' => ∃ k : Nat, k ≤ s.size ∧ m = s.size - k ∧ EnvLe [(3, .int .i64 k), (0, .string s)] E ∧ g = g')
        (fun m E g' ⟨k, k1, k2, k3, k4⟩ => by
          subst k4
          by_cases ek : k = s.size
          · right
            obtain ⟨E2, q1, q2⟩ := pvC 0 k3 (v1p.tx_end s k g) ⟨by simp [Asm.holds, cmpB]; omega, trivial⟩
            exact ⟨_, E2, _, by simp, q2, rfl, rfl⟩
          · left
            obtain ⟨b, hb⟩ : ∃ b, s.data.toList[k]? = some b := ⟨_, List.getElem?_eq_getElem (by omega)⟩
            obtain ⟨E2, q1, q2⟩ := (body k E (by omega) k3 b hb).1 (List.all_eq_true.1 hall b (List.mem_of_getElem? hb))
            exact ⟨s.size - (k + 1), E2, _, by omega, q2, k + 1, by omega, rfl, q1, rfl⟩)
        s.size [(3, .int .i64 ((0 : Nat) : Int)), (0, .string s)] g ⟨0, by omega, rfl, EnvLe.refl _, rfl⟩
      exact pvF 0 Try.func67 (v1p.tx_yes s g) ⟨f0, a_loop pl (.add (.add (.nil _) rfl) rfl) (.nil _) hl1, trivial⟩
    · have e : textB s = false := by
        have : (s.data.toList.all fun b => decide (32 ≤ b.toNat) && decide (b.toNat ≤ 126)) = false := Bool.eq_false_iff.2 hall
        simp only [textB, this, Bool.and_false]
      rw [e]
      obtain ⟨k0, hk0, hmin⟩ : ∃ k0, (∃ b, s.data.toList[k0]? = some b ∧ okB b = false) ∧ ∀ m b, m < k0 → s.data.toList[m]? = some b → okB b = true := by
        have hlt : s.data.toList.findIdx (fun b => !okB b) < s.data.toList.length := by
          rw [List.findIdx_lt_length]
          obtain ⟨b, hb, hn⟩ : ∃ b ∈ s.data.toList, okB b = false := by
            obtain ⟨b, hb, hn⟩ := List.all_eq_false.1 (Bool.eq_false_iff.2 hall)
            exact ⟨b, hb, by simpa using hn⟩
          exact ⟨b, hb, by simp [hn]⟩
        refine ⟨s.data.toList.findIdx (fun b => !okB b), ⟨_, List.getElem?_eq_getElem hlt, ?_⟩, fun m b hm hb => ?_⟩
        · have := List.findIdx_getElem (w := hlt); simpa using this
        · have h1 := List.not_of_lt_findIdx hm
          rw [List.getElem?_eq_getElem (by omega)] at hb
          simp only [Option.some.injEq] at hb
          rw [hb] at h1
          simpa using h1
      obtain ⟨b0, hb0, hn0⟩ := hk0
      have hk0l := get_lt' hb0
      obtain ⟨x', E1, h1, hl1, rfl, hE1, rfl⟩ := loop_inv (P := Try.prog) (n := 23) (rd := false) (b := loopN Try.f67 0) (Q := fun x' E1 h1 => x' = .ret ∧ EnvLe [(2, .bool false)] E1 ∧ g = h1)
        (fun m E g' => ∃ k : Nat, k ≤ k0 ∧ m = k0 - k ∧ EnvLe [(3, .int .i64 k), (0, .string s)] E ∧ g = g')
        (fun m E g' ⟨k, k1, k2, k3, k4⟩ => by
          subst k4
          by_cases ek : k = k0
          · right
            subst ek
            obtain ⟨E2, q1, q2⟩ := (body k E (by omega) k3 b0 hb0).2 hn0
            exact ⟨_, E2, _, by simp, q2, rfl, q1, rfl⟩
          · left
            obtain ⟨b, hb⟩ : ∃ b, s.data.toList[k]? = some b := ⟨_, List.getElem?_eq_getElem (by omega)⟩
            obtain ⟨E2, q1, q2⟩ := (body k E (by omega) k3 b hb).1 (hmin k b (by omega) hb)
            exact ⟨k0 - (k + 1), E2, _, by omega, q2, k + 1, by omega, rfl, q1, rfl⟩)
        k0 [(3, .int .i64 ((0 : Nat) : Int)), (0, .string s)] g ⟨0, by omega, rfl, EnvLe.refl _, rfl⟩
      exact pvF 0 Try.func67 (v1p.tx_no s g) ⟨f0, a_loop pl (.add (.add (.nil _) rfl) rfl) hE1 hl1, trivial⟩
  · have e : textB s = false := by simp [textB, hl]
    rw [e]
    exact pvF 0 Try.func67 (v1p.tx_long s g) ⟨by simp [Asm.holds, cmpB]; omega, trivial⟩


/-- 'Valid' of a fault. -/
theorem validR_run (g : Hp) (fk : Int) (ft : ByteArray) : Run Try.prog 56 [.agg #[.int .i64 fk, .string ft]] g (.bool (faultB fk ft)) (g ++ [.cells [.int .i64 fk, .string ft] true]) := by
  have hb : (g ++ [AObj.cells [.int .i64 fk, .string ft] true])[g.length]? = some (.cells [.int .i64 fk, .string ft] true) := get_new g _
  by_cases h0 : fk = 0
  · have : faultB fk ft = (ft.toList == (⟨#[]⟩ : ByteArray).toList) := by simp [faultB, h0]
    rw [this]
    exact pvF 0 Try.func56 (v1p.va_0 g.length fk ft _ g) ⟨rfl, a_ld1 hb rfl, eqT h0, a_ld1 hb rfl, .inl ⟨rfl, rfl⟩, trivial⟩
  · by_cases h2 : fk = 2
    · have : faultB fk ft = (ft.toList == (⟨#[]⟩ : ByteArray).toList) := by simp [faultB, h2]
      rw [this]
      exact pvF 0 Try.func56 (v1p.va_2 g.length fk ft _ g) ⟨rfl, a_ld1 hb rfl, eqF h0, eqT h2, a_ld1 hb rfl, .inl ⟨rfl, rfl⟩, trivial⟩
    · by_cases h1 : fk = 1
      · have : faultB fk ft = textB ft := by simp [faultB, h1]
        rw [this]
        exact pvF 0 Try.func56 (v1p.va_1 g.length fk ft _ g _) ⟨rfl, a_ld1 hb rfl, eqF h0, eqF h2, eqT h1, a_ld1 hb rfl, textR_run _ ft, trivial⟩
      · have : faultB fk ft = false := by simp [faultB, h0, h1, h2]
        rw [this]
        exact pvF 0 Try.func56 (v1p.va_no g.length fk ft false g) ⟨rfl, a_ld1 hb rfl, eqF h0, eqF h2, eqF h1, trivial⟩

end Go.Proofs.Ytkkhokgpcifckaa.rf

namespace Go.Proofs.Ytkkhokgpcifckaa.rf
open Go Go.Ev Go.Proofs.Ytkkhokgpcifckaa.wd
set_option maxRecDepth 100000
set_option linter.constructorNameAsVariable false
set_option linter.unusedVariables false

variable {h h' g g' : Hp} {o p q : Nat} {t : Option Nat} {w : WS}

/-! ### stops -/
/-- Rounds from the end to the front. -/
def mdL (f : Nat → Sv → Sv) (l : List Sv) (k : Nat) : List Sv := l.take k ++ mS f k (l.drop k)
theorem mdL_len (f : Nat → Sv → Sv) (l : List Sv) (k : Nat) : (mdL f l k).length = l.length := by
  simp only [mdL, List.length_append, mS_len, List.length_take, List.length_drop]; omega
theorem mdL_step (f : Nat → Sv → Sv) {l : List Sv} {k : Nat} {x : Sv} (hx : l[k]? = some x) : (mdL f l (k + 1))[k]? = some x ∧ (mdL f l (k + 1)).set k (f k x) = mdL f l k := by
  have hk := get_lt' hx
  have hl : (l.take k).length = k := by simp; omega
  have e : mdL f l (k + 1) = l.take k ++ (x :: mS f (k + 1) (l.drop (k + 1))) := by rw [mdL, take_snoc hx, List.append_assoc]; rfl
  refine ⟨?_, ?_⟩
  · rw [e, List.getElem?_append_right (by omega), hl, Nat.sub_self]; rfl
  · rw [e, List.set_append_right _ _ (by omega), hl, Nat.sub_self, mdL, drop_cons hx]; rfl
theorem mdL_low (f : Nat → Sv → Sv) {l : List Sv} : ∀ {k : Nat}, k ≤ l.length → (∀ j x, j < k → f j x = x) → mdL f l k = mdL f l 0
  | 0, _, _ => rfl
  | k + 1, hk, hf => by
    obtain ⟨x, hx⟩ : ∃ x, l[k]? = some x := ⟨_, List.getElem?_eq_getElem (by omega)⟩
    obtain ⟨h1, h2⟩ := mdL_step f hx
    rw [← mdL_low f (show k ≤ l.length by omega) (fun j x hj => hf j x (by omega)), ← h2, hf k x (by omega), set_same h1]
theorem mdL_zero (f : Nat → Sv → Sv) (l : List Sv) : mdL f l 0 = mS f 0 l := by simp [mdL]
theorem stO_drop (P : Nat → Bool) {l : List Sv} {k : Nat} {x : Sv} (hx : l[k]? = some x) : stO P k (l.drop k) = stO P (k + 1) (l.drop (k + 1)) ++ (if x.state = 1 ∧ P k = true then [⟨1, ((k + 1 : Nat) : Int), 0⟩] else []) := by
  rw [drop_cons hx]; rfl
theorem stO_low (P : Nat → Bool) {l : List Sv} : ∀ {k : Nat}, k ≤ l.length → (∀ j, j < k → P j = false) → stO P k (l.drop k) = stO P 0 l
  | 0, _, _ => rfl
  | k + 1, hk, hf => by
    obtain ⟨x, hx⟩ : ∃ x, l[k]? = some x := ⟨_, List.getElem?_eq_getElem (by omega)⟩
    rw [← stO_low P (show k ≤ l.length by omega) (fun j hj => hf j (by omega)), stO_drop P hx, hf k (by omega)]
    simp

def spP (fr n : Int) (k : Nat) : Bool := decide (fr - 1 ≤ (k : Int)) && decide ((k : Int) ≠ n - 1)
/-- A service told to stop, or taken from those that are due. -/
def spS (P : Nat → Bool) (k : Nat) (x : Sv) : Sv := ofStep P k (stStep P k x)
theorem spS_off {P : Nat → Bool} {k : Nat} (x : Sv) (hp : P k = false) : spS P k x = x := by simp [spS, ofStep, stStep, hp]
theorem spS_run {P : Nat → Bool} {k : Nat} {x : Sv} (hp : P k = true) (hs : x.state = 1) : spS P k x = { x with state := 2 } := by simp [spS, ofStep, stStep, hp, hs]
theorem spS_due {P : Nat → Bool} {k : Nat} {x : Sv} (hp : P k = true) (hs : x.state = 4) : spS P k x = ⟨x.when, 3, 0⟩ := by simp [spS, ofStep, stStep, hp, hs]
theorem spS_not {P : Nat → Bool} {k : Nat} {x : Sv} (h1 : x.state ≠ 1) (h4 : x.state ≠ 4) : spS P k x = x := by simp [spS, ofStep, stStep, h1, h4]
theorem spS_when (P : Nat → Bool) (k : Nat) (x : Sv) : (spS P k x).when = x.when := by
  simp only [spS, ofStep, stStep]; split <;> split <;> rfl
theorem mS_whens {f : Nat → Sv → Sv} (hf : ∀ k x, (f k x).when = x.when) : ∀ (n : Nat) (l : List Sv), (mS f n l).map Sv.when = l.map Sv.when
  | n, [] => rfl
  | n, x :: l => by simp [mS, hf, mS_whens hf (n + 1) l]
theorem mdL_whens {f : Nat → Sv → Sv} (hf : ∀ k x, (f k x).when = x.when) (l : List Sv) (k : Nat) : (mdL f l k).map Sv.when = l.map Sv.when := by
  rw [mdL, List.map_append, mS_whens hf, ← List.map_append, List.take_append_drop]

/-- What lies beyond a warden's own objects. -/
theorem RAt.putK {l0 l : List Sv} {B : Nat} {fp : Nat → Prop} (a : RAt g o p q t { w with svs := l0 }) (k : Keep fp g g') (hf : ∀ x, x < g.length → fp x → x = p ∨ x = q ∨ B ≤ x) (hB : ∀ x, (fpR p q t x ∨ x = o) → x < B)
    (hp : g'[p]? = some (.cells (stC l) true)) (hq : g'[q]? = some (.cells (atC l) true)) (hw : l.map Sv.when = l0.map Sv.when) : RAt g' o p q t { w with svs := l } := by
  refine RAt.put (w := { w with svs := l0 }) (l := l) a k (fun x hx e => ?_) hp hq hw
  rcases hf x hx e with e | e | e
  · exact .inl e
  · exact .inr (.inl e)
  · refine .inr (.inr ⟨fun r => ?_, fun r => ?_⟩)
    · have := hB x (.inl r); omega
    · have := hB x (.inr r); omega

theorem stops_loop {B b c : Nat} {fr n : Int} (a : RAt h o p q t w) (hw : WOk w) (hb : h[b]? = some (.cells (rC o p q t w) true)) (hB : ∀ x, (fpR p q t x ∨ x = o) → x < B) (hbB : B ≤ b) (hfr : 1 ≤ fr ∧ fr ≤ 100) (hn : 1 ≤ n ∧ n ≤ 100) {E0 : Env}
    (hE : EnvLe [(9, .int .i64 ((w.svs.length : Int) - 1)), (8, .slice none 0 0), (6, .pointer (some ⟨c, 0, none⟩)), (3, .pointer (some ⟨b, 0, none⟩)), (2, .int .i64 n), (1, .int .i64 fr)] E0) :
    ∃ E1 v h1, EnvLe [(8, v), (6, .pointer (some ⟨c, 0, none⟩)), (3, .pointer (some ⟨b, 0, none⟩))] E1 ∧ LRun Try.prog 59 false (loopN Try.f74 0) E0 h (.exit 0) E1 h1 ∧ RAt h1 o p q t { w with svs := mS (spS (spP fr n)) 0 w.svs } ∧ OrdAt h1 h.length v (stO (spP fr n) 0 w.svs) ∧ Keep (fun x => x = p ∨ x = q) h h1 := by
  have n8 := hw.n8
  have hbl := get_lt hb
  have hpB := hB p (.inl (.inl rfl))
  have hqB := hB q (.inl (.inr (.inl rfl)))
  have hwh := spS_when (spP fr n)
  obtain ⟨x', E1, h1, hl1, rfl, v, q1, q2, q3, q4⟩ := loop_inv (P := Try.prog) (n := 59) (rd := false) (b := loopN Try.f74 0)
    (Q := fun x' E1 h1 => x' = .exit 0 ∧ ∃ v, EnvLe [(8, v), (6, .pointer (some ⟨c, 0, none⟩)), (3, .pointer (some ⟨b, 0, none⟩))] E1 ∧ RAt h1 o p q t { w with svs := mS (spS (spP fr n)) 0 w.svs } ∧ OrdAt h1 h.length v (stO (spP fr n) 0 w.svs) ∧ Keep (fun x => x = p ∨ x = q) h h1)
    (fun m E g => ∃ v, m ≤ w.svs.length ∧ EnvLe [(9, .int .i64 ((m : Int) - 1)), (8, v), (6, .pointer (some ⟨c, 0, none⟩)), (3, .pointer (some ⟨b, 0, none⟩)), (2, .int .i64 n), (1, .int .i64 fr)] E ∧
      RAt g o p q t { w with svs := mdL (spS (spP fr n)) w.svs m } ∧ OrdAt g h.length v (stO (spP fr n) m (w.svs.drop m)) ∧ Keep (fun x => x = p ∨ x = q) h g)
    (fun m E g ⟨v, k1, k3, k4, k5, k6⟩ => by
      have hgb := k6.2 _ _ hb (by rintro (e | e) <;> omega)
      have hgB : B ≤ g.length := by have := k6.1; omega
      by_cases e : (m : Int) - 1 < fr - 1
      · right
        obtain ⟨E2, q1, q2⟩ := pvC 0 k3 (v1p.sp_out w.svs.length p q b c 0 ((m : Int) - 1) 0 n 0 fr (fr - 1) 0 v [] [] g) ⟨subI rfl (by omega) (by omega), geF e, trivial⟩
        have hoff : ∀ j, j < m → spP fr n j = false := fun j hj => by
          have : ¬ (fr - 1 ≤ (j : Int)) := by omega
          simp [spP, this]
        refine ⟨_, E2, _, by simp, q2, rfl, v, .trans (.add (.add (.add (.nil _) rfl) rfl) rfl) q1, ?_, ?_, k6⟩
        · rw [mdL_low _ k1 (fun j x hj => spS_off x (hoff j hj)), mdL_zero] at k4
          exact k4
        · rw [stO_low _ k1 hoff] at k5
          exact k5
      · left
        obtain ⟨k, rfl⟩ : ∃ k, m = k + 1 := ⟨m - 1, by omega⟩
        obtain ⟨x, hx⟩ : ∃ x, w.svs[k]? = some x := ⟨_, List.getElem?_eq_getElem (by omega)⟩
        obtain ⟨f1, f2⟩ := mdL_step (spS (spP fr n)) hx
        have hst := k4.st
        have hat := k4.ats
        have hord := stO_drop (spP fr n) hx
        have c1 : (Asm.arith .sub .i64 fr 1 (fr - 1)).holds Try.prog := subI rfl (by omega) (by omega)
        have c2 : (Asm.cmp .geq (((k + 1 : Nat) : Int) - 1) (fr - 1) true).holds Try.prog := geT (by omega)
        have c3 : (Asm.arith .sub .i64 n 1 (n - 1)).holds Try.prog := subI rfl (by omega) (by omega)
        have c4 : (Asm.arith .sub .i64 (((k + 1 : Nat) : Int) - 1) 1 ((k : Int) - 1)).holds Try.prog := subI (by omega) (by omega) (by omega)
        have c5 : (Asm.off k 0 (((k + 1 : Nat) : Int) - 1) w.svs.length 1).holds Try.prog := offI (q := k) (by omega) (by omega) (by omega)
        have hlen := mdL_len (spS (spP fr n)) w.svs (k + 1)
        by_cases hself : (k : Int) = n - 1
        · -- itself
          obtain ⟨E2, q1, q2⟩ := pvC 0 k3 (v1p.sp_self w.svs.length p q b c 0 (((k + 1 : Nat) : Int) - 1) ((k : Int) - 1) n (n - 1) fr (fr - 1) 0 v [] [] g) ⟨c1, c2, c3, eqT (by omega), c4, trivial⟩
          have hP : spP fr n k = false := by simp [spP, hself]
          rw [spS_off x hP, set_same f1] at f2
          refine ⟨k, E2, _, by omega, q2, v, by omega, .trans (.add (.add (.add (.add (.add (.add (.nil _) rfl) rfl) rfl) rfl) rfl) rfl) q1, ?_, ?_, k6⟩
          · rw [← f2]; exact k4
          · rw [hord, hP]; simpa [SH.den] using k5
        · have hP : spP fr n k = true := by
            have : fr - 1 ≤ (k : Int) := by omega
            simp [spP, hself, this]
          have c6 : (Asm.cmp .eql (((k + 1 : Nat) : Int) - 1) (n - 1) false).holds Try.prog := eqF (by omega)
          have l6 : (Asm.ld1 (.is g) b 6 (.slice (some ⟨p, 0, none⟩) w.svs.length 1)).holds Try.prog := a_ld1 hgb rfl
          have lx : (Asm.ld1 (.is g) p k (.int .i64 x.state)).holds Try.prog := a_ld1 hst (stC_get f1)
          by_cases h1 : x.state = 1
          · rw [spS_run hP h1] at f2
            have sp := st_put f1 { x with state := 2 }
            rw [f2] at sp
            have sa := at_same (y := { x with state := 2 }) f1 rfl
            rw [f2] at sa
            have sst := a_st (P := Try.prog) (s := .is g) (i := p) (d := k) (l := [.int .i64 2]) (c' := stC (mdL (spS (spP fr n)) w.svs k)) hst (by rw [stC_len]; simp; omega) sp
            have hgp : p < g.length := get_lt hst
            have cinc : (Asm.arith .add .i64 (((k + 1 : Nat) : Int) - 1) 1 ((k + 1 : Nat) : Int)).holds Try.prog := addI (by omega) (by omega) (by omega)
            rw [if_pos ⟨h1, hP⟩] at hord
            rcases k5 with ⟨rfl, hnil⟩ | ⟨a', rfl, ho, hbo, hne⟩
            · obtain ⟨E2, q1, q2⟩ := pvC 0 k3 (v1p.sp_run0 w.svs.length p q b c k g.length (g.length + 1) (((k + 1 : Nat) : Int) - 1) ((k : Int) - 1) ((k + 1 : Nat) : Int) n (n - 1) fr (fr - 1) x.state [] [.int .i64 1, .int .i64 ((k + 1 : Nat) : Int), .int .i64 0] (stC (mdL (spS (spP fr n)) w.svs k)) [] g)
                ⟨c1, c2, c3, c6, l6, c5, lx, eqT h1, l6, c5, sst, cinc, by simp [Asm.holds, SH.den],
                  ⟨rfl, ⟨_, cells_of (get_new' _ (by simp [SH.den])), by simp, rfl⟩, rfl, by omega, by omega, by simp [SH.den]⟩, c4, trivial⟩
              have hK : Keep (fun x => x = p ∨ x = q ∨ g.length ≤ x) g (((g.set p (.cells (stC (mdL (spS (spP fr n)) w.svs k)) true)) ++ [.cells [.int .i64 1, .int .i64 ((k + 1 : Nat) : Int), .int .i64 0] true]) ++ [.cells [.int .i64 1, .int .i64 ((k + 1 : Nat) : Int), .int .i64 0] true]) :=
                ((Keep.set (fp := fun x => x = p ∨ x = q ∨ g.length ≤ x) (.inl rfl) _).trans (Keep.push _ _ _)).trans (Keep.push _ _ _)
              refine ⟨k, E2, _, by omega, q2, _, by omega, .trans (.add (.add (.add (.add (.add (.add (.nil _) rfl) rfl) rfl) rfl) rfl) rfl) q1, ?_, ?_, ?_⟩
              · refine k4.putK hK (fun x hx e => ?_) hB (get_push (get_push (get_set_eq hst))) ?_ (by rw [mdL_whens hwh, mdL_whens hwh])
                · rcases e with e | e | e
                  · exact .inl e
                  · exact .inr (.inl e)
                  · omega
                · rw [sa]; exact get_push (get_push (get_set_ne hat a.ne))
              · right
                refine ⟨g.length + 1, ?_, ?_, by have := k6.1; omega, by rw [hord]; simp⟩
                · rw [hord, hnil]; rfl
                · rw [hord, hnil]; exact get_new' _ (by simp [SH.den])
              · refine k6.trans_new hK (fun x hx e => ?_)
                rcases e with e | e | e
                · exact .inl e
                · exact .inr e
                · have := k6.1; omega
            · have hlo := svC_len (stO (spP fr n) (k + 1) (w.svs.drop (k + 1)))
              have hno : (stO (spP fr n) (k + 1) (w.svs.drop (k + 1))).length ≤ 8 := by have := stO_len (spP fr n) (k + 1) (w.svs.drop (k + 1)); simp at this; omega
              have nop : a' ≠ p := by have := hpB; omega
              have noq : a' ≠ q := by have := hqB; omega
              have hgo' := get_lt ho
              have hcs : (svC (stO (spP fr n) (k + 1) (w.svs.drop (k + 1)))).take ((stO (spP fr n) (k + 1) (w.svs.drop (k + 1))).length * 3) ++ [.int .i64 1, .int .i64 ((k + 1 : Nat) : Int), .int .i64 0] = svC (stO (spP fr n) k (w.svs.drop k)) := by
                rw [hord, svC_app, List.take_of_length_le (by omega)]; rfl
              obtain ⟨E2, q1, q2⟩ := pvC 0 k3 (v1p.sp_run1 w.svs.length p q b c k g.length (g.length + 1) (((k + 1 : Nat) : Int) - 1) ((k : Int) - 1) ((k + 1 : Nat) : Int) n (n - 1) fr (fr - 1) x.state (svC (stO (spP fr n) k (w.svs.drop k))) [.int .i64 1, .int .i64 ((k + 1 : Nat) : Int), .int .i64 0] (stC (mdL (spS (spP fr n)) w.svs k)) [] g
                  a' (stO (spP fr n) (k + 1) (w.svs.drop (k + 1))).length)
                ⟨c1, c2, c3, c6, l6, c5, lx, eqT h1, l6, c5, sst, cinc, by simp [Asm.holds, SH.den],
                  ⟨rfl, ⟨_, cells_of (get_new' _ (by simp [SH.den])), by simp, rfl⟩, rfl, by omega, by omega, ⟨_, own_of (get_push (get_set_ne ho (Ne.symm nop))), by omega, hcs⟩, by simp [SH.den]⟩, c4, trivial⟩
              have hK : Keep (fun x => x = p ∨ x = q ∨ (h.length ≤ x)) g ((((g.set p (.cells (stC (mdL (spS (spP fr n)) w.svs k)) true)) ++ [AObj.cells [.int .i64 1, .int .i64 ((k + 1 : Nat) : Int), .int .i64 0] true]).set a' .dead) ++ [.cells (svC (stO (spP fr n) k (w.svs.drop k))) true]) :=
                (((Keep.set (fp := fun x => x = p ∨ x = q ∨ h.length ≤ x) (.inl rfl) _).trans (Keep.push _ _ _)).trans (Keep.set (.inr (.inr hbo)) _)).trans (Keep.push _ _ _)
              refine ⟨k, E2, _, by omega, q2, _, by omega, .trans (.add (.add (.add (.add (.add (.add (.nil _) rfl) rfl) rfl) rfl) rfl) rfl) q1, ?_, ?_, ?_⟩
              · refine k4.putK (B := B) hK (fun x hx e => ?_) hB (get_push (get_set_ne (get_push (get_set_eq hst)) nop)) ?_ (by rw [mdL_whens hwh, mdL_whens hwh])
                · rcases e with e | e | e
                  · exact .inl e
                  · exact .inr (.inl e)
                  · exact .inr (.inr (by omega))
                · rw [sa]; exact get_push (get_set_ne (get_push (get_set_ne hat a.ne)) noq)
              · right
                refine ⟨g.length + 1, ?_, ?_, by have := k6.1; omega, by rw [hord]; simp⟩
                · rw [hord]; simp
                · exact get_new' _ (by simp [SH.den])
              · refine k6.trans_new hK (fun x hx e => ?_)
                rcases e with e | e | e
                · exact .inl e
                · exact .inr e
                · omega
          · rw [if_neg (fun e => h1 e.1), List.append_nil] at hord
            by_cases h4 : x.state = 4
            · rw [spS_due hP h4] at f2
              have sp := st_put f1 { x with state := 3 }
              have sa := at_same (y := { x with state := 3 }) f1 rfl
              have f1' : ((mdL (spS (spP fr n)) w.svs (k + 1)).set k { x with state := 3 })[k]? = some { x with state := 3 } := by rw [List.getElem?_set_self (get_lt' f1)]
              have sp2 := at_put f1' (⟨x.when, 3, 0⟩ : Sv)
              have sa2 := st_same (y := ⟨x.when, 3, 0⟩) f1' rfl
              rw [List.set_set, f2] at sp2 sa2
              have sst := a_st (P := Try.prog) (s := .is g) (i := p) (d := k) (l := [.int .i64 3]) (c' := stC (mdL (spS (spP fr n)) w.svs k)) hst (by rw [stC_len]; simp; omega) (by rw [sa2]; exact sp)
              have hg1 : ∀ {j y}, g[j]? = some y → j ≠ p → (g.set p (.cells (stC (mdL (spS (spP fr n)) w.svs k)) true))[j]? = some y := fun hj hn => get_set_ne hj (Ne.symm hn)
              have sst2 := a_st (P := Try.prog) (s := .set (.is g) p (.cells (stC (mdL (spS (spP fr n)) w.svs k)) true)) (i := q) (d := k) (l := [.int .i64 0]) (c' := atC (mdL (spS (spP fr n)) w.svs k)) (hg1 hat (Ne.symm a.ne)) (by rw [atC_len]; simp; omega) (by rw [← sa]; exact sp2)
              obtain ⟨E2, q1, q2⟩ := pvC 0 k3 (v1p.sp_due w.svs.length p q b c k (((k + 1 : Nat) : Int) - 1) ((k : Int) - 1) n (n - 1) fr (fr - 1) x.state v (stC (mdL (spS (spP fr n)) w.svs k)) (atC (mdL (spS (spP fr n)) w.svs k)) g)
                ⟨c1, c2, c3, c6, l6, c5, lx, eqF h1, l6, c5, lx, eqT h4, l6, c5, sst, a_ld1 (hg1 hgb (by omega)) rfl, c5, sst2, c4, trivial⟩
              have hK : Keep (fun x => x = p ∨ x = q) g ((g.set p (.cells (stC (mdL (spS (spP fr n)) w.svs k)) true)).set q (.cells (atC (mdL (spS (spP fr n)) w.svs k)) true)) :=
                (Keep.set (fp := fun x => x = p ∨ x = q) (.inl rfl) _).trans (Keep.set (.inr rfl) _)
              refine ⟨k, E2, _, by omega, q2, v, by omega, .trans (.add (.add (.add (.add (.add (.add (.nil _) rfl) rfl) rfl) rfl) rfl) rfl) q1, ?_, ?_, ?_⟩
              · refine k4.putK (B := B) hK (fun x hx e => by rcases e with e | e; exact .inl e; exact .inr (.inl e)) hB (get_set_ne (get_set_eq hst) (Ne.symm a.ne)) (get_set_eq (hg1 hat (Ne.symm a.ne))) (by rw [mdL_whens hwh, mdL_whens hwh])
              · rw [hord]
                exact k5.keep hK (fun x hx _ e => by rcases e with e | e <;> omega)
              · exact k6.trans hK
            · rw [spS_not h1 h4, set_same f1] at f2
              obtain ⟨E2, q1, q2⟩ := pvC 0 k3 (v1p.sp_none w.svs.length p q b c k (((k + 1 : Nat) : Int) - 1) ((k : Int) - 1) n (n - 1) fr (fr - 1) x.state v [] [] g) ⟨c1, c2, c3, c6, l6, c5, lx, eqF h1, l6, c5, lx, eqF h4, c4, trivial⟩
              refine ⟨k, E2, _, by omega, q2, v, by omega, .trans (.add (.add (.add (.add (.add (.add (.nil _) rfl) rfl) rfl) rfl) rfl) rfl) q1, ?_, ?_, k6⟩
              · rw [← f2]; exact k4
              · rw [hord]; exact k5)
    w.svs.length E0 h ⟨.slice none 0 0, by omega, hE, by have : mdL (spS (spP fr n)) w.svs w.svs.length = w.svs := (by simp [mdL, mS]); rw [this]; exact a, .inl ⟨rfl, by simp [stO]⟩, .refl _ _⟩
  exact ⟨E1, v, h1, q1, hl1, q2, q3, q4⟩

end Go.Proofs.Ytkkhokgpcifckaa.rf

namespace Go.Proofs.Ytkkhokgpcifckaa.rf
open Go Go.Ev Go.Proofs.Ytkkhokgpcifckaa.wd
set_option maxRecDepth 100000
set_option linter.constructorNameAsVariable false
set_option linter.unusedVariables false

variable {h h' g g' : Hp} {o p q : Nat} {t : Option Nat} {w : WS}

theorem rC_svs {l : List Sv} (hl : l.length = w.svs.length) : rC o p q t { w with svs := l } = rC o p q t w := by simp [rC, hl]
theorem RAt.same {w' : WS} (a : RAt h o p q t w) (e : w'.svs = w.svs) (e2 : w'.times = w.times) : RAt h o p q t w' := by
  obtain ⟨a1, a2, a3, a4, a5, a6⟩ := a
  exact ⟨by rw [e]; exact a1, by rw [e]; exact a2, by rw [e2]; exact a3, a4, by rw [e]; exact a5, a6⟩

def stopsF (w : WS) (fr n : Int) : WS := { w with svs := mS (spS (spP fr n)) 0 w.svs }
theorem stops_run (a : RAt h o p q t w) (hw : WOk w) {fr n : Int} (hfr : 1 ≤ fr ∧ fr ≤ 100) (hn : 1 ≤ n ∧ n ≤ 100) :
    ∃ v h', Run Try.prog 74 [.agg (rC o p q t w).toArray, .int .i64 fr, .int .i64 n] h (.tuple #[.agg (rC o p q t (stopsF w fr n)).toArray, v]) h' ∧ RAt h' o p q t (stopsF w fr n) ∧ OrdAt h' h.length v (stO (spP fr n) 0 w.svs) ∧ Keep (fun x => x = p ∨ x = q) h h' := by
  have n8 := hw.n8
  have n1 := hw.n1
  have hB : ∀ x, (fpR p q t x ∨ x = o) → x < h.length := fun x e => by
    rcases e with e | e
    · exact a.lts x e
    · rw [e]; exact a.olt
  have hp := hB p (.inl (.inl rfl))
  have hq := hB q (.inl (.inr (.inl rfl)))
  have gb : (h ++ [AObj.cells (rC o p q t w) true] ++ [zR])[h.length]? = some (.cells (rC o p q t w) true) := get_push (get_new h _)
  have gc : (h ++ [AObj.cells (rC o p q t w) true] ++ [zR])[h.length + 1]? = some zR := get_new' _ (by simp)
  obtain ⟨E1, v, h1, e1, l1, b1, b2, b3⟩ := stops_loop (c := h.length + 1) ((a.push (.cells (rC o p q t w) true)).push zR) hw gb hB (Nat.le_refl _) hfr hn (EnvLe.refl _)
  have gb1 := b3.2 _ _ gb (by rintro (e | e) <;> omega)
  have gc1 := b3.2 _ _ gc (by rintro (e | e) <;> omega)
  have hle : h.length + 2 ≤ h1.length := by have := b3.1; simp at this; omega
  have hrc : rC o p q t (stopsF w fr n) = rC o p q t w := rC_svs (by rw [mS_len])
  have K1 : Keep (fun x => x = p ∨ x = q) h h1 := ((Keep.push _ _ _).trans (Keep.push _ _ _)).trans b3
  have K2 : Keep (fun x => x = h.length + 1) h1 (h1.set (h.length + 1) (.cells (rC o p q t w) true)) := Keep.set (fp := fun x => x = h.length + 1) rfl _
  have KF : Keep (fun x => x = p ∨ x = q) h (h1.set (h.length + 1) (.cells (rC o p q t w) true)) := K1.trans_new K2 (fun x hx e => by omega)
  refine ⟨v, h1.set (h.length + 1) (.cells (rC o p q t w) true), ?_, b1.keep K2 (fun x hx e => ?_), ?_, KF⟩
  · rw [hrc]
    exact pvF 0 Try.func74 (v1p.sp w.rule w.most w.within w.base w.cap w.now w.delay o p q w.svs.length (tvA t) (tvL t w.times.length) (tvZ t) w.given h.length (h.length + 1) fr n ((w.svs.length : Int) - 1) v h h1 (rC o p q t w))
      ⟨rfl, by simp [Asm.holds, SH.den], a_ld1 gb rfl, subI (by simp) (by omega) (by omega), a_loop (by kernel_rfl) (.add (.add (.add (.add (.add (.add (.nil _) rfl) rfl) rfl) rfl) rfl) rfl) e1 l1, a_ldn gb1 (by simp [rC]) (by simp [rC]; try rfl), a_st gc1 (by simp) (by simp [rC]; try rfl), a_ldn (get_set_eq gc1) (by simp [rC]) (by simp [rC]; try rfl), trivial⟩
  · have := a.lts
    refine ⟨fun r => ?_, ?_⟩
    · have := a.lts x r; omega
    · have := a.olt; omega
  · rcases b2 with e | ⟨a', e1, e2, e3, e4⟩
    · exact .inl e
    · simp at e3
      exact .inr ⟨a', e1, get_set_ne e2 (by omega), by omega, e4⟩

end Go.Proofs.Ytkkhokgpcifckaa.rf

namespace Go.Proofs.Ytkkhokgpcifckaa.rf
open Go Go.Ev Go.Proofs.Ytkkhokgpcifckaa.wd
set_option maxRecDepth 100000
set_option linter.constructorNameAsVariable false
set_option linter.unusedVariables false

variable {h h' g g' : Hp} {o p q : Nat} {t : Option Nat} {w : WS}

/-! ### group -/
theorem bg_whens (at' : Int) (l : List Sv) : (l.map (bgStep at')).map Sv.when = l.map Sv.when := by
  rw [List.map_map]
  refine List.map_congr_left fun x _ => ?_
  simp only [Function.comp, bgStep]; split <;> rfl
theorem bgk_whens (at' : Int) (l : List Sv) (k : Nat) : ((l.take k).map (bgStep at') ++ l.drop k).map Sv.when = l.map Sv.when := by
  rw [List.map_append, bg_whens, ← List.map_append, List.take_append_drop]

theorem group_loop {B b c : Nat} {at' : Int} (a : RAt h o p q t w) (hw : WOk w) (hb : h[b]? = some (.cells (rC o p q t w) true)) (hB : ∀ x, (fpR p q t x ∨ x = o) → x < B) (hbB : B ≤ b) {E0 : Env}
    (hE : EnvLe [(17, .int .i64 0), (16, .int .i64 (Int.ofNat w.svs.length)), (15, .slice (some ⟨p, 0, none⟩) w.svs.length 1), (5, .slice none 0 0), (4, .int .i64 at'), (2, .pointer (some ⟨c, 0, none⟩)), (1, .pointer (some ⟨b, 0, none⟩))] E0) :
    ∃ E1 v h1, EnvLe [(5, v), (2, .pointer (some ⟨c, 0, none⟩)), (1, .pointer (some ⟨b, 0, none⟩))] E1 ∧ LRun Try.prog 44 false (loopN Try.f69 0) E0 h (.exit 0) E1 h1 ∧ RAt h1 o p q t { w with svs := w.svs.map (bgStep at') } ∧ OrdAt h1 h.length v (bgO at' 0 w.svs) ∧ Keep (fun x => x = p ∨ x = q) h h1 := by
  have n8 := hw.n8
  have hbl := get_lt hb
  have hpB := hB p (.inl (.inl rfl))
  have hqB := hB q (.inl (.inr (.inl rfl)))
  obtain ⟨x', E1, h1, hl1, rfl, v, q1, q2, q3, q4⟩ := loop_inv (P := Try.prog) (n := 44) (rd := false) (b := loopN Try.f69 0)
    (Q := fun x' E1 h1 => x' = .exit 0 ∧ ∃ v, EnvLe [(5, v), (2, .pointer (some ⟨c, 0, none⟩)), (1, .pointer (some ⟨b, 0, none⟩))] E1 ∧ RAt h1 o p q t { w with svs := w.svs.map (bgStep at') } ∧ OrdAt h1 h.length v (bgO at' 0 w.svs) ∧ Keep (fun x => x = p ∨ x = q) h h1)
    (fun m E g => ∃ k v, k ≤ w.svs.length ∧ m = w.svs.length - k ∧ EnvLe [(17, .int .i64 (k : Nat)), (16, .int .i64 (Int.ofNat w.svs.length)), (15, .slice (some ⟨p, 0, none⟩) w.svs.length 1), (5, v), (4, .int .i64 at'), (2, .pointer (some ⟨c, 0, none⟩)), (1, .pointer (some ⟨b, 0, none⟩))] E ∧
      RAt g o p q t { w with svs := (w.svs.take k).map (bgStep at') ++ w.svs.drop k } ∧ OrdAt g h.length v (bgO at' 0 (w.svs.take k)) ∧ Keep (fun x => x = p ∨ x = q) h g)
    (fun m E g ⟨k, v, k1, k2, k3, k4, k5, k6⟩ => by
      have hgb := k6.2 _ _ hb (by rintro (e | e) <;> omega)
      have hgB : B ≤ g.length := by have := k6.1; omega
      by_cases e : k = w.svs.length
      · right
        subst e
        obtain ⟨E2, q1, q2⟩ := pvC 0 k3 (v1p.gr_out w.svs.length p q b c 0 0 0 0 0 w.svs.length 0 0 at' 0 v [] [] [] [] g) ⟨ltF (by simp), trivial⟩
        refine ⟨_, E2, _, by simp, q2, rfl, v, .trans (.add (.add (.add (.nil _) rfl) rfl) rfl) q1, ?_, ?_, k6⟩
        · simpa [SH.den] using k4
        · simpa [SH.den] using k5
      · left
        obtain ⟨x, hx⟩ : ∃ x, w.svs[k]? = some x := ⟨_, List.getElem?_eq_getElem (by omega)⟩
        obtain ⟨f1, f2⟩ := front_step (bgStep at') hx
        have hst := k4.st
        have hat := k4.ats
        simp only [] at hst hat
        have c2 : (Asm.cmp .lss (k : Int) (Int.ofNat w.svs.length) true).holds Try.prog := ltT (by simp; omega)
        have c5 : (Asm.off k 0 (k : Int) w.svs.length 1).holds Try.prog := offI rfl (by omega) (by omega)
        have cinc : (Asm.arith .add .i64 (k : Int) 1 ((k + 1 : Nat) : Int)).holds Try.prog := inc (by omega)
        have lx : (Asm.ld1 (.is g) p k (.int .i64 x.state)).holds Try.prog := a_ld1 hst (stC_get f1)
        have hlen : ((w.svs.take k).map (bgStep at') ++ w.svs.drop k).length = w.svs.length := by simp; omega
        have hlen1 : ((w.svs.take (k + 1)).map (bgStep at') ++ w.svs.drop (k + 1)).length = w.svs.length := by simp; omega
        by_cases hs : x.state = 3
        · have hbs : bgStep at' x = ⟨x.when, 4, at'⟩ := by simp [bgStep, hs]
          rw [hbs] at f2
          have sp := st_put f1 { x with state := 4 }
          have sa := at_same (y := { x with state := 4 }) f1 rfl
          have f1' : (((w.svs.take k).map (bgStep at') ++ w.svs.drop k).set k { x with state := 4 })[k]? = some { x with state := 4 } := by rw [List.getElem?_set_self (get_lt' f1)]
          have sp2 := at_put f1' (⟨x.when, 4, at'⟩ : Sv)
          have sa2 := st_same (y := ⟨x.when, 4, at'⟩) f1' rfl
          rw [List.set_set, f2] at sp2 sa2
          let L' := (w.svs.take (k + 1)).map (bgStep at') ++ w.svs.drop (k + 1)
          have sst := a_st (P := Try.prog) (s := .is g) (i := p) (d := k) (l := [.int .i64 4]) (c' := stC L') hst (by rw [stC_len]; simp; omega) (by rw [sa2]; exact sp)
          have hg1 : ∀ {j y}, g[j]? = some y → j ≠ p → (g.set p (.cells (stC L') true))[j]? = some y := fun hj hn => get_set_ne hj (Ne.symm hn)
          have hgq := hg1 hat (Ne.symm a.ne)
          have sst2 := a_st (P := Try.prog) (s := .set (.is g) p (.cells (stC L') true)) (i := q) (d := k) (l := [.int .i64 at']) (c' := atC L') hgq (by rw [atC_len]; simp; omega) (by rw [← sa]; exact sp2)
          have l6 : (Asm.ld1 (.is g) b 6 (.slice (some ⟨p, 0, none⟩) w.svs.length 1)).holds Try.prog := a_ld1 hgb rfl
          have l7 : (Asm.ld1 (.set (.is g) p (.cells (stC L') true)) b 7 (.slice (some ⟨q, 0, none⟩) w.svs.length 1)).holds Try.prog := a_ld1 (hg1 hgb (by omega)) rfl
          have hord := bgO_app at' 0 (w.svs.take k) x
          have htl : (w.svs.take k).length = k := by simp; omega
          rw [if_pos hs, ← take_snoc hx, htl, Nat.zero_add] at hord
          rcases k5 with ⟨rfl, hnil⟩ | ⟨a', rfl, ho, hbo, hne⟩
          · obtain ⟨E2, q1, q2⟩ := pvC 0 k3 (v1p.gr_go0 w.svs.length p q b c k k k g.length (g.length + 1) k ((k + 1 : Nat) : Int) ((k + 1 : Nat) : Int) at' x.state (.slice none 0 0) [] [.int .i64 2, .int .i64 ((k + 1 : Nat) : Int), .int .i64 at'] (stC L') (atC L') g)
              ⟨c2, c5, lx, eqT hs, l6, c5, sst, l7, c5, sst2, cinc, by simp [Asm.holds, SH.den],
                ⟨rfl, ⟨_, cells_of (get_new' _ (by simp [SH.den])), by simp, rfl⟩, rfl, by omega, by omega, by simp [SH.den]⟩, cinc, trivial⟩
            have hK : Keep (fun x => x = p ∨ x = q ∨ g.length ≤ x) g ((((g.set p (.cells (stC L') true)).set q (.cells (atC L') true)) ++ [.cells [.int .i64 2, .int .i64 ((k + 1 : Nat) : Int), .int .i64 at'] true]) ++ [.cells [.int .i64 2, .int .i64 ((k + 1 : Nat) : Int), .int .i64 at'] true]) :=
              (((Keep.set (fp := fun x => x = p ∨ x = q ∨ g.length ≤ x) (.inl rfl) _).trans (Keep.set (.inr (.inl rfl)) _)).trans (Keep.push _ _ _)).trans (Keep.push _ _ _)
            refine ⟨w.svs.length - (k + 1), E2, _, by omega, q2, k + 1, _, by omega, rfl, .trans (.add (.add (.add (.add (.add (.add (.add (.nil _) rfl) rfl) rfl) rfl) rfl) rfl) rfl) q1, ?_, ?_, ?_⟩
            · refine k4.putK (B := B) hK (fun x hx e => ?_) hB (get_push (get_push (get_set_ne (get_set_eq hst) (Ne.symm a.ne)))) (get_push (get_push (get_set_eq hgq))) (by rw [bgk_whens, bgk_whens])
              rcases e with e | e | e
              · exact .inl e
              · exact .inr (.inl e)
              · omega
            · right
              refine ⟨g.length + 1, ?_, ?_, by have := k6.1; omega, by rw [hord]; simp⟩
              · rw [hord, hnil]; rfl
              · rw [hord, hnil]; exact get_new' _ (by simp [SH.den])
            · refine k6.trans_new hK (fun x hx e => ?_)
              rcases e with e | e | e
              · exact .inl e
              · exact .inr e
              · have := k6.1; omega
          · have hlo := svC_len (bgO at' 0 (w.svs.take k))
            have hno : (bgO at' 0 (w.svs.take k)).length ≤ 8 := by have := bgO_len at' 0 (w.svs.take k); simp at this; omega
            have nop : a' ≠ p := by omega
            have noq : a' ≠ q := by omega
            have hcs : (svC (bgO at' 0 (w.svs.take k))).take ((bgO at' 0 (w.svs.take k)).length * 3) ++ [.int .i64 2, .int .i64 ((k + 1 : Nat) : Int), .int .i64 at'] = svC (bgO at' 0 (w.svs.take (k + 1))) := by
              rw [hord, svC_app, List.take_of_length_le (by omega)]; rfl
            obtain ⟨E2, q1, q2⟩ := pvC 0 k3 (v1p.gr_go1 w.svs.length p q b c k k k g.length (g.length + 1) k ((k + 1 : Nat) : Int) ((k + 1 : Nat) : Int) at' x.state (.slice none 0 0) (svC (bgO at' 0 (w.svs.take (k + 1)))) [.int .i64 2, .int .i64 ((k + 1 : Nat) : Int), .int .i64 at'] (stC L') (atC L') g a' (bgO at' 0 (w.svs.take k)).length)
              ⟨c2, c5, lx, eqT hs, l6, c5, sst, l7, c5, sst2, cinc, by simp [Asm.holds, SH.den],
                ⟨rfl, ⟨_, cells_of (get_new' _ (by simp [SH.den])), by simp, rfl⟩, rfl, by omega, by omega, ⟨_, own_of (get_push (get_set_ne (get_set_ne ho (Ne.symm nop)) (Ne.symm noq))), by omega, hcs⟩, by simp [SH.den]⟩, cinc, trivial⟩
            have hK : Keep (fun x => x = p ∨ x = q ∨ h.length ≤ x) g (((((g.set p (.cells (stC L') true)).set q (.cells (atC L') true)) ++ [AObj.cells [.int .i64 2, .int .i64 ((k + 1 : Nat) : Int), .int .i64 at'] true]).set a' .dead) ++ [.cells (svC (bgO at' 0 (w.svs.take (k + 1)))) true]) :=
              ((((Keep.set (fp := fun x => x = p ∨ x = q ∨ h.length ≤ x) (.inl rfl) _).trans (Keep.set (.inr (.inl rfl)) _)).trans (Keep.push _ _ _)).trans (Keep.set (.inr (.inr hbo)) _)).trans (Keep.push _ _ _)
            refine ⟨w.svs.length - (k + 1), E2, _, by omega, q2, k + 1, _, by omega, rfl, .trans (.add (.add (.add (.add (.add (.add (.add (.nil _) rfl) rfl) rfl) rfl) rfl) rfl) rfl) q1, ?_, ?_, ?_⟩
            · refine k4.putK (B := B) hK (fun x hx e => ?_) hB (get_push (get_set_ne (get_push (get_set_ne (get_set_eq hst) (Ne.symm a.ne))) nop)) (get_push (get_set_ne (get_push (get_set_eq hgq)) noq)) (by rw [bgk_whens, bgk_whens])
              rcases e with e | e | e
              · exact .inl e
              · exact .inr (.inl e)
              · exact .inr (.inr (by omega))
            · right
              refine ⟨g.length + 1, ?_, ?_, by have := k6.1; omega, by rw [hord]; simp⟩
              · rw [hord]; simp
              · exact get_new' _ (by simp [SH.den])
            · refine k6.trans_new hK (fun x hx e => ?_)
              rcases e with e | e | e
              · exact .inl e
              · exact .inr e
              · omega
        · have hbs : bgStep at' x = x := by simp [bgStep, hs]
          rw [hbs, set_same f1] at f2
          obtain ⟨E2, q1, q2⟩ := pvC 0 k3 (v1p.gr_not w.svs.length p q b c k 0 0 0 0 k ((k + 1 : Nat) : Int) 0 at' x.state v [] [] [] [] g) ⟨c2, c5, lx, eqF hs, cinc, trivial⟩
          refine ⟨w.svs.length - (k + 1), E2, _, by omega, q2, k + 1, v, by omega, rfl, .trans (.add (.add (.add (.add (.add (.add (.add (.nil _) rfl) rfl) rfl) rfl) rfl) rfl) rfl) q1, ?_, ?_, k6⟩
          · rw [← f2]; exact k4
          · rw [take_snoc hx, bgO_app, if_neg hs, List.append_nil]; exact k5)
    w.svs.length E0 h ⟨0, .slice none 0 0, by omega, rfl, hE, by simpa using a, .inl ⟨rfl, rfl⟩, .refl _ _⟩
  exact ⟨E1, v, h1, q1, hl1, q2, q3, q4⟩

def groupF (w : WS) : WS × List Sv := ({ w with delay := 0, svs := w.svs.map (bgStep (atOf w)) }, bgO (atOf w) 0 w.svs)
theorem groupR_run (a : RAt h o p q t w) (hw : WOk w) :
    ∃ v h', Run Try.prog 69 [.agg (rC o p q t w).toArray] h (.tuple #[.agg (rC o p q t (groupF w).1).toArray, v]) h' ∧ RAt h' o p q t (groupF w).1 ∧ OrdAt h' h.length v (groupF w).2 ∧ Keep (fun x => x = p ∨ x = q) h h' := by
  have n8 := hw.n8
  have n1 := hw.n1
  have hd := hw.delay
  have hnow := hw.now
  have hB : ∀ x, (fpR p q t x ∨ x = o) → x < h.length := fun x e => by
    rcases e with e | e
    · exact a.lts x e
    · rw [e]; exact a.olt
  have hp := hB p (.inl (.inl rfl))
  have hq := hB q (.inl (.inr (.inl rfl)))
  have gb : (h ++ [AObj.cells (rC o p q t w) true] ++ [zR])[h.length]? = some (.cells (rC o p q t w) true) := get_push (get_new h _)
  have gc : (h ++ [AObj.cells (rC o p q t w) true] ++ [zR])[h.length + 1]? = some zR := get_new' _ (by simp)
  obtain ⟨E1, v, h1, e1, l1, b1, b2, b3⟩ := group_loop (c := h.length + 1) (at' := atOf w) ((a.push (.cells (rC o p q t w) true)).push zR) hw gb hB (Nat.le_refl _) (EnvLe.refl _)
  have gb1 := b3.2 _ _ gb (by rintro (e | e) <;> omega)
  have gc1 := b3.2 _ _ gc (by rintro (e | e) <;> omega)
  have hle : h.length + 2 ≤ h1.length := by have := b3.1; simp at this; omega
  have hrc : rC o p q t (groupF w).1 = rC o p q t { w with delay := 0 } := by simp [rC, groupF]
  let HF : Hp := (h1.set h.length (.cells (rC o p q t { w with delay := 0 }) true)).set (h.length + 1) (.cells (rC o p q t { w with delay := 0 }) true)
  have K1 : Keep (fun x => x = p ∨ x = q) h h1 := ((Keep.push _ _ _).trans (Keep.push _ _ _)).trans b3
  have K2 : Keep (fun x => h.length ≤ x ∧ x < h.length + 2) h1 HF := (Keep.set (fp := fun x => h.length ≤ x ∧ x < h.length + 2) (by omega) _).trans (Keep.set (by omega) _)
  have KF : Keep (fun x => x = p ∨ x = q) h HF := K1.trans_new K2 (fun x hx e => by omega)
  have gb2 : (h1.set h.length (.cells (rC o p q t { w with delay := 0 }) true))[h.length]? = some (.cells (rC o p q t { w with delay := 0 }) true) := get_set_eq gb1
  have gc2 : (h1.set h.length (.cells (rC o p q t { w with delay := 0 }) true))[h.length + 1]? = some zR := get_set_ne gc1 (by omega)
  have b1' : RAt h1 o p q t (groupF w).1 := b1.same rfl rfl
  refine ⟨v, HF, ?_, b1'.keep K2 (fun x hx e => ?_), ?_, KF⟩
  · rw [hrc]
    refine pvF 0 Try.func69 (v1p.gr w.rule w.most w.within w.base w.cap w.now w.delay o p q w.svs.length (tvA t) (tvL t w.times.length) (tvZ t) w.given h.length (h.length + 1) (w.now + w.delay) (atOf w) v (rC o p q t { w with delay := 0 }) (rC o p q t { w with delay := 0 }) [] [] h h1)
      ⟨rfl, by simp [Asm.holds, SH.den], a_ld1 gb rfl, a_ld1 gb rfl, addI rfl (by omega) (by omega), ?_, a_ld1 gb rfl, a_loop (by kernel_rfl) (.add (.add (.add (.add (.add (.add (.add (.nil _) rfl) rfl) rfl) rfl) rfl) rfl) rfl) e1 l1,
        a_st gb1 (by simp [rC]) rfl, a_ldn gb2 (by simp [rC]) (by simp [rC]; try rfl), a_st gc2 (by simp) (by simp [rC]; try rfl), a_ldn (get_set_eq gc2) (by simp [rC]) (by simp [rC]; try rfl), trivial⟩
    refine .inr ⟨rfl, ?_⟩
    unfold atOf
    split <;> split <;> omega
  · have := a.lts
    refine ⟨fun r => ?_, ?_⟩
    · have := a.lts x r; omega
    · have := a.olt; omega
  · rcases b2 with e | ⟨a', e1, e2, e3, e4⟩
    · exact .inl e
    · simp at e3
      exact .inr ⟨a', e1, get_set_ne (get_set_ne e2 (by omega)) (by omega), by omega, e4⟩

end Go.Proofs.Ytkkhokgpcifckaa.rf

namespace Go.Proofs.Ytkkhokgpcifckaa.rf
open Go Go.Ev Go.Proofs.Ytkkhokgpcifckaa.wd
set_option maxRecDepth 100000
set_option linter.constructorNameAsVariable false
set_option linter.unusedVariables false

variable {h h' g g' : Hp} {o p q : Nat} {t : Option Nat} {w : WS}

/-! ### giveUp -/
theorem gv_when (k : Nat) (x : Sv) : (gvStep k x).when = x.when := by simp only [gvStep]; split <;> rfl
theorem mL_whens {f : Nat → Sv → Sv} (hf : ∀ k x, (f k x).when = x.when) (l : List Sv) (k : Nat) : (mL f l k).map Sv.when = l.map Sv.when := by
  rw [mL, List.map_append, mS_whens hf, ← List.map_append, List.take_append_drop]
theorem gave_loop {B b c : Nat} {i : Int} {vb : List Value} (a : RAt h o p q t w) (hw : WOk w) (hb : h[b]? = some (.cells (rC o p q t w) true)) (hB : ∀ x, (fpR p q t x ∨ x = o) → x < B) (hbB : B ≤ b) {E0 : Env}
    (hE : EnvLe [(19, .int .i64 0), (18, .int .i64 (Int.ofNat w.svs.length)), (17, .slice (some ⟨p, 0, none⟩) w.svs.length 1), (4, .pointer (some ⟨c, 0, none⟩)), (2, .pointer (some ⟨b, 0, none⟩)), (1, .int .i64 i)] E0) :
    ∃ E1 h1, EnvLe [(4, .pointer (some ⟨c, 0, none⟩)), (2, .pointer (some ⟨b, 0, none⟩)), (1, .int .i64 i)] E1 ∧ LRun Try.prog 52 false (loopN Try.f73 0) E0 h (.exit 0) E1 h1 ∧ RAt h1 o p q t { w with svs := mS gvStep 0 w.svs } ∧ Keep (fun x => x = p ∨ x = q) h h1 := by
  have n8 := hw.n8
  have hbl := get_lt hb
  have hpB := hB p (.inl (.inl rfl))
  have hqB := hB q (.inl (.inr (.inl rfl)))
  obtain ⟨x', E1, h1, hl1, rfl, q1, q2, q4⟩ := loop_inv (P := Try.prog) (n := 52) (rd := false) (b := loopN Try.f73 0)
    (Q := fun x' E1 h1 => x' = .exit 0 ∧ EnvLe [(4, .pointer (some ⟨c, 0, none⟩)), (2, .pointer (some ⟨b, 0, none⟩)), (1, .int .i64 i)] E1 ∧ RAt h1 o p q t { w with svs := mS gvStep 0 w.svs } ∧ Keep (fun x => x = p ∨ x = q) h h1)
    (fun m E g => ∃ k, k ≤ w.svs.length ∧ m = w.svs.length - k ∧ EnvLe [(19, .int .i64 (k : Nat)), (18, .int .i64 (Int.ofNat w.svs.length)), (17, .slice (some ⟨p, 0, none⟩) w.svs.length 1), (4, .pointer (some ⟨c, 0, none⟩)), (2, .pointer (some ⟨b, 0, none⟩)), (1, .int .i64 i)] E ∧
      RAt g o p q t { w with svs := mL gvStep w.svs k } ∧ Keep (fun x => x = p ∨ x = q) h g)
    (fun m E g ⟨k, k1, k2, k3, k4, k6⟩ => by
      have hgb := k6.2 _ _ hb (by rintro (e | e) <;> omega)
      have hgB : B ≤ g.length := by have := k6.1; omega
      by_cases e : k = w.svs.length
      · right
        subst e
        obtain ⟨E2, q1, q2⟩ := pvC 0 k3 (v1p.gl_out w.svs.length p q b c 0 w.svs.length 0 i 0 [] [] g) ⟨ltF (by simp), trivial⟩
        refine ⟨_, E2, _, by simp, q2, rfl, .trans (.add (.add (.add (.nil _) rfl) rfl) rfl) q1, ?_, k6⟩
        have : mL gvStep w.svs w.svs.length = mS gvStep 0 w.svs := by simp [mL]
        rw [this] at k4; exact k4
      · left
        obtain ⟨x, hx⟩ : ∃ x, w.svs[k]? = some x := ⟨_, List.getElem?_eq_getElem (by omega)⟩
        obtain ⟨f1, f2⟩ := mL_step gvStep hx
        have hst := k4.st
        have hat := k4.ats
        simp only [] at hst hat
        have c2 : (Asm.cmp .lss (k : Int) (Int.ofNat w.svs.length) true).holds Try.prog := ltT (by simp; omega)
        have c5 : (Asm.off k 0 (k : Int) w.svs.length 1).holds Try.prog := offI rfl (by omega) (by omega)
        have cinc : (Asm.arith .add .i64 (k : Int) 1 ((k + 1 : Nat) : Int)).holds Try.prog := inc (by omega)
        have lx : (Asm.ld1 (.is g) p k (.int .i64 x.state)).holds Try.prog := a_ld1 hst (stC_get f1)
        have hlen := mL_len gvStep w.svs k
        have nxt : ∀ {E2 : Env} {g2 : Hp}, RAt g2 o p q t { w with svs := mL gvStep w.svs (k + 1) } → Keep (fun x => x = p ∨ x = q) h g2 → EnvLe [(19, .int .i64 ((k + 1 : Nat) : Int)), (18, .int .i64 (Int.ofNat w.svs.length)), (17, .slice (some ⟨p, 0, none⟩) w.svs.length 1), (4, .pointer (some ⟨c, 0, none⟩)), (2, .pointer (some ⟨b, 0, none⟩)), (1, .int .i64 i)] E2 → CRun Try.prog 52 false (loopN Try.f73 0) E g .normal E2 g2 →
            ∃ m' E1 h1, m' < m ∧ CRun Try.prog 52 false (loopN Try.f73 0) E g .normal E1 h1 ∧ ∃ k, k ≤ w.svs.length ∧ m' = w.svs.length - k ∧ EnvLe [(19, .int .i64 (k : Nat)), (18, .int .i64 (Int.ofNat w.svs.length)), (17, .slice (some ⟨p, 0, none⟩) w.svs.length 1), (4, .pointer (some ⟨c, 0, none⟩)), (2, .pointer (some ⟨b, 0, none⟩)), (1, .int .i64 i)] E1 ∧
      RAt h1 o p q t { w with svs := mL gvStep w.svs k } ∧ Keep (fun x => x = p ∨ x = q) h h1 := fun a1 a2 a3 a4 => ⟨w.svs.length - (k + 1), _, _, by omega, a4, k + 1, by omega, rfl, a3, a1, a2⟩
        by_cases hs : x.state = 3 ∨ x.state = 4
        · have hbs : gvStep k x = ⟨x.when, 5, 0⟩ := by simp [gvStep, hs]
          rw [hbs] at f2
          have sp := st_put f1 { x with state := 5 }
          have sa := at_same (y := { x with state := 5 }) f1 rfl
          have f1' : ((mL gvStep w.svs k).set k { x with state := 5 })[k]? = some { x with state := 5 } := by rw [List.getElem?_set_self (get_lt' f1)]
          have sp2 := at_put f1' (⟨x.when, 5, 0⟩ : Sv)
          have sa2 := st_same (y := ⟨x.when, 5, 0⟩) f1' rfl
          rw [List.set_set, f2] at sp2 sa2
          let L' := mL gvStep w.svs (k + 1)
          have sst := a_st (P := Try.prog) (s := .is g) (i := p) (d := k) (l := [.int .i64 5]) (c' := stC L') hst (by rw [stC_len]; simp; omega) (by rw [sa2]; exact sp)
          have hg1 : ∀ {j y}, g[j]? = some y → j ≠ p → (g.set p (.cells (stC L') true))[j]? = some y := fun hj hn => get_set_ne hj (Ne.symm hn)
          have hgq := hg1 hat (Ne.symm a.ne)
          have sst2 := a_st (P := Try.prog) (s := .set (.is g) p (.cells (stC L') true)) (i := q) (d := k) (l := [.int .i64 0]) (c' := atC L') hgq (by rw [atC_len]; simp; omega) (by rw [← sa]; exact sp2)
          have l6 : (Asm.ld1 (.is g) b 6 (.slice (some ⟨p, 0, none⟩) w.svs.length 1)).holds Try.prog := a_ld1 hgb rfl
          have l7 : (Asm.ld1 (.set (.is g) p (.cells (stC L') true)) b 7 (.slice (some ⟨q, 0, none⟩) w.svs.length 1)).holds Try.prog := a_ld1 (hg1 hgb (by omega)) rfl
          have hK : Keep (fun x => x = p ∨ x = q) g ((g.set p (.cells (stC L') true)).set q (.cells (atC L') true)) := (Keep.set (fp := fun x => x = p ∨ x = q) (.inl rfl) _).trans (Keep.set (.inr rfl) _)
          have aN : RAt ((g.set p (.cells (stC L') true)).set q (.cells (atC L') true)) o p q t { w with svs := L' } :=
            k4.putK (B := B) hK (fun x hx e => by rcases e with e | e; exact .inl e; exact .inr (.inl e)) hB (get_set_ne (get_set_eq hst) (Ne.symm a.ne)) (get_set_eq hgq) (by rw [mL_whens gv_when, mL_whens gv_when])
          by_cases h3 : x.state = 3
          · obtain ⟨E2, q1, q2⟩ := pvC 0 k3 (v1p.gl_3 w.svs.length p q b c k k ((k + 1 : Nat) : Int) i x.state (stC L') (atC L') g) ⟨c2, c5, lx, eqT h3, l6, c5, sst, l7, c5, sst2, cinc, trivial⟩
            exact nxt aN (k6.trans hK) (.trans (.add (.add (.add (.add (.add (.add (.nil _) rfl) rfl) rfl) rfl) rfl) rfl) q1) q2
          · obtain ⟨E2, q1, q2⟩ := pvC 0 k3 (v1p.gl_4 w.svs.length p q b c k k ((k + 1 : Nat) : Int) i x.state (stC L') (atC L') g) ⟨c2, c5, lx, eqF h3, eqT (by omega), l6, c5, sst, l7, c5, sst2, cinc, trivial⟩
            exact nxt aN (k6.trans hK) (.trans (.add (.add (.add (.add (.add (.add (.nil _) rfl) rfl) rfl) rfl) rfl) rfl) q1) q2
        · have hbs : gvStep k x = x := by simp [gvStep, hs]
          rw [hbs, set_same f1] at f2
          obtain ⟨E2, q1, q2⟩ := pvC 0 k3 (v1p.gl_not w.svs.length p q b c k k ((k + 1 : Nat) : Int) i x.state [] [] g) ⟨c2, c5, lx, eqF (by omega), eqF (by omega), cinc, trivial⟩
          exact nxt (by rw [← f2]; exact k4) k6 (.trans (.add (.add (.add (.add (.add (.add (.nil _) rfl) rfl) rfl) rfl) rfl) rfl) q1) q2)
    w.svs.length E0 h ⟨0, by omega, rfl, hE, by simpa [mL, mS] using a, .refl _ _⟩
  exact ⟨E1, h1, q1, hl1, q2, q4⟩

theorem stO_congr {P Q : Nat → Bool} : ∀ (n : Nat) (l : List Sv), (∀ (k : Nat) x, l[k]? = some x → x.state = 1 → P (n + k) = Q (n + k)) → stO P n l = stO Q n l
  | n, [], _ => rfl
  | n, x :: l, hk => by
    have h0 := hk 0 x rfl
    have ih := stO_congr (P := P) (Q := Q) (n + 1) l fun k y hy e => by
      have := hk (k + 1) y (by simpa using hy) e
      rw [show n + 1 + k = n + (k + 1) by omega]; exact this
    simp only [stO, ih]
    by_cases h1 : x.state = 1
    · have := h0 h1
      simp only [Nat.add_zero] at this
      rw [this]
    · simp [h1]
theorem gave_get {w : WS} {n : Int} {k : Nat} {x : Sv} (hx : (gave w n).svs[k]? = some x) : (x.state ≠ 3 ∧ x.state ≠ 4) ∧ (k = (n - 1).toNat → x.state = 5) := by
  simp only [gave] at hx
  rw [mS_get, setSt_get] at hx
  cases e : w.svs[k]? with
  | none => rw [e] at hx; simp at hx
  | some y =>
    rw [e] at hx
    simp only [Option.map_some, Option.some.injEq] at hx
    subst hx
    by_cases hk : k = (n - 1).toNat
    · rw [if_pos hk]
      simp [gvStep]
    · rw [if_neg hk]
      simp only [gvStep]
      split
      · simp [hk]
      · rename_i hn
        exact ⟨⟨fun e => hn (.inl e), fun e => hn (.inr e)⟩, fun e => absurd e hk⟩
theorem gave_len (w : WS) (n : Int) : (gave w n).svs.length = w.svs.length := by simp [gave, mS_len, setSt_len]
theorem spP1 {n : Int} {k : Nat} (hk : (k : Int) ≠ n - 1) : spP 1 n k = true := by
  simp [spP, hk]
theorem stops_gave {w : WS} {n : Int} (hn : 1 ≤ n) : stopsF (gave w n) 1 n = (giveUpF w n).1 ∧ ⟨3, 0, 0⟩ :: stO (spP 1 n) 0 (gave w n).svs = (giveUpF w n).2 := by
  refine ⟨?_, ?_⟩
  · have : mS (spS (spP 1 n)) 0 (gave w n).svs = stS (fun _ => true) 0 (gave w n).svs := by
      refine List.ext_getElem? fun k => ?_
      rw [mS_get, stS_get]
      cases e : (gave w n).svs[k]? with
      | none => rfl
      | some x =>
        obtain ⟨⟨h3, h4⟩, h5⟩ := gave_get e
        simp only [Option.map_some, Option.some.injEq, Nat.zero_add]
        by_cases hk : (k : Int) = n - 1
        · have : x.state = 5 := h5 (by omega)
          rw [spS_not (by omega) h4]; simp [stStep, this]
        · by_cases h1 : x.state = 1
          · rw [spS_run (spP1 hk) h1]; simp [stStep, h1]
          · rw [spS_not h1 h4]; simp [stStep, h1]
    simp only [stopsF, giveUpF, stopped, this]
  · simp only [giveUpF]
    rw [stO_congr (Q := fun _ => true) 0 _ fun k x hx h1 => ?_]
    have := (gave_get hx).2
    rw [Nat.zero_add]
    exact spP1 (fun e => by have := this (by omega); omega)

theorem giveUpR_run (a : RAt h o p q t w) (hw : WOk w) {n : Int} (hn : 1 ≤ n ∧ n ≤ w.svs.length) :
    ∃ v h', Run Try.prog 73 [.agg (rC o p q t w).toArray, .int .i64 n] h (.tuple #[.agg (rC o p q t (giveUpF w n).1).toArray, v]) h' ∧ RAt h' o p q t (giveUpF w n).1 ∧ OrdAt h' h.length v (giveUpF w n).2 ∧ Keep (fun x => x = p ∨ x = q) h h' := by
  have n8 := hw.n8
  have hB : ∀ x, (fpR p q t x ∨ x = o) → x < h.length := fun x e => by
    rcases e with e | e
    · exact a.lts x e
    · rw [e]; exact a.olt
  have hp := hB p (.inl (.inl rfl))
  have hq := hB q (.inl (.inr (.inl rfl)))
  have hol := hB o (.inr rfl)
  obtain ⟨x, hx⟩ : ∃ x, w.svs[(n - 1).toNat]? = some x := ⟨_, List.getElem?_eq_getElem (by omega)⟩
  have hss : setSt w.svs n 5 = w.svs.set (n - 1).toNat { x with state := 5 } := by simp only [setSt, hx]
  have gb : (h ++ [AObj.cells (rC o p q t w) true] ++ [zR])[h.length]? = some (.cells (rC o p q t w) true) := get_push (get_new h _)
  have gc : (h ++ [AObj.cells (rC o p q t w) true] ++ [zR])[h.length + 1]? = some zR := get_new' _ (by simp)
  have a2 := (a.push (.cells (rC o p q t w) true)).push zR
  let wg : WS := { w with given := true }
  let R := rC o p q t wg
  let H1 : Hp := (h ++ [AObj.cells (rC o p q t w) true] ++ [zR]).set h.length (.cells R true)
  have gb1 : H1[h.length]? = some (.cells R true) := get_set_eq gb
  have gc1 : H1[h.length + 1]? = some zR := get_set_ne gc (by omega)
  have gp1 : H1[p]? = some (.cells (stC w.svs) true) := get_set_ne a2.st (by omega)
  let H2 : Hp := H1.set p (.cells (stC (setSt w.svs n 5)) true)
  have gb2 : H2[h.length]? = some (.cells R true) := get_set_ne gb1 (by omega)
  have gc2 : H2[h.length + 1]? = some zR := get_set_ne gc1 (by omega)
  have sp := st_put hx { x with state := 5 }
  rw [← hss] at sp
  have aw : atC (setSt w.svs n 5) = atC w.svs := by rw [hss]; exact at_same hx rfl
  have K02 : Keep (fun x => x = p ∨ h.length ≤ x) h H2 := (((Keep.push (fun x => x = p ∨ h.length ≤ x) _ _).trans (Keep.push _ _ _)).trans (Keep.set (.inr (Nat.le_refl _)) _)).trans (Keep.set (.inl rfl) _)
  have hwh5 : (setSt w.svs n 5).map Sv.when = w.svs.map Sv.when := by rw [hss]; exact map_set_same _ hx rfl
  have a5 : RAt H2 o p q t { w with svs := setSt w.svs n 5 } := a.put K02 (fun x hx e => by rcases e with e | e; exact .inl e; omega) (get_set_eq gp1) (by rw [aw]; exact get_set_ne (get_set_ne a2.ats (by omega)) a.ne) hwh5
  have hl5 := setSt_len w.svs n 5
  let w5 : WS := { wg with svs := setSt w.svs n 5 }
  have a5' : RAt H2 o p q t w5 := a5.same rfl rfl
  have hw5 : WOk w5 := by
    have := hw.svs hl5
    exact ⟨this.n1, this.n8, this.most, this.within, this.base, this.cap, this.now, this.delay, this.times, this.rule⟩
  have hR5 : R = rC o p q t w5 := (rC_svs (w := wg) hl5).symm
  have gb2' : H2[h.length]? = some (.cells (rC o p q t w5) true) := by rw [← hR5]; exact gb2
  obtain ⟨E1, h1, e1, l1, b1, b3⟩ := gave_loop (c := h.length + 1) (i := n) (vb := []) a5' hw5 gb2' hB (Nat.le_refl _) (EnvLe.refl _)
  have hgv : ({ w5 with svs := mS gvStep 0 w5.svs } : WS) = gave w n := rfl
  rw [hgv] at b1
  have hw6 : WOk (gave w n) := by
    have := hw.svs (gave_len w n)
    exact ⟨this.n1, this.n8, this.most, this.within, this.base, this.cap, this.now, this.delay, this.times, this.rule⟩
  have hR6 : rC o p q t (gave w n) = R := rC_svs (w := wg) (gave_len w n)
  have gb3 := b3.2 _ _ gb2 (by rintro (e | e) <;> omega)
  have gc3 := b3.2 _ _ gc2 (by rintro (e | e) <;> omega)
  obtain ⟨v, h2, r2, d1, d2, d3⟩ := stops_run b1 hw6 (fr := 1) (n := n) ⟨by omega, by omega⟩ ⟨by omega, by omega⟩
  obtain ⟨s1, s2⟩ := stops_gave (w := w) hn.1
  rw [s1] at r2 d1
  have hR7 : rC o p q t (giveUpF w n).1 = R := by
    rw [← s1]; exact (rC_svs (w := gave w n) (by rw [mS_len])).trans hR6
  rw [hR6, hR7] at r2
  rw [hR7]
  have gb4 := d3.2 _ _ gb3 (by rintro (e | e) <;> omega)
  have gc4 := d3.2 _ _ gc3 (by rintro (e | e) <;> omega)
  let H3 : Hp := h2.set h.length (.cells R true)
  let H4 : Hp := H3 ++ [.cells [.int .i64 3, .int .i64 0, .int .i64 0] true]
  have gb5 : H3[h.length]? = some (.cells R true) := get_set_eq gb4
  have gc5 : H3[h.length + 1]? = some zR := get_set_ne gc4 (by omega)
  have gb6 : H4[h.length]? = some (.cells R true) := get_push gb5
  have gc6 : H4[h.length + 1]? = some zR := get_push gc5
  have hl2 : h.length + 2 ≤ h1.length := by have := get_lt gc3; omega
  have hl3 : h1.length ≤ h2.length := d3.1
  have hH3 : H3.length = h2.length := by simp [H3]
  have K12 : Keep (fun x => x = p ∨ x = q ∨ h.length ≤ x) h h2 := ((K02.mono fun x _ e => by rcases e with e | e; exact .inl e; exact .inr (.inr e)).trans (b3.mono fun x _ e => by rcases e with e | e; exact .inl e; exact .inr (.inl e))).trans (d3.mono fun x _ e => by rcases e with e | e; exact .inl e; exact .inr (.inl e))
  have KF : ∀ {HF : Hp}, Keep (fun x => h.length ≤ x) h2 HF → Keep (fun x => x = p ∨ x = q) h HF := fun k => (K12.trans (k.mono fun x _ e => .inr (.inr e))).mono fun x hx e => by
    rcases e with e | e | e
    · exact .inl e
    · exact .inr e
    · omega
  have aF : ∀ {HF : Hp}, Keep (fun x => h.length ≤ x) h2 HF → RAt HF o p q t (giveUpF w n).1 := fun k => d1.keep k fun x hx e => ⟨fun r => by have := hB x (.inl r); omega, by omega⟩
  have ha1 : (Asm.st (.push (.push (.is h) (.cells (rC o p q t w) true)) zR) h.length 11 [.bool true] R).holds Try.prog := a_st gb (by simp [rC]) rfl
  have ha2 : (Asm.st (.set (.push (.push (.is h) (.cells (rC o p q t w) true)) zR) h.length (.cells R true)) p (n - 1).toNat [.int .i64 5] (stC (setSt w.svs n 5))).holds Try.prog := a_st gp1 (by rw [stC_len]; simp; omega) sp
  have lenR : R.length = 12 := by simp [R, rC]
  have n5 : (w5.svs.length) = w.svs.length := hl5
  rw [n5] at l1
  rcases d2 with ⟨rfl, hnil⟩ | ⟨a', rfl, ho, hbo, hne⟩
  · refine ⟨.slice (some ⟨h2.length, 0, none⟩) 1 3, H4.set (h.length + 1) (.cells R true), ?_, ?_, ?_, ?_⟩
    · exact pvF 0 Try.func73 (v1p.gu0 w.rule w.most w.within w.base w.cap w.now w.delay o p q w.svs.length (tvA t) (tvL t w.times.length) (tvZ t) w.given h.length (h.length + 1) (n - 1).toNat h2.length n (n - 1) R (stC (setSt w.svs n 5)) R R [] 0 0 h h1 h2)
        ⟨rfl, by simp [Asm.holds, SH.den], ha1, a_ld1 gb1 rfl, subI rfl (by omega) (by omega), offI (q := (n - 1).toNat) (by omega) (by omega) (by omega), ha2, a_ld1 gb2 rfl,
          a_loop (by kernel_rfl) (.add (.add (.add (.add (.add (.add (.nil _) rfl) rfl) rfl) rfl) rfl) rfl) e1 l1, a_ldn gb3 (by omega) (by rfl), r2, a_st gb4 (by simp [R, rC]) (by rfl), by simp [Asm.holds, SH.den], a_ldn gb6 (by omega) (by rfl), a_st gc6 (by simp) (by rfl), a_ldn (get_set_eq gc6) (by omega) (by rfl), trivial⟩
    · exact aF (((Keep.set (fp := fun x => h.length ≤ x) (Nat.le_refl _) _).trans (Keep.push _ _ _)).trans (Keep.set (by omega) _))
    · rw [← s2, hnil]
      exact .inr ⟨_, rfl, get_set_ne (get_new' _ (by simp [H3])) (by omega), by omega, by simp⟩
    · exact KF (((Keep.set (fp := fun x => h.length ≤ x) (Nat.le_refl _) _).trans (Keep.push _ _ _)).trans (Keep.set (by omega) _))
  · have hno := stO_len (spP 1 n) 0 (gave w n).svs
    rw [gave_len] at hno
    have hap := a_app3 (P := Try.prog) (s := .push (.set (.is h2) h.length (.cells R true)) (.cells [.int .i64 3, .int .i64 0, .int .i64 0] true)) (o1 := h2.length) (o2 := a') (d := h2.length + 1) (l1 := [⟨3, 0, 0⟩]) (l2 := stO (spP 1 n) 0 (gave w n).svs)
      (get_new' _ (by simp [SH.den])) (get_push (get_set_ne ho (by omega))) hne (by simp; omega) (by simp [SH.den])
    have ha' := get_lt ho
    let H5 : Hp := (H4.set h2.length .dead) ++ [.cells (svC ([⟨3, 0, 0⟩] ++ stO (spP 1 n) 0 (gave w n).svs)) true]
    have gb7 : H5[h.length]? = some (.cells R true) := get_push (get_set_ne gb6 (by omega))
    have gc7 : H5[h.length + 1]? = some zR := get_push (get_set_ne gc6 (by omega))
    have KK : Keep (fun x => h.length ≤ x) h2 (H5.set (h.length + 1) (.cells R true)) := ((((Keep.set (fp := fun x => h.length ≤ x) (Nat.le_refl _) _).trans (Keep.push _ _ _)).trans (Keep.set (by omega) _)).trans (Keep.push _ _ _)).trans (Keep.set (by omega) _)
    refine ⟨.slice (some ⟨h2.length + 1, 0, none⟩) (1 + (stO (spP 1 n) 0 (gave w n).svs).length) 3, H5.set (h.length + 1) (.cells R true), ?_, aF KK, ?_, KF KK⟩
    · exact pvF 0 Try.func73 (v1p.gu1 w.rule w.most w.within w.base w.cap w.now w.delay o p q w.svs.length (tvA t) (tvL t w.times.length) (tvZ t) w.given h.length (h.length + 1) (n - 1).toNat h2.length n (n - 1) R (stC (setSt w.svs n 5)) R R [] 0 0 h h1 h2 a' (stO (spP 1 n) 0 (gave w n).svs).length ((stO (spP 1 n) 0 (gave w n).svs).length - 1) (h2.length + 1) _ _)
        ⟨rfl, by simp [Asm.holds, SH.den], ha1, a_ld1 gb1 rfl, subI rfl (by omega) (by omega), offI (q := (n - 1).toNat) (by omega) (by omega) (by omega), ha2, a_ld1 gb2 rfl,
          a_loop (by kernel_rfl) (.add (.add (.add (.add (.add (.add (.nil _) rfl) rfl) rfl) rfl) rfl) rfl) e1 l1, a_ldn gb3 (by omega) (by rfl), r2, a_st gb4 (by simp [R, rC]) (by rfl), by simp [Asm.holds, SH.den], hap, a_ldn gb7 (by omega) (by rfl), a_st gc7 (by simp) (by rfl), a_ldn (get_set_eq gc7) (by omega) (by rfl), trivial⟩
    · rw [← s2]
      refine .inr ⟨h2.length + 1, ?_, get_set_ne (get_new' _ (by simp [H4, H3])) (by omega), by omega, by simp⟩
      rw [List.length_cons, Nat.add_comm 1]

end Go.Proofs.Ytkkhokgpcifckaa.rf

namespace Go.Proofs.Ytkkhokgpcifckaa.rf
open Go Go.Ev Go.Proofs.Ytkkhokgpcifckaa.wd
set_option maxRecDepth 100000
set_option linter.constructorNameAsVariable false
set_option linter.unusedVariables false

variable {h h' g g' : Hp} {o p q : Nat} {t : Option Nat} {w : WS}

theorem agg60 : aggSize Try.prog 60 = some (some 12) := by kernel_rfl
theorem evResults_ct {fn : Func} {E : Env} {h : Hp} {r s b : Nat} {L : List Value} {v : Value} (hf : fn.results = #[.cell r 60, .tmp s]) (hl : Ev.look E r = some (.pointer (some ⟨b, 0, none⟩))) (hk : Ev.look E s = some v)
    (hb : h[b]? = some (.cells L true)) (hL : L.length = 12) : evResults Try.prog fn E h = some (.tuple #[.agg L.toArray, v]) := by
  have e1 : L.take 12 = L := List.take_of_length_le (by omega)
  have e2 : Nat.ble 12 L.length = true := by rw [hL]; rfl
  simp [evResults, hf, evResultL, evResult, hl, hk, evLoad, cells_of hb, agg60, Ev.cut, e1, e2, hL]
theorem rC_len (o p q : Nat) (t : Option Nat) (w : WS) : (rC o p q t w).length = 12 := rfl

/-! ### restart: the head -/
theorem restart_head (a : RAt h o p q t w) (hw : WOk w) (ht : w.times.length < 10000) (n : Int) : ∃ E1 hA d, EnvLe [(7, .int .i64 (counted w : Nat)), (5, .slice none 0 0), (4, .pointer (some ⟨h.length + 1, 0, none⟩)), (2, .pointer (some ⟨h.length, 0, none⟩)), (1, .int .i64 n)] E1 ∧
    CRun Try.prog 105 false (Go.Ev.chain [partC Try.f70 [0], partC Try.f70 [1, 0], partC Try.f70 [1, 1, 0], partC Try.f70 [1, 1, 1, 0]]) (enterE 0 [.agg (rC o p q t w).toArray, .int .i64 n]) h .normal E1 hA ∧ RAt hA o p q (some d) (timed w) ∧
    hA[h.length]? = some (.cells (rC o p q (some d) (timed w)) true) ∧ hA[h.length + 1]? = some zR ∧ Keep (fpR p q t) h hA ∧ h.length + 2 ≤ d ∧ h.length + 2 ≤ hA.length := by
  have hol := a.olt
  have hpl := a.lts p (.inl rfl)
  have hql := a.lts q (.inr (.inl rfl))
  have hnow := hw.now
  have hwi := hw.within
  have a2 := (a.push (.cells (rC o p q t w) true)).push zR
  have gb : (h ++ [AObj.cells (rC o p q t w) true] ++ [zR])[h.length]? = some (.cells (rC o p q t w) true) := get_push (get_new h _)
  have gc : (h ++ [AObj.cells (rC o p q t w) true] ++ [zR])[h.length + 1]? = some zR := get_new' _ (by simp)
  have hrec := recent_run a2 hw (w.now - w.within)
  have a3 := a2.push (.cells (rC o p q t w) true)
  have gb1 := get_push (x := .cells (rC o p q t w) true) gb
  have gc1 := get_push (x := .cells (rC o p q t w) true) gc
  have K1 : Keep (fpR p q t) h (h ++ [AObj.cells (rC o p q t w) true] ++ [zR] ++ [AObj.cells (rC o p q t w) true] ++ [AObj.cells [.int .i64 w.now] true]) := (((Keep.push _ _ _).trans (Keep.push _ _ _)).trans (Keep.push _ _ _)).trans (Keep.push _ _ _)
  have a4 := a3.push (.cells [.int .i64 w.now] true)
  have gb2 := get_push (x := .cells [.int .i64 w.now] true) gb1
  have gc2 := get_push (x := .cells [.int .i64 w.now] true) gc1
  obtain ⟨xs, rw', hsv1, hsv2⟩ := a.sv
  rcases a.tms with ⟨rfl, e⟩ | ⟨r, rfl, hr, hr1, hr2, hr3⟩
  · have hT : iC (timed w).times = [.int .i64 w.now] := by simp [timed, e, iC]
    have tl1 : (timed w).times.length = 1 := by simp [timed, e]
    let HA : Hp := (h ++ [AObj.cells (rC o p q none w) true] ++ [zR] ++ [AObj.cells (rC o p q none w) true] ++ [AObj.cells [.int .i64 w.now] true] ++ [AObj.cells [.int .i64 w.now] true]).set h.length (.cells (rC o p q (some (h.length + 4)) (timed w)) true)
    obtain ⟨E1, e1, c1⟩ := pvC 0 (EnvLe.refl _) (v2p.hdn w.rule w.most w.within w.base w.cap w.now w.delay o p q w.svs.length w.given h.length (h.length + 1) (h.length + 3) (h.length + 4) n (w.now - w.within) (counted w : Nat) [] (rC o p q (some (h.length + 4)) (timed w)) h _)
      ⟨rfl, by simp [Asm.holds, SH.den], a_ld1 gb rfl, a_ld1 gb rfl, subI rfl (by omega) (by omega), a_ldn gb (by simp [rC]) (by rfl), hrec, a_ld1 gb1 rfl, a_ld1 gb1 rfl, by simp [Asm.holds, SH.den],
        ⟨rfl, ⟨_, cells_of (get_new' _ (by simp [SH.den])), by simp, rfl⟩, rfl, by omega, by omega, by simp [SH.den]⟩, a_st (get_push gb2) (by simp [rC]) (by simp [rC, timed, tvA, tvL, tvZ, e]), trivial⟩
    have gF : ∀ {x y}, (h ++ [AObj.cells (rC o p q none w) true] ++ [zR] ++ [AObj.cells (rC o p q none w) true] ++ [AObj.cells [.int .i64 w.now] true])[x]? = some y → x ≠ h.length → HA[x]? = some y := fun hx hl => get_set_ne (get_push hx) (Ne.symm hl)
    have gT : HA[h.length + 4]? = some (.cells [.int .i64 w.now] true) := get_set_ne (get_new' _ (by simp)) (by omega)
    refine ⟨E1, HA, h.length + 4, .trans (.add (.add (.add (.add (.add (.nil _) rfl) rfl) rfl) rfl) rfl) e1, c1,
      ⟨gF a4.st (by omega), gF a4.ats (by omega), .inr ⟨_, rfl, by rw [hT]; exact gT, by omega, by omega, by simp [timed]⟩, a.ne, ⟨xs, rw', gF (get_push (get_push (get_push (get_push hsv1)))) (by omega), hsv2⟩, a.no.1, a.no.2.1, by simp; omega⟩,
      get_set_eq (get_push gb2), gF gc2 (by omega), ?_, by omega, by simp [HA]⟩
    exact (K1.trans (Keep.push _ _ _)).trans_new (Keep.set (fp := fun x => x = h.length) rfl _) (fun x hx e => by omega)
  · have hrl := get_lt hr
    have hlen := iC_len w.times
    have hT : iC (timed w).times = iC w.times ++ [.int .i64 w.now] := by simp [timed, iC]
    have ho4 : o ≠ r := fun e => a.no.2.2 (by rw [e])
    have hcs : ((iC w.times).drop 0).take (w.times.length * 1) ++ [.int .i64 w.now] = iC (timed w).times := by
      rw [hT, List.drop_zero, List.take_of_length_le (by omega)]
    have h4r : (h ++ [AObj.cells (rC o p q (some r) w) true] ++ [zR] ++ [AObj.cells (rC o p q (some r) w) true] ++ [AObj.cells [.int .i64 w.now] true])[r]? = some (.cells (iC w.times) true) := get_push (get_push (get_push (get_push hr)))
    let HA : Hp := (((h ++ [AObj.cells (rC o p q (some r) w) true] ++ [zR] ++ [AObj.cells (rC o p q (some r) w) true] ++ [AObj.cells [.int .i64 w.now] true]).set r .dead) ++ [AObj.cells (iC (timed w).times) true]).set h.length (.cells (rC o p q (some (h.length + 4)) (timed w)) true)
    have gb3 := get_push (x := .cells (iC (timed w).times) true) (get_set_ne (x := .dead) gb2 (show r ≠ h.length by omega))
    obtain ⟨E1, e1, c1⟩ := pvC 0 (EnvLe.refl _) (v2p.hds w.rule w.most w.within w.base w.cap w.now w.delay o p q w.svs.length w.given r w.times.length h.length (h.length + 1) (h.length + 3) (h.length + 4) n (w.now - w.within) (counted w : Nat) (iC (timed w).times) (rC o p q (some (h.length + 4)) (timed w)) h _)
      ⟨rfl, by simp [Asm.holds, SH.den], a_ld1 gb rfl, a_ld1 gb rfl, subI rfl (by omega) (by omega), a_ldn gb (by simp [rC]) (by rfl), hrec, a_ld1 gb1 rfl, a_ld1 gb1 rfl, by simp [Asm.holds, SH.den],
        ⟨rfl, ⟨_, cells_of (get_new' _ (by simp [SH.den])), by simp, rfl⟩, rfl, by omega, by omega, ⟨_, own_of h4r, by omega, hcs⟩, by simp [SH.den]⟩, a_st gb3 (by simp [rC]) (by simp [rC, timed, tvA, tvL, tvZ]), trivial⟩
    have gF : ∀ {x y}, (h ++ [AObj.cells (rC o p q (some r) w) true] ++ [zR] ++ [AObj.cells (rC o p q (some r) w) true] ++ [AObj.cells [.int .i64 w.now] true])[x]? = some y → x ≠ h.length → x ≠ r → HA[x]? = some y := fun hx hl hl2 => get_set_ne (get_push (get_set_ne hx (Ne.symm hl2))) (Ne.symm hl)
    have gT : HA[h.length + 4]? = some (.cells (iC (timed w).times) true) := get_set_ne (get_new' _ (by simp)) (by omega)
    refine ⟨E1, HA, h.length + 4, .trans (.add (.add (.add (.add (.add (.nil _) rfl) rfl) rfl) rfl) rfl) e1, c1,
      ⟨gF a4.st (by omega) (Ne.symm hr1), gF a4.ats (by omega) (Ne.symm hr2), .inr ⟨_, rfl, gT, by omega, by omega, by simp [timed]⟩, a.ne, ⟨xs, rw', gF (get_push (get_push (get_push (get_push hsv1)))) (by omega) ho4, hsv2⟩, a.no.1, a.no.2.1, by simp; omega⟩,
      get_set_eq gb3, gF gc2 (by omega) (by omega), ?_, by omega, by simp [HA]⟩
    exact ((K1.trans (Keep.set (fp := fpR p q (some r)) (.inr (.inr rfl)) _)).trans (Keep.push _ _ _)).trans_new (Keep.set (fp := fun x => x = h.length) rfl _) (fun x hx e => by omega)

/-! ### restart: how long it waits -/
theorem dbl_top {cp : Int} (hc : 0 ≤ cp) {d : Int} : ∀ {k n : Nat}, dbl cp k d = cp → k ≤ n → dbl cp n d = cp
  | k, 0, e, hk => by rw [show k = 0 by omega] at e; exact e
  | k, n + 1, e, hk => by
    by_cases h1 : k = n + 1
    · subst h1; exact e
    · rw [dbl_succ, dbl_top hc e (show k ≤ n by omega)]
      split <;> omega
theorem rloop {b c : Nat} {i : Int} {z : Nat} (hw : WOk w) (hb : g[b]? = some (.cells (rC o p q t w) true)) (hz : z ≤ 1000000) :
    ∃ E1 wt, EnvLe [(8, .int .i64 wt), (7, .int .i64 (z : Nat)), (5, .slice none 0 0), (4, .pointer (some ⟨c, 0, none⟩)), (2, .pointer (some ⟨b, 0, none⟩)), (1, .int .i64 i)] E1 ∧
      LRun Try.prog 105 false (loopN Try.f70 0) [(9, .int .i64 (0 : Nat)), (8, .int .i64 w.base), (7, .int .i64 (z : Nat)), (5, .slice none 0 0), (4, .pointer (some ⟨c, 0, none⟩)), (2, .pointer (some ⟨b, 0, none⟩)), (1, .int .i64 i)] g (.exit 0) E1 g ∧
      (if w.cap < wt then w.cap else wt) = dbl w.cap z w.base := by
  have hba := hw.base
  have hca := hw.cap
  obtain ⟨x', E1, h1, hl1, rfl, rfl, wt, q1, q2⟩ := loop_inv (P := Try.prog) (n := 105) (rd := false) (b := loopN Try.f70 0)
    (Q := fun x' E1 h1 => x' = .exit 0 ∧ g = h1 ∧ ∃ wt, EnvLe [(8, .int .i64 wt), (7, .int .i64 (z : Nat)), (5, .slice none 0 0), (4, .pointer (some ⟨c, 0, none⟩)), (2, .pointer (some ⟨b, 0, none⟩)), (1, .int .i64 i)] E1 ∧ (if w.cap < wt then w.cap else wt) = dbl w.cap z w.base)
    (fun m E g' => ∃ (k : Nat) (wt : Int), k ≤ z ∧ m = z - k ∧ EnvLe [(9, .int .i64 (k : Nat)), (8, .int .i64 wt), (7, .int .i64 (z : Nat)), (5, .slice none 0 0), (4, .pointer (some ⟨c, 0, none⟩)), (2, .pointer (some ⟨b, 0, none⟩)), (1, .int .i64 i)] E ∧ g = g' ∧ 0 ≤ wt ∧ wt ≤ 2000000000000 ∧ (if w.cap < wt then w.cap else wt) = dbl w.cap k w.base)
    (fun m E g' ⟨k, wt, k1, k2, k3, k4, k5, k6, k7⟩ => by
      subst k4
      by_cases e : k = z
      · right
        subst e
        obtain ⟨E2, q1, q2⟩ := pvC 0 k3 (v2p.rl_e1 b c k 0 wt 0 k i 0 g) ⟨ltF (by omega), trivial⟩
        exact ⟨_, E2, _, by simp, q2, rfl, rfl, wt, .trans (.add (.add (.add (.add (.add (.add (.nil _) rfl) rfl) rfl) rfl) rfl) rfl) q1, k7⟩
      · by_cases hc : wt < w.cap
        · left
          obtain ⟨E2, q1, q2⟩ := pvC 0 k3 (v2p.rl_go b c k ((k + 1 : Nat) : Int) wt (wt * 2) z i w.cap g) ⟨ltT (by omega), a_ld1 hb rfl, ltT hc, by simp only [Asm.holds, arithI]; rw [i64_id (by omega) (by omega)], inc (by omega), trivial⟩
          refine ⟨z - (k + 1), E2, _, by omega, q2, k + 1, wt * 2, by omega, rfl, .trans (.add (.add (.add (.add (.add (.add (.add (.nil _) rfl) rfl) rfl) rfl) rfl) rfl) rfl) q1, rfl, by omega, by omega, ?_⟩
          rw [if_neg (by omega)] at k7
          rw [dbl_succ, ← k7, Int.mul_comm]
        · right
          obtain ⟨E2, q1, q2⟩ := pvC 0 k3 (v2p.rl_e2 b c k 0 wt 0 z i w.cap g) ⟨ltT (by omega), a_ld1 hb rfl, ltF (by omega), trivial⟩
          refine ⟨_, E2, _, by simp, q2, rfl, rfl, wt, .trans (.add (.add (.add (.add (.add (.add (.nil _) rfl) rfl) rfl) rfl) rfl) rfl) q1, ?_⟩
          have h7 : dbl w.cap k w.base = w.cap := by rw [← k7]; split <;> omega
          rw [dbl_top (by omega) h7 k1]
          split <;> omega)
    z _ g ⟨0, w.base, by omega, rfl, EnvLe.refl _, rfl, by omega, by omega, by simp only [dbl]; split <;> omega⟩
  exact ⟨E1, wt, q1, hl1, q2⟩

/-! ### restart: who is stopped -/
theorem mS_spS (P : Nat → Bool) (l : List Sv) : mS (ofStep P) 0 (stS P 0 l) = mS (spS P) 0 l := by
  refine List.ext_getElem? fun k => ?_
  rw [mS_get, mS_get, stS_get]
  cases l[k]? <;> simp [spS]
theorem named1 {w : WS} (hr : w.rule = 1) (n : Int) : nameP w n = fun _ => false := by
  funext k; simp [nameP, named, ruleF, hr, grp]
theorem named2 {w : WS} (hr : w.rule = 2) (n : Int) : nameP w n = spP 1 n := by
  funext k
  simp [nameP, named, ruleF, hr, grp, spP]
theorem named3 {w : WS} (hr : w.rule = 3) (n : Int) : nameP w n = spP (n + 1) n := by
  funext k
  simp only [nameP, named, ruleF, hr, grp, spP]
  simp
  by_cases h1 : (k : Int) = n - 1
  · simp [h1]
  · have : (n - 1 < (k : Int)) ↔ (n ≤ (k : Int)) := by omega
    simp [h1, this]
theorem mS_off (l : List Sv) : ∀ n, mS (spS fun _ => false) n l = l := by
  induction l with
  | nil => intro n; rfl
  | cons x l ih => intro n; rw [mS, ih, spS_off x rfl]
theorem stO_off (l : List Sv) : ∀ n, stO (fun _ => false) n l = [] := by
  induction l with
  | nil => intro n; rfl
  | cons x l ih => intro n; rw [stO, ih]; simp
theorem busy_eq (l : List Sv) : (l.any fun x => decide (x.state = 2)) = l.any fun x => [2].contains x.state := by
  congr 1; funext x
  by_cases h : x.state = 2
  · simp [h]
  · have : (x.state == 2) = false := by simpa using h
    simp [List.contains, List.elem, this, h]

end Go.Proofs.Ytkkhokgpcifckaa.rf

namespace Go.Proofs.Ytkkhokgpcifckaa.rf
open Go Go.Ev Go.Proofs.Ytkkhokgpcifckaa.wd
set_option maxRecDepth 100000
set_option linter.constructorNameAsVariable false
set_option linter.unusedVariables false

variable {h h' g g' : Hp} {o p q : Nat} {t : Option Nat} {w : WS}

theorem body70 : Try.f70.body = some (Go.Ev.chainT [partC Try.f70 [0], partC Try.f70 [1, 0], partC Try.f70 [1, 1, 0], partC Try.f70 [1, 1, 1, 0]] (partC Try.f70 [1, 1, 1, 1])) := by kernel_rfl
theorem body70b : Try.f70.body = some (Go.Ev.chainT [partC Try.f70 [0], partC Try.f70 [1, 0], partC Try.f70 [1, 1, 0], partC Try.f70 [1, 1, 1, 0]]
    (Go.Ev.chainT [partC Try.f70 [1, 1, 1, 1, 0], partC Try.f70 [1, 1, 1, 1, 1, 0], partC Try.f70 [1, 1, 1, 1, 1, 1, 0], partC Try.f70 [1, 1, 1, 1, 1, 1, 1, 0], partC Try.f70 [1, 1, 1, 1, 1, 1, 1, 1, 0], partC Try.f70 [1, 1, 1, 1, 1, 1, 1, 1, 1, 0]]
      (.seq (partC Try.f70 [1, 1, 1, 1, 1, 1, 1, 1, 1, 1, 0]) (partC Try.f70 [1, 1, 1, 1, 1, 1, 1, 1, 1, 1, 1])))) := by kernel_rfl

theorem rC_give (w : WS) (n : Int) : rC o p q t (giveUpF w n).1 = rC o p q t { w with given := true } := by
  simp [rC, giveUpF, stopped, gave, stS_len, mS_len, setSt_len]
theorem rC_group (w : WS) : rC o p q t (groupF w).1 = rC o p q t { w with delay := 0 } := by simp [rC, groupF]
theorem rC_off3 (w : WS) (n : Int) : rC o p q t (off3 w n) = rC o p q t (off1 w n) := by
  simp [rC, off3, off2, stopped, stS_len, mS_len]
theorem beginF_eq (w : WS) : beginF w = if (w.svs.any fun x => decide (x.state = 2)) = true then (w, []) else groupF w := by
  unfold beginF
  rw [busy_eq]; rfl
theorem off3_stops (w : WS) {fr n : Int} (e : nameP w n = spP fr n) : stopsF (off1 w n) fr n = off3 w n := by
  simp only [off3, off2, stopped, stopsF, e, mS_spS]

/-- The part of 'restart' that stops the others. -/
theorem switch_run {hB : Hp} {b c d : Nat} {n : Int} (a : RAt hB o p q (some d) (off1 w n)) (hw : WOk w) (ht : w.times.length < 10000) (hn : 1 ≤ n ∧ n ≤ w.svs.length) (hb : hB[b]? = some (.cells (rC o p q (some d) (off1 w n)) true))
    (nb : ¬ fpR p q (some d) b ∧ b ≠ o) {E : Env} (hE : EnvLe [(10, .slice none 0 0), (5, .slice none 0 0), (4, .pointer (some ⟨c, 0, none⟩)), (2, .pointer (some ⟨b, 0, none⟩)), (1, .int .i64 n)] E) :
    ∃ v E1 hC, EnvLe [(10, v), (5, .slice none 0 0), (4, .pointer (some ⟨c, 0, none⟩)), (2, .pointer (some ⟨b, 0, none⟩)), (1, .int .i64 n)] E1 ∧ CRun Try.prog 105 false (partC Try.f70 [1, 1, 1, 1, 1, 1, 1, 1, 1, 1, 0]) E hB .normal E1 hC ∧
      RAt hC o p q (some d) (off3 w n) ∧ OrdAt hC hB.length v (stO (nameP w n) 0 (off1 w n).svs) ∧ hC[b]? = some (.cells (rC o p q (some d) (off3 w n)) true) ∧ Keep (fun x => x = p ∨ x = q ∨ x = b) hB hC := by
  have n8 := hw.n8
  have hw1 := hw.off1 ht n
  have hbl := get_lt hb
  have nbp : b ≠ p := fun e => nb.1 (.inl e)
  have nbq : b ≠ q := fun e => nb.1 (.inr (.inl e))
  have gen : ∀ {fr : Int}, nameP w n = spP fr n → 1 ≤ fr ∧ fr ≤ 100 → ∃ v hC, Run Try.prog 74 [.agg (rC o p q (some d) (off1 w n)).toArray, .int .i64 fr, .int .i64 n] hB (.tuple #[.agg (rC o p q (some d) (off1 w n)).toArray, v]) hC ∧
      RAt (hC.set b (.cells (rC o p q (some d) (off1 w n)) true)) o p q (some d) (off3 w n) ∧ OrdAt (hC.set b (.cells (rC o p q (some d) (off1 w n)) true)) hB.length v (stO (nameP w n) 0 (off1 w n).svs) ∧
      hC[b]? = some (.cells (rC o p q (some d) (off1 w n)) true) ∧ Keep (fun x => x = p ∨ x = q ∨ x = b) hB (hC.set b (.cells (rC o p q (some d) (off1 w n)) true)) := by
    intro fr e hfr
    obtain ⟨v, hC, r, a1, o1, k1⟩ := stops_run a hw1 (fr := fr) (n := n) hfr ⟨by omega, by omega⟩
    rw [off3_stops w e] at r a1
    rw [rC_off3] at r
    have gb1 := k1.2 _ _ hb (by rintro (e | e); exact nbp e; exact nbq e)
    have K2 : Keep (fun x => x = b) hC (hC.set b (.cells (rC o p q (some d) (off1 w n)) true)) := Keep.set (fp := fun x => x = b) rfl _
    refine ⟨v, hC, r, a1.keep K2 (fun x hx e => by subst e; exact nb), ?_, gb1, (k1.mono fun x _ e => by rcases e with e | e; exact .inl e; exact .inr (.inl e)).trans (K2.mono fun x _ e => .inr (.inr e))⟩
    rw [e]
    exact o1.keep K2 (fun x hx _ e => by omega)
  have l0 : (Asm.ld1 (.is hB) b 0 (.int .i64 (off1 w n).rule)).holds Try.prog := a_ld1 hb rfl
  have hr := hw.rule
  have hrr : (off1 w n).rule = w.rule := rfl
  by_cases r2 : w.rule = 2
  · obtain ⟨v, hC, r, a1, o1, g1, k1⟩ := gen (named2 r2 n) ⟨by omega, by omega⟩
    obtain ⟨E2, q1, q2⟩ := pvC 0 hE (v2p.sw2 (off1 w n).rule (off1 w n).most (off1 w n).within (off1 w n).base (off1 w n).cap (off1 w n).now (off1 w n).delay o p q (off1 w n).svs.length (tvA (some d)) (tvL (some d) (off1 w n).times.length) (tvZ (some d)) (off1 w n).given b c n 0 v (rC o p q (some d) (off1 w n)) hB hC) ⟨l0, eqT r2, a_ldn hb (by simp [rC_len]) (by rfl), r, a_st g1 (by simp [rC]) (by rfl), trivial⟩
    refine ⟨v, E2, _, .trans (.add (.add (.add (.add (.add (.nil _) rfl) rfl) rfl) rfl) rfl) q1, q2, a1, o1, ?_, k1⟩
    rw [rC_off3]; exact get_set_eq g1
  · by_cases r3 : w.rule = 3
    · obtain ⟨v, hC, r, a1, o1, g1, k1⟩ := gen (named3 r3 n) ⟨by omega, by omega⟩
      obtain ⟨E2, q1, q2⟩ := pvC 0 hE (v2p.sw3 (off1 w n).rule (off1 w n).most (off1 w n).within (off1 w n).base (off1 w n).cap (off1 w n).now (off1 w n).delay o p q (off1 w n).svs.length (tvA (some d)) (tvL (some d) (off1 w n).times.length) (tvZ (some d)) (off1 w n).given b c n (n + 1) v (rC o p q (some d) (off1 w n)) hB hC) ⟨l0, eqF (by rw [hrr]; exact r2), eqT r3, a_ldn hb (by simp [rC_len]) (by rfl), addI rfl (by omega) (by omega), r, a_st g1 (by simp [rC]) (by rfl), trivial⟩
      refine ⟨v, E2, _, .trans (.add (.add (.add (.add (.add (.nil _) rfl) rfl) rfl) rfl) rfl) q1, q2, a1, o1, ?_, k1⟩
      rw [rC_off3]; exact get_set_eq g1
    · have r1 : w.rule = 1 := by omega
      obtain ⟨E2, q1, q2⟩ := pvC 0 hE (v2p.sw1 (off1 w n).rule (off1 w n).most (off1 w n).within (off1 w n).base (off1 w n).cap (off1 w n).now (off1 w n).delay o p q (off1 w n).svs.length (tvA (some d)) (tvL (some d) (off1 w n).times.length) (tvZ (some d)) (off1 w n).given b c n 0 (.slice none 0 0) [] hB hB) ⟨l0, eqF (by rw [hrr]; exact r2), eqF (by rw [hrr]; exact r3), trivial⟩
      have e3 : off3 w n = off1 w n := by
        simp only [off3, off2, stopped, named1 r1, mS_spS, mS_off]
      refine ⟨_, E2, _, .trans (.add (.add (.add (.add (.add (.nil _) rfl) rfl) rfl) rfl) rfl) q1, q2, by rw [e3]; exact a, .inl ⟨rfl, ?_⟩, by rw [e3]; exact hb, Keep.refl _ _⟩
      rw [named1 r1, stO_off]

/-- The end of 'restart'. -/
theorem tail_run {hC : Hp} {b c d B : Nat} {n : Int} {w3 : WS} {v : Value} {L : List Sv} (a : RAt hC o p q (some d) w3) (hw : WOk w3) (hb : hC[b]? = some (.cells (rC o p q (some d) w3) true)) (hc : hC[c]? = some zR) (hbc : b ≠ c)
    (hB : ∀ x, (fpR p q (some d) x ∨ x = o ∨ x = b ∨ x = c) → x < B) (nb : ∀ x, (x = b ∨ x = c) → ¬ fpR p q (some d) x ∧ x ≠ o) (hBC : B ≤ hC.length) (hv : OrdAt hC B v L) (hL : L.length ≤ 8) {E : Env}
    (hE : EnvLe [(10, v), (5, .slice none 0 0), (4, .pointer (some ⟨c, 0, none⟩)), (2, .pointer (some ⟨b, 0, none⟩)), (1, .int .i64 n)] E) :
    ∃ v' E1 hD, EnvLe [(5, v'), (4, .pointer (some ⟨c, 0, none⟩))] E1 ∧ CRun Try.prog 105 false (partC Try.f70 [1, 1, 1, 1, 1, 1, 1, 1, 1, 1, 1]) E hC .ret E1 hD ∧ RAt hD o p q (some d) (beginF w3).1 ∧ OrdAt hD B v' (L ++ (beginF w3).2) ∧
      hD[c]? = some (.cells (rC o p q (some d) (beginF w3).1) true) ∧ Keep (fun x => x = p ∨ x = q ∨ x = b ∨ x = c ∨ B ≤ x) hC hD := by
  have n8 := hw.n8
  have hbl := get_lt hb
  have hcl := get_lt hc
  have hpB := hB p (.inl (.inl rfl))
  have hqB := hB q (.inl (.inr (.inl rfl)))
  have hbB := hB b (.inr (.inr (.inl rfl)))
  have hcB := hB c (.inr (.inr (.inr rfl)))
  have nbp : b ≠ p := fun e => (nb b (.inl rfl)).1 (.inl e)
  have nbq : b ≠ q := fun e => (nb b (.inl rfl)).1 (.inr (.inl e))
  have ncp : c ≠ p := fun e => (nb c (.inr rfl)).1 (.inl e)
  have ncq : c ≠ q := fun e => (nb c (.inr rfl)).1 (.inr (.inl e))
  have r1 := some_run a hw 2
  rw [beginF_eq]
  have a1 := a.push (.cells (rC o p q (some d) w3) true)
  have hb1 := get_push (x := .cells (rC o p q (some d) w3) true) hb
  have hc1 := get_push (x := .cells (rC o p q (some d) w3) true) hc
  have l0 : (Asm.ldn (.is hC) b 0 12 (rC o p q (some d) w3)).holds Try.prog := a_ldn hb (by simp [rC_len]) (by rfl)
  have l1 : (Asm.ldn (.is (hC ++ [AObj.cells (rC o p q (some d) w3) true])) b 0 12 (rC o p q (some d) w3)).holds Try.prog := a_ldn hb1 (by simp [rC_len]) (by rfl)
  by_cases hbusy : (w3.svs.any fun x => decide (x.state = 2)) = true
  · rw [if_pos hbusy, List.append_nil]
    rw [hbusy] at r1
    obtain ⟨E2, q1, q2⟩ := pvC 0 hE (v2p.tl_busy w3.rule w3.most w3.within w3.base w3.cap w3.now w3.delay o p q w3.svs.length (tvA (some d)) (tvL (some d) w3.times.length) (tvZ (some d)) w3.given b c n v (rC o p q (some d) w3) [] hC (hC ++ [AObj.cells (rC o p q (some d) w3) true]) []) ⟨l0, r1, l1, a_st hc1 (by simp [rC]) (by rfl), trivial⟩
    have K2 : Keep (fun x => x = c) (hC ++ [AObj.cells (rC o p q (some d) w3) true]) ((hC ++ [AObj.cells (rC o p q (some d) w3) true]).set c (.cells (rC o p q (some d) w3) true)) := Keep.set (fp := fun x => x = c) rfl _
    have KK := (Keep.push (fun x => x = p ∨ x = q ∨ x = b ∨ x = c ∨ B ≤ x) hC (.cells (rC o p q (some d) w3) true)).trans (K2.mono fun x _ e => .inr (.inr (.inr (.inl e))))
    refine ⟨v, E2, _, .trans (.add (.add (.nil _) rfl) rfl) q1, q2, a1.keep K2 (fun x hx e => nb x (.inr e)), ?_, get_set_eq hc1, KK⟩
    have hv1 := hv.keep (Keep.push (fun _ => False) hC (.cells (rC o p q (some d) w3) true)) (fun x _ _ e => e)
    exact hv1.keep K2 (fun x hx _ e => by omega)
  · rw [if_neg hbusy]
    rw [Bool.eq_false_iff.2 hbusy] at r1
    obtain ⟨v2, h2, r2, a2, o2, k2⟩ := groupR_run a1 hw
    have hv1 := hv.keep (Keep.push (fun _ => False) hC (.cells (rC o p q (some d) w3) true)) (fun x _ _ e => e)
    have hv2 := hv1.keep k2 (fun x hx _ e => by rcases e with e | e <;> omega)
    have hb2 := k2.2 _ _ hb1 (by rintro (e | e); exact nbp e; exact nbq e)
    have hc2 := k2.2 _ _ hc1 (by rintro (e | e); exact ncp e; exact ncq e)
    rw [rC_group] at r2
    let R0 : List Value := rC o p q (some d) { w3 with delay := 0 }
    let H3 : Hp := h2.set b (.cells R0 true)
    have hb3 : H3[b]? = some (.cells R0 true) := get_set_eq hb2
    have hc3 : H3[c]? = some zR := get_set_ne hc2 hbc
    have K3 : Keep (fun x => x = b) h2 H3 := Keep.set (fp := fun x => x = b) rfl _
    have hv3 := hv2.keep K3 (fun x hx _ e => by omega)
    have o3 := o2.keep K3 (fun x hx _ e => by simp at hx; omega)
    have o3' : OrdAt H3 B v2 (groupF w3).2 := o3.base (by simp; omega)
    have a3 : RAt H3 o p q (some d) (groupF w3).1 := a2.keep K3 (fun x hx e => nb x (.inl e))
    have hgl : (groupF w3).2.length ≤ 8 := by have := bgO_len (atOf w3) 0 w3.svs; simp only [groupF]; omega
    have KC3 : Keep (fun x => x = p ∨ x = q ∨ x = b ∨ x = c ∨ B ≤ x) hC H3 := ((Keep.push _ _ _).trans (k2.mono fun x _ e => by rcases e with e | e; exact .inl e; exact .inr (.inl e))).trans (K3.mono fun x _ e => .inr (.inr (.inl e)))
    have st3 : (Asm.st (.is h2) b 0 R0 R0).holds Try.prog := a_st hb2 (by simp [rC, R0]) (by rfl)
    have hl3 : h2.length = H3.length := by simp [H3]
    rw [rC_group]
    have fin : ∀ {HF : Hp}, Keep (fun x => B ≤ x) H3 HF → HF[b]? = some (.cells R0 true) → HF[c]? = some zR → RAt (HF.set c (.cells R0 true)) o p q (some d) (groupF w3).1 ∧ (HF.set c (.cells R0 true))[c]? = some (.cells R0 true) ∧ Keep (fun x => x = p ∨ x = q ∨ x = b ∨ x = c ∨ B ≤ x) hC (HF.set c (.cells R0 true)) ∧
        (Asm.ldn (.is HF) b 0 12 R0).holds Try.prog ∧ (Asm.st (.is HF) c 0 R0 R0).holds Try.prog := fun k gb gc =>
      ⟨(a3.keep k fun x hx e => ⟨fun r => by have := hB x (.inl r); omega, fun r => by have := hB x (.inr (.inl r)); omega⟩).keep (Keep.set (fp := fun x => x = c) rfl _) (fun x hx e => nb x (.inr e)), get_set_eq gc,
        (KC3.trans (k.mono fun x _ e => .inr (.inr (.inr (.inr e))))).trans (Keep.set (.inr (.inr (.inr (.inl rfl)))) _), a_ldn gb (by simp [R0, rC_len]) (by rfl), a_st gc (by simp [R0, rC]) (by rfl)⟩
    rcases hv3 with ⟨rfl, e1⟩ | ⟨x1, rfl, g1, l1', ne1⟩ <;> rcases o3' with ⟨rfl, e2⟩ | ⟨x2, rfl, g2, l2', ne2⟩
    · obtain ⟨f1, f2, f3, f4, f5⟩ := fin (Keep.refl _ _) hb3 hc3
      obtain ⟨E2, q1, q2⟩ := pvC 0 hE (v2p.tl_nn w3.rule w3.most w3.within w3.base w3.cap w3.now w3.delay o p q w3.svs.length (tvA (some d)) (tvL (some d) w3.times.length) (tvZ (some d)) w3.given b c 0 0 0 0 0 0 n [] [] R0 R0 hC (hC ++ [AObj.cells (rC o p q (some d) w3) true]) h2) ⟨l0, r1, l1, r2, st3, f4, f5, trivial⟩
      exact ⟨_, E2, _, .trans (.add (.add (.nil _) rfl) rfl) q1, q2, f1, .inl ⟨rfl, by rw [e1, e2]; rfl⟩, f2, f3⟩
    · have hap := a_app3n (P := Try.prog) (s := .set (.is h2) b (.cells R0 true)) (d := H3.length) g2 ne2 (by omega) rfl
      obtain ⟨f1, f2, f3, f4, f5⟩ := fin (HF := H3 ++ [.cells (svC (groupF w3).2) true]) (Keep.push _ _ _) (get_push hb3) (get_push hc3)
      obtain ⟨E2, q1, q2⟩ := pvC 0 hE (v2p.tl_ns w3.rule w3.most w3.within w3.base w3.cap w3.now w3.delay o p q w3.svs.length (tvA (some d)) (tvL (some d) w3.times.length) (tvZ (some d)) w3.given b c 0 0 x2 (groupF w3).2.length ((groupF w3).2.length - 1) H3.length n [] (svC (groupF w3).2) R0 R0 hC (hC ++ [AObj.cells (rC o p q (some d) w3) true]) h2) ⟨l0, r1, l1, r2, st3, hap, f4, f5, trivial⟩
      refine ⟨_, E2, _, .trans (.add (.add (.nil _) rfl) rfl) q1, q2, f1, ?_, f2, f3⟩
      rw [e1, List.nil_append]
      exact .inr ⟨_, rfl, get_set_ne (get_new _ _) (by have := get_lt hc3; omega), by have := KC3.1; omega, ne2⟩
    · obtain ⟨f1, f2, f3, f4, f5⟩ := fin (Keep.refl _ _) hb3 hc3
      have h0 : (Asm.app0 (.set (.is h2) b (.cells R0 true)) x1 0 0).holds Try.prog := ⟨rfl, _, cells_of g1, by omega⟩
      obtain ⟨E2, q1, q2⟩ := pvC 0 hE (v2p.tl_sn w3.rule w3.most w3.within w3.base w3.cap w3.now w3.delay o p q w3.svs.length (tvA (some d)) (tvL (some d) w3.times.length) (tvZ (some d)) w3.given b c x1 L.length 0 0 0 0 n [] [] R0 R0 hC (hC ++ [AObj.cells (rC o p q (some d) w3) true]) h2) ⟨l0, r1, l1, r2, st3, f4, f5, trivial⟩
      refine ⟨_, E2, _, .trans (.add (.add (.nil _) rfl) rfl) q1, q2, f1, ?_, f2, f3⟩
      rw [e2, List.append_nil]
      exact .inr ⟨_, rfl, get_set_ne g1 (by omega), l1', ne1⟩
    · have hap := a_app3 (P := Try.prog) (s := .set (.is h2) b (.cells R0 true)) (d := H3.length) g1 g2 ne2 (by omega) rfl
      obtain ⟨f1, f2, f3, f4, f5⟩ := fin (HF := (H3.set x1 .dead) ++ [.cells (svC (L ++ (groupF w3).2)) true]) ((Keep.set (fp := fun x => B ≤ x) l1' _).trans (Keep.push _ _ _)) (get_push (get_set_ne hb3 (by omega))) (get_push (get_set_ne hc3 (by omega)))
      have hap' : (Asm.app (.set (.is h2) b (.cells R0 true)) x1 0 L.length x2 0 (groupF w3).2.length ((groupF w3).2.length - 1) 3 24 (svC (L ++ (groupF w3).2)) (svC (groupF w3).2) H3.length).holds Try.prog := hap
      obtain ⟨E2, q1, q2⟩ := pvC 0 hE (v2p.tl_ss w3.rule w3.most w3.within w3.base w3.cap w3.now w3.delay o p q w3.svs.length (tvA (some d)) (tvL (some d) w3.times.length) (tvZ (some d)) w3.given b c x1 L.length x2 (groupF w3).2.length ((groupF w3).2.length - 1) H3.length n (svC (L ++ (groupF w3).2)) (svC (groupF w3).2) R0 R0 hC (hC ++ [AObj.cells (rC o p q (some d) w3) true]) h2) ⟨l0, r1, l1, r2, st3, hap', f4, f5, trivial⟩
      refine ⟨_, E2, _, .trans (.add (.add (.nil _) rfl) rfl) q1, q2, f1, .inr ⟨H3.length, ?_, get_set_ne (get_new' (h := H3.set x1 .dead) _ (set_len _ _ _)) (by have := get_lt hc3; omega), by have := KC3.1; omega, by simp [ne1]⟩, f2, f3⟩
      rw [List.length_append]

theorem restart_run (a : RAt h o p q t w) (hw : WOk w) (ht : w.times.length < 10000) {n : Int} (hn : 1 ≤ n ∧ n ≤ w.svs.length) :
    ∃ v h' t', Run Try.prog 70 [.agg (rC o p q t w).toArray, .int .i64 n] h (.tuple #[.agg (rC o p q t' (againF w n).1).toArray, v]) h' ∧ RAt h' o p q t' (againF w n).1 ∧ (∃ B, h.length ≤ B ∧ (∀ x, t' = some x → x < B) ∧ OrdAt h' B v (againF w n).2) ∧ Keep (fpR p q t) h h' ∧
      (∀ x, t' = some x → h.length ≤ x) := by
  have n8 := hw.n8
  have hol := a.olt
  have hpl := a.lts p (.inl rfl)
  have hql := a.lts q (.inr (.inl rfl))
  have hcl : counted w ≤ 10000 := Nat.le_trans (cnt_le _ _) hw.times
  obtain ⟨E1, hA, d, hE1, c1, aA, gbA, gcA, KA, hd, hlA⟩ := restart_head a hw ht n
  have hwA := hw.timed ht
  have hdA := aA.lts d (.inr (.inr rfl))
  have nbd : ∀ x, (x = h.length ∨ x = h.length + 1) → ¬ fpR p q (some d) x ∧ x ≠ o := fun x e => by
    refine ⟨?_, by omega⟩
    rintro (r | r | r)
    · omega
    · omega
    · cases r; omega
  have hB : ∀ x, (fpR p q (some d) x ∨ x = o ∨ x = h.length ∨ x = h.length + 1) → x < hA.length := fun x e => by
    rcases e with e | e | e | e
    · exact aA.lts x e
    · omega
    · omega
    · omega
  unfold againF
  by_cases hm : (counted w : Int) + 1 > w.most
  · rw [if_pos hm]
    obtain ⟨v, h2, r2, a2, o2, k2⟩ := giveUpR_run aA hwA (n := n) hn
    rw [rC_give] at r2
    have gc2 := k2.2 _ _ gcA (by rintro (e | e) <;> omega)
    let R : List Value := rC o p q (some d) { timed w with given := true }
    have Kc : Keep (fun x => x = h.length + 1) h2 (h2.set (h.length + 1) (.cells R true)) := Keep.set (fp := fun x => x = h.length + 1) rfl _
    obtain ⟨E2, q1, q2⟩ := pvC 0 hE1 (v2p.gv (timed w).rule (timed w).most (timed w).within (timed w).base (timed w).cap (timed w).now (timed w).delay o p q (timed w).svs.length (tvA (some d)) (tvL (some d) (timed w).times.length) (tvZ (some d)) (timed w).given h.length (h.length + 1) n (counted w : Nat) ((counted w : Int) + 1) v R hA h2)
      ⟨addI rfl (by omega) (by omega), a_ld1 gbA rfl, gtT hm, a_ldn gbA (by simp [rC_len]) (by rfl), r2, a_st gc2 (by simp) (by rfl), trivial⟩
    refine ⟨v, h2.set (h.length + 1) (.cells R true), some d, by rw [rC_give]; exact Run.code Try.func70 body70 (.inr rfl) (Go.Ev.CRunChain c1 q2) (evResults_ct rfl (q1 4 _ rfl) (q1 5 v rfl) (get_set_eq gc2) (by simp [R, rC_len])), a2.keep Kc (fun x hx e => nbd x (.inr e)), ⟨hA.length, by omega, fun x e => by cases e; exact hdA, o2.keep Kc (fun x hx _ e => by omega)⟩, ?_, fun x e => by cases e; omega⟩
    exact (KA.trans_new k2 (fun x hx e => by rcases e with e | e; exact .inl e; exact .inr (.inl e))).trans_new Kc (fun x hx e => by omega)
  · rw [if_neg hm]
    have hk : (n - 1).toNat < w.svs.length := by omega
    have hx := List.getElem?_eq_getElem hk
    have hss : setSt w.svs n 3 = w.svs.set (n - 1).toNat { w.svs[(n - 1).toNat] with state := 3 } := by simp only [setSt, hx]
    have sp := st_put hx { w.svs[(n - 1).toNat] with state := 3 }
    rw [← hss] at sp
    have aw : atC (setSt w.svs n 3) = atC w.svs := by rw [hss]; exact at_same hx rfl
    have hwh : (setSt w.svs n 3).map Sv.when = w.svs.map Sv.when := by rw [hss]; exact map_set_same _ hx rfl
    obtain ⟨E3, wt, hE3, hl3, hwt⟩ := rloop (c := h.length + 1) (i := n) (z := counted w) hwA gbA (by omega)
    let R : List Value := rC o p q (some d) { timed w with delay := waits w }
    have hR : R = rC o p q (some d) (off1 w n) := (rC_svs (w := { timed w with delay := waits w }) (l := setSt w.svs n 3) (setSt_len _ _ _)).symm
    let hB1 : Hp := hA.set h.length (.cells R true)
    have gb1 : hB1[h.length]? = some (.cells R true) := get_set_eq gbA
    have gc1 : hB1[h.length + 1]? = some zR := get_set_ne gcA (by omega)
    have gp1 : hB1[p]? = some (.cells (stC w.svs) true) := get_set_ne aA.st (by omega)
    let hB2 : Hp := hB1.set p (.cells (stC (setSt w.svs n 3)) true)
    have K2 : Keep (fun x => x = p ∨ x = h.length) hA hB2 := (Keep.set (fp := fun x => x = p ∨ x = h.length) (.inr rfl) _).trans (Keep.set (.inl rfl) _)
    have a1 : RAt hB2 o p q (some d) (off1 w n) := by
      have : RAt hB2 o p q (some d) { timed w with svs := setSt w.svs n 3 } := aA.put K2 (fun x hx e => by rcases e with e | e; exact .inl e; exact .inr (.inr (nbd x (.inl e)))) (get_set_eq gp1) (by rw [aw]; exact get_set_ne (get_set_ne aA.ats (by omega)) a.ne) hwh
      exact this.same rfl rfl
    have gb2 : hB2[h.length]? = some (.cells (rC o p q (some d) (off1 w n)) true) := by rw [← hR]; exact get_set_ne gb1 (by omega)
    have gc2 : hB2[h.length + 1]? = some zR := get_set_ne gc1 (by omega)
    have hl2 : hB2.length = hA.length := by simp [hB2, hB1]
    obtain ⟨E4, q1, q2⟩ := pvC 0 hE1 (v2p.mid (timed w).rule (timed w).most (timed w).within (timed w).base (timed w).cap (timed w).now (timed w).delay o p q (timed w).svs.length (tvA (some d)) (tvL (some d) (timed w).times.length) (tvZ (some d)) (timed w).given h.length (h.length + 1) (n - 1).toNat n (counted w : Nat) ((counted w : Int) + 1) wt (dbl w.cap (counted w) w.base) (waits w) (n - 1) R (stC (setSt w.svs n 3)) hA hA)
      ⟨addI rfl (by omega) (by omega), a_ld1 gbA rfl, gtF (by show (counted w : Int) + 1 ≤ w.most; omega), a_ld1 gbA rfl, a_loop (by kernel_rfl) (.add (.add (.add (.add (.add (.add (.add (.nil _) rfl) rfl) rfl) rfl) rfl) rfl) rfl) hE3 hl3, a_ld1 gbA rfl, a_ld1 gbA rfl, .inr ⟨rfl, hwt⟩, .inl ⟨rfl, rfl⟩,
        a_st gbA (by simp [rC]) (by rfl), a_ld1 gb1 rfl, subI rfl (by omega) (by omega), offI (q := (n - 1).toNat) (by omega) (by show (n - 1).toNat < w.svs.length; omega) (by omega), a_st gp1 (by rw [stC_len]; simp; omega) sp, trivial⟩
    obtain ⟨v1, E5, hC, hE5, c5, a5, o5, gb5, k5⟩ := switch_run (c := h.length + 1) a1 hw ht hn gb2 (nbd _ (.inl rfl)) (E := E4) (.trans (.add (.add (.add (.add (.add (.nil _) rfl) rfl) rfl) rfl) rfl) q1)
    have gc5 := k5.2 _ _ gc2 (by rintro (e | e | e) <;> omega)
    have hL1 : (stO (nameP w n) 0 (off1 w n).svs).length ≤ 8 := by have := stO_len (nameP w n) 0 (off1 w n).svs; rw [off1_len] at this; omega
    obtain ⟨v2, E6, hD, hE6, c6, a6, o6, gc6, k6⟩ := tail_run (B := hA.length) a5 (hw.off3 ht n) gb5 gc5 (by omega) hB nbd (by have := k5.1; omega) (by rw [hl2] at o5; exact o5) hL1 hE5
    refine ⟨v2, hD, some d, Run.code Try.func70 body70b (.inr rfl) (Go.Ev.CRunChain c1 (Go.Ev.CRunChain q2 (.seq c5 c6))) (evResults_ct rfl (hE6 4 _ rfl) (hE6 5 v2 rfl) gc6 (by simp [rC_len])), a6, ⟨hA.length, by omega, fun x e => by cases e; exact hdA, o6⟩, ?_, fun x e => by cases e; omega⟩
    have e1 := KA.trans_new K2 (fun x hx e => by rcases e with e | e; exact .inl e; omega)
    have e2 := e1.trans_new k5 (fun x hx e => by rcases e with e | e | e; exact .inl e; exact .inr (.inl e); omega)
    exact e2.trans_new k6 (fun x hx e => by rcases e with e | e | e | e | e; exact .inl e; exact .inr (.inl e); omega; omega; omega)

end Go.Proofs.Ytkkhokgpcifckaa.rf

namespace Go.Proofs.Ytkkhokgpcifckaa.wd
open Go Go.Ev
set_option maxRecDepth 100000
set_option linter.constructorNameAsVariable false
set_option linter.unusedVariables false

theorem eqT {a b : Int} (e : a = b) : (Asm.cmp .eql a b true).holds Try.prog := by simpa [Asm.holds, cmpB] using e
theorem eqF {a b : Int} (e : ¬ a = b) : (Asm.cmp .eql a b false).holds Try.prog := by simpa [Asm.holds, cmpB] using e
theorem neT {a b : Int} (e : ¬ a = b) : (Asm.cmp .neq a b true).holds Try.prog := by simpa [Asm.holds, cmpB] using e
theorem neF {a b : Int} (e : a = b) : (Asm.cmp .neq a b false).holds Try.prog := by simpa [Asm.holds, cmpB] using e

theorem svhC_wh : ∀ {l : List SvH} {k : Nat} {x : SvH}, l[k]? = some x → (svhC l)[k * 3 + 2]? = some (.int .i64 x.wh)
  | [], k, x, h => by simp at h
  | y :: l, 0, x, h => by simp at h; subst h; simp [svhC]
  | y :: l, k + 1, x, h => by
    have := svhC_wh (l := l) (k := k) (x := x) (by simpa using h)
    rw [show (k + 1) * 3 + 2 = (k * 3 + 2) + 3 by omega]
    simpa [svhC] using this

end Go.Proofs.Ytkkhokgpcifckaa.wd

namespace Go.Proofs.Ytkkhokgpcifckaa.wd
open Go Go.Ev
set_option maxRecDepth 100000
set_option linter.constructorNameAsVariable false
set_option linter.unusedVariables false

/-! ### Ends: plain facts -/

theorem mem_of_get {α : Type} {l : List α} {P : α → Prop} (h : ∀ (k : Nat) x, l[k]? = some x → P x) : ∀ x ∈ l, P x := fun x hx => by
  obtain ⟨k, hk⟩ := List.mem_iff_getElem?.1 hx
  exact h k x hk

/-- A time that is not before any that can have been. -/
def lastF : List OpV → Int → Int
  | [], now => now
  | o :: l, now => lastF l (if o.at' ≤ 1000000000000 then (if o.at' > now then o.at' else now) else now)
theorem begin_now (w : WS) : (beginF w).1.now = w.now := by unfold beginF; split <;> rfl
theorem follow_now (w : WS) (n fk : Int) (x : Sv) : (followF w n fk x).1.now = w.now := by
  unfold followF
  split
  · rfl
  · split
    · rw [begin_now]
    · split
      · rfl
      · unfold againF
        split
        · rfl
        · rw [begin_now]; rfl
end Go.Proofs.Ytkkhokgpcifckaa.wd

namespace Go.Proofs.Ytkkhokgpcifckaa.rf
open Go Go.Ev Go.Proofs.Ytkkhokgpcifckaa.wd
set_option maxRecDepth 100000
set_option linter.constructorNameAsVariable false
set_option linter.unusedVariables false

variable {h h' g g' : Hp} {o p q : Nat} {t : Option Nat} {w : WS}

theorem rC_to {w' : WS} (hs : SameSpec w w') (hn : w'.now = w.now) (hl : w'.svs.length = w.svs.length) : rC o p q t w' = rC o p q t { w with times := w'.times, delay := w'.delay, given := w'.given } := by
  obtain ⟨h1, h2, h3, h4, h5⟩ := hs
  simp [rC, h1, h2, h3, h4, h5, hn, hl]
theorem again_now (w : WS) (n : Int) : (againF w n).1.now = w.now := by
  unfold againF
  split
  · rfl
  · simp only [begin_now]; rfl

/-! ### follow -/
theorem followR_run (a : RAt h o p q t w) (hw : WOk w) (ht : w.times.length < 10000) {n fk : Int} {ft : ByteArray} (hn : 1 ≤ n ∧ n ≤ w.svs.length) {x : Sv} (hx : w.svs[(n - 1).toNat]? = some x) :
    ∃ v h' t', Run Try.prog 59 [.agg (rC o p q t w).toArray, .int .i64 n, .agg #[.int .i64 fk, .string ft]] h (.tuple #[.agg (rC o p q t' (followF w n fk x).1).toArray, v]) h' ∧ RAt h' o p q t' (followF w n fk x).1 ∧
      (∃ B, h.length ≤ B ∧ (∀ x, t' = some x → x < B) ∧ OrdAt h' B v (followF w n fk x).2) ∧ Keep (fpR p q t) h h' ∧ (∀ x, t' = some x → t = some x ∨ h.length ≤ x) := by
  have n8 := hw.n8
  have hol := a.olt
  have hlt := a.lts
  have hpl := a.lts p (.inl rfl)
  have hql := a.lts q (.inr (.inl rfl))
  let fc : List Value := [.int .i64 fk, .string ft]
  let G3 : Hp := h ++ [AObj.cells (rC o p q t w) true] ++ [AObj.cells fc true] ++ [zR]
  have a3 : RAt G3 o p q t w := ((a.push _).push _).push _
  have gb : G3[h.length]? = some (.cells (rC o p q t w) true) := get_push (get_push (get_new h _))
  have gf : G3[h.length + 1]? = some (.cells fc true) := get_push (get_new' _ (by simp))
  have gc : G3[h.length + 2]? = some zR := get_new' _ (by simp)
  have K3 : Keep (fun _ => False) h G3 := ((Keep.push _ _ _).trans (Keep.push _ _ _)).trans (Keep.push _ _ _)
  have hl3 : G3.length = h.length + 3 := by simp [G3]
  obtain ⟨xs, rw', hsv1, hsv2⟩ := a3.sv
  have hxl : xs.length = w.svs.length := by have := congrArg List.length hsv2; simpa using this
  obtain ⟨y, hy⟩ : ∃ y, xs[(n - 1).toNat]? = some y := ⟨_, List.getElem?_eq_getElem (by omega)⟩
  have hwh : y.wh = x.when := by
    have := congrArg (fun l => l[(n - 1).toNat]?) hsv2
    simp only [List.getElem?_map, hx, hy, Option.map_some, Option.some.injEq] at this; exact this
  have l1 : (Asm.len (.is h) h.length).holds Try.prog := rfl
  have l2 : (Asm.len (.push (.is h) (.cells (rC o p q t w) true)) (h.length + 1)).holds Try.prog := by simp [Asm.holds, SH.den]
  have l3 : (Asm.len (.push (.push (.is h) (.cells (rC o p q t w) true)) (.cells fc true)) (h.length + 2)).holds Try.prog := by simp [Asm.holds, SH.den]
  let S3 : SH := .push (.push (.push (.is h) (.cells (rC o p q t w) true)) (.cells fc true)) zR
  have l4 : (Asm.ld1 S3 h.length 5 (.slice (some ⟨o, 0, none⟩) w.svs.length 3)).holds Try.prog := a_ld1 gb rfl
  have l5 : (Asm.arith .sub .i64 n 1 (n - 1)).holds Try.prog := subI rfl (by omega) (by omega)
  have l6 : (Asm.off ((n - 1).toNat * 3) 0 (n - 1) w.svs.length 3).holds Try.prog := offI (q := (n - 1).toNat) (by omega) (by omega) (by omega)
  have l7 : (Asm.ld1 S3 o ((n - 1).toNat * 3).succ.succ (.int .i64 x.when)).holds Try.prog := a_ld1 hsv1 (by rw [← hwh]; exact svhC_wh hy)
  have l8 : (Asm.ld1 S3 h.length 6 (.slice (some ⟨p, 0, none⟩) w.svs.length 1)).holds Try.prog := a_ld1 gb rfl
  have l9 : (Asm.off (n - 1).toNat 0 (n - 1) w.svs.length 1).holds Try.prog := offI (q := (n - 1).toNat) (by omega) (by omega) (by omega)
  have l10 : (Asm.ld1 S3 p (n - 1).toNat (.int .i64 x.state)).holds Try.prog := a_ld1 a3.st (stC_get hx)
  have nbd : ∀ y, (y = h.length ∨ y = h.length + 2) → ¬ fpR p q t y ∧ y ≠ o := fun y e => ⟨fun r => by have := hlt y r; omega, by omega⟩
  have lset : ∀ s : Int, ∃ G4 : Hp, G4 = G3.set p (.cells (stC (setSt w.svs n s)) true) ∧ (Asm.st S3 p (n - 1).toNat [.int .i64 s] (stC (setSt w.svs n s))).holds Try.prog ∧ RAt G4 o p q t { w with svs := setSt w.svs n s } ∧
      G4[h.length]? = some (.cells (rC o p q t w) true) ∧ G4[h.length + 2]? = some zR ∧ Keep (fun x => x = p) G3 G4 := by
    intro s
    have hss : setSt w.svs n s = w.svs.set (n - 1).toNat { x with state := s } := by simp only [setSt, hx]
    have sp := st_put hx { x with state := s }
    rw [← hss] at sp
    have aw : atC (setSt w.svs n s) = atC w.svs := by rw [hss]; exact at_same hx rfl
    have hwh' : (setSt w.svs n s).map Sv.when = w.svs.map Sv.when := by rw [hss]; exact map_set_same _ hx rfl
    have K4 : Keep (fun x => x = p) G3 (G3.set p (.cells (stC (setSt w.svs n s)) true)) := Keep.set (fp := fun x => x = p) rfl _
    exact ⟨_, rfl, a_st a3.st (by rw [stC_len]; simp; omega) sp, a3.put K4 (fun x hx e => .inl e) (get_set_eq a3.st) (by rw [aw]; exact get_set_ne a3.ats a.ne) hwh', get_set_ne gb (by omega), get_set_ne gc (by omega), K4⟩
  -- a service that is only marked
  have mark : ∀ s : Int, ∀ G4 : Hp, RAt G4 o p q t { w with svs := setSt w.svs n s } → G4[h.length + 2]? = some zR → Keep (fun x => x = p) G3 G4 → RAt (G4.set (h.length + 2) (.cells (rC o p q t w) true)) o p q t { w with svs := setSt w.svs n s } ∧ Keep (fpR p q t) h (G4.set (h.length + 2) (.cells (rC o p q t w) true)) := by
    intro s G4 a4 g4 k4
    have Kc : Keep (fun x => x = h.length + 2) G4 (G4.set (h.length + 2) (.cells (rC o p q t w) true)) := Keep.set (fp := fun x => x = h.length + 2) rfl _
    exact ⟨a4.keep Kc (fun x hx e => nbd x (.inr e)), ((K3.mono fun x _ e => e.elim).trans_new k4 (fun x hx e => .inl e)).trans_new Kc (fun x hx e => by omega)⟩
  have hrs : ∀ s : Int, rC o p q t { w with svs := setSt w.svs n s } = rC o p q t w := fun s => rC_svs (setSt_len _ _ _)
  have tb : ∀ x, t = some x → x < h.length := fun x e => hlt x (.inr (.inr e))
  unfold followF
  by_cases hg : w.given = true
  · rw [if_pos hg]
    obtain ⟨G4, rfl, s1, a4, g4, c4, k4⟩ := lset 5
    obtain ⟨m1, m2⟩ := mark 5 _ a4 c4 k4
    refine ⟨.slice none 0 0, _, t, ?_, m1, ⟨h.length, Nat.le_refl _, tb, .inl ⟨rfl, rfl⟩⟩, m2, fun x e => .inl e⟩
    rw [hrs]
    exact pvF 0 Try.func59 (v1p.fo_given w.rule w.most w.within w.base w.cap w.now w.delay o p q w.svs.length (tvA t) (tvL t w.times.length) (tvZ t) w.given h.length (h.length + 1) (h.length + 2) ((n - 1).toNat * 3) (n - 1).toNat n (n - 1) x.when fk 0 ft (stC (setSt w.svs n 5)) (rC o p q t w) [] h h h)
      ⟨l1, l2, l3, l4, l5, l6, l7, a_ld1 gb (by simp [rC, hg]), l8, l5, l9, s1, a_ldn g4 (by simp [rC_len]) (by rfl), a_st c4 (by simp) (by rfl), a_ldn (get_set_eq c4) (by simp [rC_len]) (by rfl), trivial⟩
  · rw [if_neg hg]
    have hgf : w.given = false := Bool.eq_false_iff.2 hg
    have l11 : (Asm.ld1 S3 h.length 11 (.bool false)).holds Try.prog := a_ld1 gb (by simp [rC, hgf])
    by_cases h2 : x.state = 2
    · rw [if_pos h2]
      obtain ⟨G4, rfl, s1, a4, g4, c4, k4⟩ := lset 3
      have hw4 := hw.svs (setSt_len w.svs n 3)
      have r1 := some_run a4 hw4 2
      rw [beginF_eq]
      have hgb5 := get_push (x := .cells (rC o p q t w) true) g4
      have hgc5 := get_push (x := .cells (rC o p q t w) true) c4
      rw [hrs] at r1
      have K5 : Keep (fun x => x = p) G3 (G3.set p (.cells (stC (setSt w.svs n 3)) true) ++ [.cells (rC o p q t w) true]) := k4.trans (Keep.push _ _ _)
      have a5 := a4.push (.cells (rC o p q t w) true)
      by_cases hbusy : ((setSt w.svs n 3).any fun x => decide (x.state = 2)) = true
      · rw [if_pos hbusy]
        rw [hbusy] at r1
        obtain ⟨m1, m2⟩ := mark 3 _ a5 hgc5 K5
        refine ⟨.slice none 0 0, _, t, ?_, m1, ⟨h.length, Nat.le_refl _, tb, .inl ⟨rfl, rfl⟩⟩, m2, fun x e => .inl e⟩
        rw [hrs]
        exact pvF 0 Try.func59 (v1p.fo_busy w.rule w.most w.within w.base w.cap w.now w.delay o p q w.svs.length (tvA t) (tvL t w.times.length) (tvZ t) w.given h.length (h.length + 1) (h.length + 2) ((n - 1).toNat * 3) (n - 1).toNat n (n - 1) x.when fk x.state ft (stC (setSt w.svs n 3)) (rC o p q t w) [] h _ h)
          ⟨l1, l2, l3, l4, l5, l6, l7, l11, l8, l5, l9, l10, Ev.eqT h2, l8, l5, l9, s1, a_ldn g4 (by simp [rC_len]) (by rfl), r1, a_ldn hgb5 (by simp [rC_len]) (by rfl), a_st hgc5 (by simp) (by rfl), a_ldn (get_set_eq hgc5) (by simp [rC_len]) (by rfl), trivial⟩
      · rw [if_neg hbusy]
        rw [Bool.eq_false_iff.2 hbusy] at r1
        obtain ⟨v, h2', r2, a6, o6, k6⟩ := groupR_run a5 hw4
        rw [hrs, rC_group] at r2
        have hrg : rC o p q t { ({ w with svs := setSt w.svs n 3 } : WS) with delay := 0 } = rC o p q t { w with delay := 0 } := rC_svs (w := { w with delay := 0 }) (setSt_len _ _ _)
        rw [hrg] at r2
        have hgc6 := k6.2 _ _ hgc5 (by rintro (e | e) <;> omega)
        have Kc : Keep (fun x => x = h.length + 2) h2' (h2'.set (h.length + 2) (.cells (rC o p q t { w with delay := 0 }) true)) := Keep.set (fp := fun x => x = h.length + 2) rfl _
        have hl5 : h.length + 3 ≤ (G3.set p (.cells (stC (setSt w.svs n 3)) true) ++ [AObj.cells (rC o p q t w) true]).length := by simp [G3]
        refine ⟨v, h2'.set (h.length + 2) (.cells (rC o p q t { w with delay := 0 }) true), t, ?_, a6.keep Kc (fun x hx e => nbd x (.inr e)), ⟨h.length + 3, by omega, fun x e => by have := tb x e; omega, ?_⟩, ?_, fun x e => .inl e⟩
        · rw [rC_group, hrg]
          exact pvF 0 Try.func59 (v1p.fo_group w.rule w.most w.within w.base w.cap w.now w.delay o p q w.svs.length (tvA t) (tvL t w.times.length) (tvZ t) w.given h.length (h.length + 1) (h.length + 2) ((n - 1).toNat * 3) (n - 1).toNat n (n - 1) x.when fk x.state ft (stC (setSt w.svs n 3)) (rC o p q t { w with delay := 0 }) [] h _ h2' 0 (tvA t) (tvL t w.times.length) (tvZ t) w.given v)
            ⟨l1, l2, l3, l4, l5, l6, l7, l11, l8, l5, l9, l10, Ev.eqT h2, l8, l5, l9, s1, a_ldn g4 (by simp [rC_len]) (by rfl), r1, a_ldn hgb5 (by simp [rC_len]) (by rfl), r2, a_st hgc6 (by simp) (by rfl), a_ldn (get_set_eq hgc6) (by simp [rC_len]) (by rfl), trivial⟩
        · exact (o6.keep Kc (fun x hx _ e => by omega)).base hl5
        · exact (((K3.mono fun x _ e => e.elim).trans_new K5 (fun x hx e => .inl e)).trans_new k6 (fun x hx e => by rcases e with e | e; exact .inl e; exact .inr (.inl e))).trans_new Kc (fun x hx e => by omega)
    · rw [if_neg h2]
      by_cases hgo : x.when = 3 ∨ (x.when = 2 ∧ fk ≠ 1)
      · rw [if_pos hgo]
        obtain ⟨G4, rfl, s1, a4, g4, c4, k4⟩ := lset 5
        obtain ⟨m1, m2⟩ := mark 5 _ a4 c4 k4
        refine ⟨.slice none 0 0, _, t, ?_, m1, ⟨h.length, Nat.le_refl _, tb, .inl ⟨rfl, rfl⟩⟩, m2, fun x e => .inl e⟩
        rw [hrs]
        by_cases h3 : x.when = 3
        · exact pvF 0 Try.func59 (v1p.fo_gone3 w.rule w.most w.within w.base w.cap w.now w.delay o p q w.svs.length (tvA t) (tvL t w.times.length) (tvZ t) w.given h.length (h.length + 1) (h.length + 2) ((n - 1).toNat * 3) (n - 1).toNat n (n - 1) x.when fk x.state ft (stC (setSt w.svs n 5)) (rC o p q t w) [] h h h)
            ⟨l1, l2, l3, l4, l5, l6, l7, l11, l8, l5, l9, l10, Ev.eqF h2, Ev.eqT h3, l8, l5, l9, s1, a_ldn g4 (by simp [rC_len]) (by rfl), a_st c4 (by simp) (by rfl), a_ldn (get_set_eq c4) (by simp [rC_len]) (by rfl), trivial⟩
        · have h4 : x.when = 2 ∧ fk ≠ 1 := by rcases hgo with e | e; exact absurd e h3; exact e
          exact pvF 0 Try.func59 (v1p.fo_gone2 w.rule w.most w.within w.base w.cap w.now w.delay o p q w.svs.length (tvA t) (tvL t w.times.length) (tvZ t) w.given h.length (h.length + 1) (h.length + 2) ((n - 1).toNat * 3) (n - 1).toNat n (n - 1) x.when fk x.state ft (stC (setSt w.svs n 5)) (rC o p q t w) [] h h h)
            ⟨l1, l2, l3, l4, l5, l6, l7, l11, l8, l5, l9, l10, Ev.eqF h2, Ev.eqF h3, Ev.eqT h4.1, a_ld1 gf rfl, Ev.neT h4.2, l8, l5, l9, s1, a_ldn g4 (by simp [rC_len]) (by rfl), a_st c4 (by simp) (by rfl), a_ldn (get_set_eq c4) (by simp [rC_len]) (by rfl), trivial⟩
      · rw [if_neg hgo]
        obtain ⟨v, h2', t', r2, a6, ⟨B, b1, b2, o6⟩, k6, t6⟩ := restart_run a3 hw ht hn
        have hr6 : rC o p q t' (againF w n).1 = rC o p q t' { w with times := (againF w n).1.times, delay := (againF w n).1.delay, given := (againF w n).1.given } := rC_to (again_same w n) (again_now w n) (hw.again ht n).2
        rw [hr6] at r2
        let R := rC o p q t' { w with times := (againF w n).1.times, delay := (againF w n).1.delay, given := (againF w n).1.given }
        have hgc6 := k6.2 _ _ gc (fun r => (nbd _ (.inr rfl)).1 r)
        have Kc : Keep (fun x => x = h.length + 2) h2' (h2'.set (h.length + 2) (.cells R true)) := Keep.set (fp := fun x => x = h.length + 2) rfl _
        refine ⟨v, h2'.set (h.length + 2) (.cells R true), t', ?_, a6.keep Kc (fun x hx e => ⟨?_, by omega⟩), ⟨B, by omega, b2, o6.keep Kc (fun x hx _ e => by omega)⟩, ?_, fun x e => .inr (by have := t6 x e; omega)⟩
        · rw [hr6]
          by_cases h3 : x.when = 2
          · have h4 : ¬ fk ≠ 1 := fun e => hgo (.inr ⟨h3, e⟩)
            exact pvF 0 Try.func59 (v1p.fo_re2 w.rule w.most w.within w.base w.cap w.now w.delay o p q w.svs.length (tvA t) (tvL t w.times.length) (tvZ t) w.given h.length (h.length + 1) (h.length + 2) ((n - 1).toNat * 3) (n - 1).toNat n (n - 1) x.when fk x.state ft [] R [] h h h2' (againF w n).1.delay (tvA t') (tvL t' (againF w n).1.times.length) (tvZ t') (againF w n).1.given v)
              ⟨l1, l2, l3, l4, l5, l6, l7, l11, l8, l5, l9, l10, Ev.eqF h2, Ev.eqF (fun e => hgo (.inl e)), Ev.eqT h3, a_ld1 gf rfl, Ev.neF (by omega), a_ldn gb (by simp [rC_len]) (by rfl), r2, a_st hgc6 (by simp) (by rfl), a_ldn (get_set_eq hgc6) (by simp [R, rC_len]) (by rfl), trivial⟩
          · exact pvF 0 Try.func59 (v1p.fo_re1 w.rule w.most w.within w.base w.cap w.now w.delay o p q w.svs.length (tvA t) (tvL t w.times.length) (tvZ t) w.given h.length (h.length + 1) (h.length + 2) ((n - 1).toNat * 3) (n - 1).toNat n (n - 1) x.when fk x.state ft [] R [] h h h2' (againF w n).1.delay (tvA t') (tvL t' (againF w n).1.times.length) (tvZ t') (againF w n).1.given v)
              ⟨l1, l2, l3, l4, l5, l6, l7, l11, l8, l5, l9, l10, Ev.eqF h2, Ev.eqF (fun e => hgo (.inl e)), Ev.eqF h3, a_ldn gb (by simp [rC_len]) (by rfl), r2, a_st hgc6 (by simp) (by rfl), a_ldn (get_set_eq hgc6) (by simp [R, rC_len]) (by rfl), trivial⟩
        · rintro (r | r | r)
          · omega
          · omega
          · have := t6 x r; omega
        · exact ((K3.mono fun x _ e => e.elim).trans_new k6 (fun x hx e => e)).trans_new Kc (fun x hx e => by omega)

end Go.Proofs.Ytkkhokgpcifckaa.rf

namespace Go.Proofs.Ytkkhokgpcifckaa.wd
open Go Go.Ev
set_option maxRecDepth 100000
set_option linter.constructorNameAsVariable false
set_option linter.unusedVariables false

/-! ### Ends: the walk -/

/-- A reply has few orders. -/
theorem follow_len {w : WS} (n8 : w.svs.length ≤ 8) (n fk : Int) (x : Sv) : (followF w n fk x).2.length ≤ 100 := by
  unfold followF
  split
  · simp
  · split
    · have := beginF_len { w with svs := setSt w.svs n 3 }
      simp only [setSt_len] at this
      omega
    · split
      · simp
      · unfold againF
        split
        · simp only [giveUpF, List.length_cons]
          have := stO_len (fun _ => true) 0 (gave (timed w) n).svs
          simp only [gave, mS_len, setSt_len, timed] at this ⊢
          omega
        · have h1 := beginF_len (off3 w n)
          have h2 := stO_len (nameP w n) 0 (off1 w n).svs
          rw [off3_len] at h1
          rw [off1_len] at h2
          simp only [List.length_append]
          omega
theorem run_len {w : WS} (hw : WOk w) (ht : w.times.length < 10000) (o : OpV) : (runF w o).2.length ≤ 1000 := by
  unfold runF
  split
  · unfold endedF
    split
    · simp
    · split
      · simp
      · split
        · rename_i x _ _
          have := follow_len (w := { w with now := o.at' }) hw.n8 o.n o.fk x
          simp only [doneF]
          split
          · simp only [List.length_append, List.length_cons, List.length_nil]; omega
          · omega
        · simp
  · simp

end Go.Proofs.Ytkkhokgpcifckaa.wd

namespace Go.Proofs.Ytkkhokgpcifckaa.rf
open Go Go.Ev Go.Proofs.Ytkkhokgpcifckaa.wd
set_option maxRecDepth 100000
set_option linter.constructorNameAsVariable false
set_option linter.unusedVariables false

variable {h h' g g' : Hp} {o p q : Nat} {t : Option Nat} {w : WS}

/-! ### Ended -/
theorem Sts.of {w w' : WS} (hs : Sts w) (e : Each WH w.svs w'.svs) : Sts w' := by
  refine mem_of_get fun k x hx => ?_
  have hk : k < w.svs.length := by have := get_lt' hx; rw [e.1] at this; exact this
  exact (e.2 k _ x (List.getElem?_eq_getElem hk) hx).2 (hs _ (List.getElem_mem hk))

theorem ended_mid {gk : Hp} {H b b2 c : Nat} {n fk now : Int} {ft : ByteArray} {x : Sv} (a : RAt gk o p q t w) (hw : WOk w) (ht : w.times.length < 10000) (hs : Sts w) (hnow : w.now ≤ now ∧ now ≤ 1000000000000) (hn : 1 ≤ n ∧ n ≤ w.svs.length) (hx : w.svs[(n - 1).toNat]? = some x)
    (gb : gk[b]? = some (.cells (rC o p q t w) true)) (gf : gk[b2]? = some (.cells [.int .i64 fk, .string ft] true)) (gc : gk[c]? = some zR) (hbc : b ≠ c) (hbf : b ≠ b2) (hH : H ≤ b ∧ H ≤ c ∧ H ≤ gk.length) (hob : o ≠ b ∧ o ≠ c) :
    ∃ g4 p1 q1 t1 g5 t2 v B, Run Try.prog 58 [.agg (rC o p q t w).toArray] gk (.agg (rC o p1 q1 t1 w).toArray) g4 ∧
      (Asm.st (.is g4) b 0 (rC o p1 q1 t1 w) (rC o p1 q1 t1 w)).holds Try.prog ∧ (Asm.st (.set (.is g4) b (.cells (rC o p1 q1 t1 w) true)) b 8 [.int .i64 now] (rC o p1 q1 t1 { w with now := now })).holds Try.prog ∧
      (Asm.ldn (.set (.set (.is g4) b (.cells (rC o p1 q1 t1 w) true)) b (.cells (rC o p1 q1 t1 { w with now := now }) true)) b 0 12 (rC o p1 q1 t1 { w with now := now })).holds Try.prog ∧
      (Asm.ldn (.set (.set (.is g4) b (.cells (rC o p1 q1 t1 w) true)) b (.cells (rC o p1 q1 t1 { w with now := now }) true)) b2 0 2 [.int .i64 fk, .string ft]).holds Try.prog ∧
      (let w3 := (followF { w with now := now } n fk x).1
       let R := rC o p1 q1 t2 { w with now := now, times := w3.times, delay := w3.delay, given := w3.given }
       Run Try.prog 59 [.agg (rC o p1 q1 t1 { w with now := now }).toArray, .int .i64 n, .agg #[.int .i64 fk, .string ft]] ((g4.set b (.cells (rC o p1 q1 t1 w) true)).set b (.cells (rC o p1 q1 t1 { w with now := now }) true)) (.tuple #[.agg R.toArray, v]) g5 ∧
       (Asm.st (.is g5) b 0 R R).holds Try.prog ∧ (Asm.ldn (.set (.is g5) b (.cells R true)) b 0 12 R).holds Try.prog ∧
       Run Try.prog 55 [.agg R.toArray, .int .i64 5] (g5.set b (.cells R true)) (.bool (overOf w3)) (g5.set b (.cells R true) ++ [.cells R true]) ∧
       (Asm.ldn (.is (g5.set b (.cells R true) ++ [.cells R true])) b 0 12 R).holds Try.prog ∧ RAt (g5.set b (.cells R true) ++ [.cells R true]) o p1 q1 t2 w3 ∧ (g5.set b (.cells R true) ++ [AObj.cells R true])[c]? = some zR ∧
       OrdAt (g5.set b (.cells R true) ++ [.cells R true]) B v (followF { w with now := now } n fk x).2 ∧ R = rC o p1 q1 t2 w3 ∧
       (g5.set b (.cells R true) ++ [AObj.cells R true])[b]? = some (.cells R true)) ∧ (∀ y, (fpR p1 q1 t2 y ∨ y = o ∨ y = b ∨ y = c) → y < B) ∧ (∀ y, fpR p1 q1 t2 y → gk.length ≤ y) ∧ H ≤ B ∧
      Keep (fun y => H ≤ y) gk (g5.set b (.cells (rC o p1 q1 t2 { w with now := now, times := (followF { w with now := now } n fk x).1.times, delay := (followF { w with now := now } n fk x).1.delay, given := (followF { w with now := now } n fk x).1.given }) true) ++
        [.cells (rC o p1 q1 t2 { w with now := now, times := (followF { w with now := now } n fk x).1.times, delay := (followF { w with now := now } n fk x).1.delay, given := (followF { w with now := now } n fk x).1.given }) true]) := by
  have n8 := hw.n8
  have hnw := hw.now
  have hol := a.olt
  have hbl := get_lt gb
  have hcl := get_lt gc
  have hfl := get_lt gf
  obtain ⟨p1, q1, t1, g4, r1, a4, k4, f4⟩ := copied_run a hw
  have gb4 := k4.2 _ _ gb (fun e => e)
  have gc4 := k4.2 _ _ gc (fun e => e)
  have gf4 := k4.2 _ _ gf (fun e => e)
  have hl4 := k4.1
  let wn : WS := { w with now := now }
  let C1 := rC o p1 q1 t1 w
  let C2 := rC o p1 q1 t1 wn
  let g4a : Hp := g4.set b (.cells C1 true)
  let g4b : Hp := g4a.set b (.cells C2 true)
  have gb4a : g4a[b]? = some (.cells C1 true) := get_set_eq gb4
  have gb4b : g4b[b]? = some (.cells C2 true) := get_set_eq gb4a
  have gc4b : g4b[c]? = some zR := get_set_ne (get_set_ne gc4 hbc) hbc
  have gf4b : g4b[b2]? = some (.cells [.int .i64 fk, .string ft] true) := get_set_ne (get_set_ne gf4 hbf) hbf
  have K4b : Keep (fun y => y = b) g4 g4b := (Keep.set (fp := fun y => y = b) rfl _).trans (Keep.set (fp := fun y => y = b) rfl _)
  have nb1 : ∀ y, (y = b ∨ y = c) → ¬ fpR p1 q1 t1 y ∧ y ≠ o := fun y e => ⟨fun r => by have := f4 y r; omega, by omega⟩
  have a4b : RAt g4b o p1 q1 t1 wn := (a4.keep K4b (fun y hy e => nb1 y (.inl e))).same rfl rfl
  have hwn : WOk wn := ⟨hw.n1, hw.n8, hw.most, hw.within, hw.base, hw.cap, by show 0 ≤ now ∧ now ≤ 1000000000000; omega, hw.delay, hw.times, hw.rule⟩
  obtain ⟨v, g5, t2, r2, a5, ⟨B, hB1, hB2, o5⟩, k5, f5⟩ := followR_run (fk := fk) (ft := ft) a4b hwn ht hn hx
  have hl4b : g4b.length = g4.length := by simp [g4b, g4a]
  have hR : rC o p1 q1 t2 (followF wn n fk x).1 = rC o p1 q1 t2 { w with now := now, times := (followF wn n fk x).1.times, delay := (followF wn n fk x).1.delay, given := (followF wn n fk x).1.given } := rC_to (follow_same wn n fk x) (follow_now wn n fk x) (hwn.follow ht n fk x).2
  have hwf := (hwn.follow ht n fk x).1
  have hsf : Sts (followF wn n fk x).1 := Sts.of (w := wn) hs (follow_wh wn n fk x)
  let R := rC o p1 q1 t2 { w with now := now, times := (followF wn n fk x).1.times, delay := (followF wn n fk x).1.delay, given := (followF wn n fk x).1.given }
  rw [hR] at r2
  have gb5 := k5.2 _ _ gb4b (fun r => (nb1 b (.inl rfl)).1 r)
  have gc5 := k5.2 _ _ gc4b (fun r => (nb1 c (.inr rfl)).1 r)
  have hfr : ∀ y, fpR p1 q1 t2 y → gk.length ≤ y := fun y r => by
    rcases r with r | r | r
    · exact f4 y (.inl r)
    · exact f4 y (.inr (.inl r))
    · rcases f5 y r with e | e
      · exact f4 y (.inr (.inr e))
      · omega
  have nb2 : ∀ y, (y = b ∨ y = c) → ¬ fpR p1 q1 t2 y ∧ y ≠ o := fun y e => ⟨fun r => by have := hfr y r; omega, by omega⟩
  have hBall : ∀ y, (fpR p1 q1 t2 y ∨ y = o ∨ y = b ∨ y = c) → y < B := fun y e => by
    rcases e with (r | r | r) | r | r | r
    · have := a4.lts y (.inl r); omega
    · have := a4.lts y (.inr (.inl r)); omega
    · exact hB2 y r
    · omega
    · omega
    · omega
  let g6 : Hp := g5.set b (.cells R true)
  have gb6 : g6[b]? = some (.cells R true) := get_set_eq gb5
  have K6 : Keep (fun y => y = b) g5 g6 := Keep.set (fp := fun y => y = b) rfl _
  have a6 : RAt g6 o p1 q1 t2 (followF wn n fk x).1 := a5.keep K6 (fun y hy e => nb2 y (.inl e))
  have r3 := every_run a6 hwf 5
  rw [every5 hsf, hR] at r3
  have gc6 : g6[c]? = some zR := get_set_ne gc5 hbc
  have o6 : OrdAt g6 B v (followF wn n fk x).2 := o5.keep K6 (fun y hy _ e => by have := hBall b (.inr (.inr (.inl rfl))); omega)
  refine ⟨g4, p1, q1, t1, g5, t2, v, B, r1, a_st gb4 (by simp [rC]) (by rfl), a_st gb4a (by simp [C1, rC]) (by rfl), a_ldn gb4b (by simp [C2, rC_len]) (by rfl), a_ldn gf4b (by simp) (by rfl), ⟨r2, a_st gb5 (by simp [C2, rC]) (by rfl), a_ldn gb6 (by simp [R, rC_len]) (by rfl), r3, a_ldn (get_push gb6) (by simp [R, rC_len]) (by rfl), a6.push _, get_push gc6,
    o6.keep (Keep.push (fun _ => False) _ _) (fun y _ _ e => e), hR.symm, get_push gb6⟩, hBall, hfr, by omega, ?_⟩
  have e1 : Keep (fun y => H ≤ y) gk g4 := k4.mono fun y _ e => e.elim
  have e2 := e1.trans_new K4b (fun y hy e => by omega)
  have e3 := e2.trans_new k5 (fun y hy e => by have := f4 y e; omega)
  exact (e3.trans_new K6 (fun y hy e => by omega)).trans (Keep.push _ _ _)

theorem lateB_t {w : WS} {now : Int} (h : now < w.now ∨ now > 1000000000000) : lateB w now = true := by
  rcases h with h | h <;> simp [lateB, h]
theorem endedR_run (a : RAt h o p q t w) (hw : WOk w) (ht : w.times.length < 10000) (hs : Sts w) (n fk now : Int) (ft : ByteArray) :
    ∃ v h' p' q' t', Run Try.prog 41 [.agg (rC o p q t w).toArray, .int .i64 n, .agg #[.int .i64 fk, .string ft], .int .i64 now] h (.tuple #[.agg (rC o p' q' t' (endedF w n fk ft now).1).toArray, v, .int .i64 (endedF w n fk ft now).2.2]) h' ∧
      RAt h' o p' q' t' (endedF w n fk ft now).1 ∧ OrdAt h' h.length v (endedF w n fk ft now).2.1 ∧ Keep (fun _ => False) h h' ∧ (∀ x, fpR p' q' t' x → fpR p q t x ∨ h.length ≤ x) := by
  have n8 := hw.n8
  have hol := a.olt
  have hlt := a.lts
  let fc : List Value := [.int .i64 fk, .string ft]
  let G3 : Hp := h ++ [AObj.cells (rC o p q t w) true] ++ [AObj.cells fc true] ++ [zR]
  have a3 : RAt G3 o p q t w := ((a.push _).push _).push _
  have gb : G3[h.length]? = some (.cells (rC o p q t w) true) := get_push (get_push (get_new h _))
  have gf : G3[h.length + 1]? = some (.cells fc true) := get_push (get_new' _ (by simp))
  have gc : G3[h.length + 2]? = some zR := get_new' _ (by simp)
  have K3 : Keep (fun _ => False) h G3 := ((Keep.push _ _ _).trans (Keep.push _ _ _)).trans (Keep.push _ _ _)
  have l1 : (Asm.len (.is h) h.length).holds Try.prog := rfl
  have l2 : (Asm.len (.push (.is h) (.cells (rC o p q t w) true)) (h.length + 1)).holds Try.prog := by simp [Asm.holds, SH.den]
  have l3 : (Asm.len (.push (.push (.is h) (.cells (rC o p q t w) true)) (.cells fc true)) (h.length + 2)).holds Try.prog := by simp [Asm.holds, SH.den]
  have l4 : (Asm.ldn (.push (.push (.push (.is h) (.cells (rC o p q t w) true)) (.cells fc true)) zR) (h.length + 1) 0 2 fc).holds Try.prog := a_ldn gf (by simp [fc]) (by rfl)
  have rv := validR_run G3 fk ft
  let G4 : Hp := G3 ++ [.cells fc true]
  have nbd : ∀ y, (y = h.length ∨ y = h.length + 2) → ¬ fpR p q t y ∧ y ≠ o := fun y e => ⟨fun r => by have := hlt y r; omega, by omega⟩
  -- refused: nothing is done
  have no : ∀ (gk : Hp), RAt gk o p q t w → gk[h.length]? = some (.cells (rC o p q t w) true) → gk[h.length + 2]? = some zR → Keep (fun _ => False) h gk →
      (Asm.ldn (.is gk) h.length 0 12 (rC o p q t w)).holds Try.prog ∧ (Asm.st (.is gk) (h.length + 2) 0 (rC o p q t w) (rC o p q t w)).holds Try.prog ∧ (Asm.ldn (.set (.is gk) (h.length + 2) (.cells (rC o p q t w) true)) (h.length + 2) 0 12 (rC o p q t w)).holds Try.prog ∧
      RAt (gk.set (h.length + 2) (.cells (rC o p q t w) true)) o p q t w ∧ Keep (fun _ => False) h (gk.set (h.length + 2) (.cells (rC o p q t w) true)) := fun gk ak kb kc kk =>
    ⟨a_ldn kb (by simp [rC_len]) (by rfl), a_st kc (by simp [rC_len]) (by rfl), a_ldn (get_set_eq kc) (by simp [rC_len]) (by rfl), ak.keep (Keep.set (fp := fun y => y = h.length + 2) rfl _) (fun y hy e => nbd y (.inr e)), kk.setN (by omega) _⟩
  have a4 : RAt G4 o p q t w := a3.push _
  have gb4 : G4[h.length]? = some (.cells (rC o p q t w) true) := get_push gb
  have gc4 : G4[h.length + 2]? = some zR := get_push gc
  have gf4 : G4[h.length + 1]? = some (.cells fc true) := get_push gf
  have K4 : Keep (fun _ => False) h G4 := K3.pushN _
  by_cases hf : faultB fk ft = false
  · rw [hf] at rv
    obtain ⟨m1, m2, m3, m4, m5⟩ := no G4 a4 gb4 gc4 K4
    have e : endedF w n fk ft now = (w, [], 2) := by simp only [endedF]; rw [if_pos (.inr hf)]
    rw [e]
    exact ⟨.slice none 0 0, _, p, q, t, pvF 0 Try.func41 (v1p.en_b0 w.rule w.most w.within w.base w.cap w.now w.delay o p q w.svs.length (tvA t) (tvL t w.times.length) (tvZ t) w.given h.length (h.length + 1) (h.length + 2) n fk now ft (rC o p q t w) [] [] [] [] h G4 h h h h h) ⟨l1, l2, l3, l4, rv, m1, m2, m3, trivial⟩, m4, .inl ⟨rfl, rfl⟩, m5, fun x e => .inl e⟩
  · have hft : faultB fk ft = true := by simpa using hf
    rw [hft] at rv
    have l5 : (Asm.ld1 (.is G4) h.length 8 (.int .i64 w.now)).holds Try.prog := a_ld1 gb4 rfl
    by_cases h1 : now < w.now
    · obtain ⟨m1, m2, m3, m4, m5⟩ := no G4 a4 gb4 gc4 K4
      have e : endedF w n fk ft now = (w, [], 2) := by simp only [endedF]; rw [if_pos (.inl (lateB_t (.inl h1)))]
      rw [e]
      exact ⟨.slice none 0 0, _, p, q, t, pvF 0 Try.func41 (v1p.en_b1 w.rule w.most w.within w.base w.cap w.now w.delay o p q w.svs.length (tvA t) (tvL t w.times.length) (tvZ t) w.given h.length (h.length + 1) (h.length + 2) n fk now ft (rC o p q t w) [] [] [] [] h G4 h h h h h) ⟨l1, l2, l3, l4, rv, l5, ltT h1, m1, m2, m3, trivial⟩, m4, .inl ⟨rfl, rfl⟩, m5, fun x e => .inl e⟩
    · by_cases h2 : now > 1000000000000
      · obtain ⟨m1, m2, m3, m4, m5⟩ := no G4 a4 gb4 gc4 K4
        have e : endedF w n fk ft now = (w, [], 2) := by simp only [endedF]; rw [if_pos (.inl (lateB_t (.inr h2)))]
        rw [e]
        exact ⟨.slice none 0 0, _, p, q, t, pvF 0 Try.func41 (v1p.en_b2 w.rule w.most w.within w.base w.cap w.now w.delay o p q w.svs.length (tvA t) (tvL t w.times.length) (tvZ t) w.given h.length (h.length + 1) (h.length + 2) n fk now ft (rC o p q t w) [] [] [] [] h G4 h h h h h) ⟨l1, l2, l3, l4, rv, l5, ltF (by omega), gtT h2, m1, m2, m3, trivial⟩, m4, .inl ⟨rfl, rfl⟩, m5, fun x e => .inl e⟩
      · have hlb : lateB w now = false := by unfold lateB; rw [decide_eq_false h1, decide_eq_false h2]; rfl
        have e0 : ¬ (lateB w now = true ∨ faultB fk ft = false) := by simp [hlb, hft]
        have l6 : (Asm.ldn (.is G4) h.length 0 12 (rC o p q t w)).holds Try.prog := a_ldn gb4 (by simp [rC_len]) (by rfl)
        have i1 := is_run a4 hw n 1
        let G5 : Hp := G4 ++ [.cells (rC o p q t w) true]
        have a5 : RAt G5 o p q t w := a4.push _
        have gb5 : G5[h.length]? = some (.cells (rC o p q t w) true) := get_push gb4
        have gc5 : G5[h.length + 2]? = some zR := get_push gc4
        have gf5 : G5[h.length + 1]? = some (.cells fc true) := get_push gf4
        have K5 : Keep (fun _ => False) h G5 := K4.pushN _
        have l7 : (Asm.ldn (.is G5) h.length 0 12 (rC o p q t w)).holds Try.prog := a_ldn gb5 (by simp [rC_len]) (by rfl)
        have i2 := is_run a5 hw n 2
        let G6 : Hp := G5 ++ [.cells (rC o p q t w) true]
        have a6 : RAt G6 o p q t w := a5.push _
        have gb6 : G6[h.length]? = some (.cells (rC o p q t w) true) := get_push gb5
        have gc6 : G6[h.length + 2]? = some zR := get_push gc5
        have gf6 : G6[h.length + 1]? = some (.cells fc true) := get_push gf5
        have K6 : Keep (fun _ => False) h G6 := K5.pushN _
        by_cases hon : ∃ x, svAt w n = some x ∧ (x.state = 1 ∨ x.state = 2)
        · obtain ⟨x, hx, hst⟩ := hon
          obtain ⟨hn, hxx⟩ := svAt_some hx
          by_cases hst1 : x.state = 1
          · have f1 : isF w n 1 = true := by simp [isF, hx, hst1]
            rw [f1] at i1
            obtain ⟨g4, p1, q1, t1, g5, t2, v, B, e1, e2, e3, e4, e5, ⟨e6, e7, e8, e9, e10, e11, e12, e13, e14, e15⟩, hB, hfr, hHB, kk⟩ := ended_mid (gk := G5) (H := h.length) (b := h.length) (b2 := h.length + 1) (c := h.length + 2) (fk := fk) (ft := ft) (now := now) a5 hw ht hs ⟨by omega, by omega⟩ hn hxx gb5 gf5 gc5 (by omega) (by omega) ⟨Nat.le_refl _, by omega, K5.1⟩ ⟨by omega, by omega⟩
            have lk : (Asm.ldn (.is G5) h.length 0 12 (rC o p q t w)).holds Try.prog := a_ldn gb5 (by simp [rC_len]) (by rfl)
            have hgkl : h.length ≤ G5.length := K5.1
            have KH := K5.trans_new kk (fun y hy e => by omega)
            have nbc : ∀ y, y = h.length + 2 → ¬ fpR p1 q1 t2 y ∧ y ≠ o := fun y e => ⟨fun r => by have := hfr y r; have := get_lt gc5; omega, by omega⟩
            have hfr' : ∀ y, fpR p1 q1 t2 y → fpR p q t y ∨ h.length ≤ y := fun y r => .inr (by have := hfr y r; omega)
            generalize hw3 : (followF { w with now := now } n fk x).1 = w3 at *
            generalize hL3 : (followF { w with now := now } n fk x).2 = L3 at *
            generalize hG' : (g5.set h.length (.cells (rC o p1 q1 t2 { w with now := now, times := w3.times, delay := w3.delay, given := w3.given }) true) ++ [AObj.cells (rC o p1 q1 t2 { w with now := now, times := w3.times, delay := w3.delay, given := w3.given }) true]) = G' at *
            have hcB : h.length + 2 < B := hB _ (.inr (.inr (.inr rfl)))
            have lenR : (rC o p1 q1 t2 { w with now := now, times := w3.times, delay := w3.delay, given := w3.given }).length = 12 := rfl
            by_cases hov : overOf w3 = true
            · have e : endedF w n fk ft now = (w3, L3 ++ [⟨4, 0, 0⟩], 0) := by
                simp only [endedF, doneF]; rw [if_neg e0, hx]; simp only []; rw [if_pos hst, hw3, hL3, if_pos hov]
              rw [e]
              simp only []
              rw [hov] at e9
              have hLl : L3.length ≤ 100 := by rw [← hL3]; exact follow_len (w := { w with now := now }) n8 n fk x
              rcases e13 with ⟨rfl, hnil⟩ | ⟨a', rfl, ho, hbo, hne⟩
              · have gcF := get_push (x := .cells [.int .i64 4, .int .i64 0, .int .i64 0] true) (get_push (x := .cells [.int .i64 4, .int .i64 0, .int .i64 0] true) e12)
                have gbF := get_push (x := .cells [.int .i64 4, .int .i64 0, .int .i64 0] true) (get_push (x := .cells [.int .i64 4, .int .i64 0, .int .i64 0] true) e15)
                refine ⟨.slice (some ⟨G'.length + 1, 0, none⟩) 1 3, _, p1, q1, t2, (by rw [← e14]; exact pvF 0 Try.func41 (v1p.en_ov1n w.rule w.most w.within w.base w.cap w.now w.delay o p q w.svs.length (tvA t) (tvL t w.times.length) (tvZ t) w.given h.length (h.length + 1) (h.length + 2) n fk now ft (rC o p1 q1 t1 w) (rC o p1 q1 t1 { w with now := now }) (rC o p1 q1 t2 { w with now := now, times := w3.times, delay := w3.delay, given := w3.given }) (rC o p1 q1 t2 { w with now := now, times := w3.times, delay := w3.delay, given := w3.given }) [] h G4 G5 h g4 g5 G' p1 q1 (tvA t1) (tvA t2) (tvL t1 w.times.length) (tvZ t1) (tvL t2 w3.times.length) (tvZ t2) w3.delay w3.given G'.length (G'.length + 1) [] _) ⟨l1, l2, l3, l4, rv, l5, ltF (by omega), gtF (by omega), l6, i1, lk, e1, e2, e3, e4, e5, e6, e7, e8, e9, rfl,
                  ⟨rfl, ⟨_, cells_of (get_new' _ (by simp [SH.den])), by simp, rfl⟩, rfl, by omega, by omega, by simp [SH.den]⟩, a_ldn gbF (by omega) (by rfl), a_st gcF (by simp) (by rfl), a_ldn (get_set_eq gcF) (by omega) (by rfl), trivial⟩), ?_, ?_, ?_, hfr'⟩
                · exact ((e11.push _).push _).keep (Keep.set (fp := fun y => y = h.length + 2) rfl _) (fun y hy e => nbc y e)
                · rw [hnil]
                  exact .inr ⟨_, rfl, get_set_ne (get_new' (h := G' ++ [AObj.cells [.int .i64 4, .int .i64 0, .int .i64 0] true]) _ (by simp)) (by have := get_lt e12; omega), by have := KH.1; omega, by simp⟩
                · exact ((KH.pushN _).pushN _).setN (by omega) _
              · have ha' := get_lt ho
                have hap := a_app3 (P := Try.prog) (s := .push (.is G') (.cells [.int .i64 4, .int .i64 0, .int .i64 0] true)) (o1 := a') (o2 := G'.length) (d := G'.length + 1) (l1 := L3) (l2 := [⟨4, 0, 0⟩])
                  (get_push ho) (get_new _ _) (by simp) (by simp; omega) (by simp [SH.den])
                have hab : a' ≠ h.length := by omega
                have gcF := get_push (x := .cells (svC (L3 ++ [(⟨4, 0, 0⟩ : Sv)])) true) (get_set_ne (i := a') (x := .dead) (get_push (x := .cells [.int .i64 4, .int .i64 0, .int .i64 0] true) e12) (by omega))
                have gbF := get_push (x := .cells (svC (L3 ++ [(⟨4, 0, 0⟩ : Sv)])) true) (get_set_ne (i := a') (x := .dead) (get_push (x := .cells [.int .i64 4, .int .i64 0, .int .i64 0] true) e15) hab)
                refine ⟨.slice (some ⟨G'.length + 1, 0, none⟩) (L3.length + 1) 3, _, p1, q1, t2, (by rw [← e14]; exact pvF 0 Try.func41 (v1p.en_ov1s w.rule w.most w.within w.base w.cap w.now w.delay o p q w.svs.length (tvA t) (tvL t w.times.length) (tvZ t) w.given h.length (h.length + 1) (h.length + 2) n fk now ft (rC o p1 q1 t1 w) (rC o p1 q1 t1 { w with now := now }) (rC o p1 q1 t2 { w with now := now, times := w3.times, delay := w3.delay, given := w3.given }) (rC o p1 q1 t2 { w with now := now, times := w3.times, delay := w3.delay, given := w3.given }) [] h G4 G5 h g4 g5 G' p1 q1 (tvA t1) (tvA t2) (tvL t1 w.times.length) (tvZ t1) (tvL t2 w3.times.length) (tvZ t2) w3.delay w3.given a' L3.length G'.length (G'.length + 1) (svC (L3 ++ [(⟨4, 0, 0⟩ : Sv)])) _) ⟨l1, l2, l3, l4, rv, l5, ltF (by omega), gtF (by omega), l6, i1, lk, e1, e2, e3, e4, e5, e6, e7, e8, e9, rfl,
                  hap, a_ldn gbF (by omega) (by rfl), a_st gcF (by simp) (by rfl), a_ldn (get_set_eq gcF) (by omega) (by rfl), trivial⟩), ?_, ?_, ?_, hfr'⟩
                · exact (((e11.push _).keep (Keep.set (fp := fun y => y = a') rfl _) (fun y hy e => by subst e; exact ⟨fun r => by have := hB y (.inl r); omega, fun r => by have := hB y (.inr (.inl r)); omega⟩)).push _).keep (Keep.set (fp := fun y => y = h.length + 2) rfl _) (fun y hy e => nbc y e)
                · exact .inr ⟨G'.length + 1, by rw [List.length_append]; rfl, get_set_ne (get_new' (h := (G' ++ [AObj.cells [.int .i64 4, .int .i64 0, .int .i64 0] true]).set a' .dead) _ (by simp)) (by have := get_lt e12; omega), by have := KH.1; omega, by simp⟩
                · exact (((KH.pushN _).setN (by omega) _).pushN _).setN (by omega) _
            · have e : endedF w n fk ft now = (w3, L3, 0) := by
                simp only [endedF, doneF]; rw [if_neg e0, hx]; simp only []; rw [if_pos hst, hw3, hL3, if_neg hov]
              rw [e]
              simp only []
              rw [Bool.eq_false_iff.2 hov] at e9
              exact ⟨v, _, p1, q1, t2, (by rw [← e14]; exact pvF 0 Try.func41 (v1p.en_on1 w.rule w.most w.within w.base w.cap w.now w.delay o p q w.svs.length (tvA t) (tvL t w.times.length) (tvZ t) w.given h.length (h.length + 1) (h.length + 2) n fk now ft (rC o p1 q1 t1 w) (rC o p1 q1 t1 { w with now := now }) (rC o p1 q1 t2 { w with now := now, times := w3.times, delay := w3.delay, given := w3.given }) (rC o p1 q1 t2 { w with now := now, times := w3.times, delay := w3.delay, given := w3.given }) [] h G4 G5 h g4 g5 G' p1 q1 (tvA t1) (tvA t2) (tvL t1 w.times.length) (tvZ t1) (tvL t2 w3.times.length) (tvZ t2) w3.delay w3.given v) ⟨l1, l2, l3, l4, rv, l5, ltF (by omega), gtF (by omega), l6, i1, lk, e1, e2, e3, e4, e5, e6, e7, e8, e9, e10, a_st e12 (by simp) (by rfl), a_ldn (get_set_eq e12) (by omega) (by rfl), trivial⟩),
                e11.keep (Keep.set (fp := fun y => y = h.length + 2) rfl _) (fun y hy e => nbc y e), (e13.keep (Keep.set (fp := fun y => y = h.length + 2) rfl _) (fun y hy _ e => by omega)).base hHB, KH.setN (by omega) _, hfr'⟩
          · have hst2 : x.state = 2 := by rcases hst with e | e; exact absurd e hst1; exact e
            have f1 : isF w n 1 = false := by simp [isF, hx, hst1]
            have f2 : isF w n 2 = true := by simp [isF, hx, hst2]
            rw [f1] at i1
            rw [f2] at i2
            obtain ⟨g4, p1, q1, t1, g5, t2, v, B, e1, e2, e3, e4, e5, ⟨e6, e7, e8, e9, e10, e11, e12, e13, e14, e15⟩, hB, hfr, hHB, kk⟩ := ended_mid (gk := G6) (H := h.length) (b := h.length) (b2 := h.length + 1) (c := h.length + 2) (fk := fk) (ft := ft) (now := now) a6 hw ht hs ⟨by omega, by omega⟩ hn hxx gb6 gf6 gc6 (by omega) (by omega) ⟨Nat.le_refl _, by omega, K6.1⟩ ⟨by omega, by omega⟩
            have lk : (Asm.ldn (.is G6) h.length 0 12 (rC o p q t w)).holds Try.prog := a_ldn gb6 (by simp [rC_len]) (by rfl)
            have hgkl : h.length ≤ G6.length := K6.1
            have KH := K6.trans_new kk (fun y hy e => by omega)
            have nbc : ∀ y, y = h.length + 2 → ¬ fpR p1 q1 t2 y ∧ y ≠ o := fun y e => ⟨fun r => by have := hfr y r; have := get_lt gc6; omega, by omega⟩
            have hfr' : ∀ y, fpR p1 q1 t2 y → fpR p q t y ∨ h.length ≤ y := fun y r => .inr (by have := hfr y r; omega)
            generalize hw3 : (followF { w with now := now } n fk x).1 = w3 at *
            generalize hL3 : (followF { w with now := now } n fk x).2 = L3 at *
            generalize hG' : (g5.set h.length (.cells (rC o p1 q1 t2 { w with now := now, times := w3.times, delay := w3.delay, given := w3.given }) true) ++ [AObj.cells (rC o p1 q1 t2 { w with now := now, times := w3.times, delay := w3.delay, given := w3.given }) true]) = G' at *
            have hcB : h.length + 2 < B := hB _ (.inr (.inr (.inr rfl)))
            have lenR : (rC o p1 q1 t2 { w with now := now, times := w3.times, delay := w3.delay, given := w3.given }).length = 12 := rfl
            by_cases hov : overOf w3 = true
            · have e : endedF w n fk ft now = (w3, L3 ++ [⟨4, 0, 0⟩], 0) := by
                simp only [endedF, doneF]; rw [if_neg e0, hx]; simp only []; rw [if_pos hst, hw3, hL3, if_pos hov]
              rw [e]
              simp only []
              rw [hov] at e9
              have hLl : L3.length ≤ 100 := by rw [← hL3]; exact follow_len (w := { w with now := now }) n8 n fk x
              rcases e13 with ⟨rfl, hnil⟩ | ⟨a', rfl, ho, hbo, hne⟩
              · have gcF := get_push (x := .cells [.int .i64 4, .int .i64 0, .int .i64 0] true) (get_push (x := .cells [.int .i64 4, .int .i64 0, .int .i64 0] true) e12)
                have gbF := get_push (x := .cells [.int .i64 4, .int .i64 0, .int .i64 0] true) (get_push (x := .cells [.int .i64 4, .int .i64 0, .int .i64 0] true) e15)
                refine ⟨.slice (some ⟨G'.length + 1, 0, none⟩) 1 3, _, p1, q1, t2, (by rw [← e14]; exact pvF 0 Try.func41 (v1p.en_ov2n w.rule w.most w.within w.base w.cap w.now w.delay o p q w.svs.length (tvA t) (tvL t w.times.length) (tvZ t) w.given h.length (h.length + 1) (h.length + 2) n fk now ft (rC o p1 q1 t1 w) (rC o p1 q1 t1 { w with now := now }) (rC o p1 q1 t2 { w with now := now, times := w3.times, delay := w3.delay, given := w3.given }) (rC o p1 q1 t2 { w with now := now, times := w3.times, delay := w3.delay, given := w3.given }) [] h G4 G5 G6 g4 g5 G' p1 q1 (tvA t1) (tvA t2) (tvL t1 w.times.length) (tvZ t1) (tvL t2 w3.times.length) (tvZ t2) w3.delay w3.given G'.length (G'.length + 1) [] _) ⟨l1, l2, l3, l4, rv, l5, ltF (by omega), gtF (by omega), l6, i1, l7, i2, lk, e1, e2, e3, e4, e5, e6, e7, e8, e9, rfl,
                  ⟨rfl, ⟨_, cells_of (get_new' _ (by simp [SH.den])), by simp, rfl⟩, rfl, by omega, by omega, by simp [SH.den]⟩, a_ldn gbF (by omega) (by rfl), a_st gcF (by simp) (by rfl), a_ldn (get_set_eq gcF) (by omega) (by rfl), trivial⟩), ?_, ?_, ?_, hfr'⟩
                · exact ((e11.push _).push _).keep (Keep.set (fp := fun y => y = h.length + 2) rfl _) (fun y hy e => nbc y e)
                · rw [hnil]
                  exact .inr ⟨_, rfl, get_set_ne (get_new' (h := G' ++ [AObj.cells [.int .i64 4, .int .i64 0, .int .i64 0] true]) _ (by simp)) (by have := get_lt e12; omega), by have := KH.1; omega, by simp⟩
                · exact ((KH.pushN _).pushN _).setN (by omega) _
              · have ha' := get_lt ho
                have hap := a_app3 (P := Try.prog) (s := .push (.is G') (.cells [.int .i64 4, .int .i64 0, .int .i64 0] true)) (o1 := a') (o2 := G'.length) (d := G'.length + 1) (l1 := L3) (l2 := [⟨4, 0, 0⟩])
                  (get_push ho) (get_new _ _) (by simp) (by simp; omega) (by simp [SH.den])
                have hab : a' ≠ h.length := by omega
                have gcF := get_push (x := .cells (svC (L3 ++ [(⟨4, 0, 0⟩ : Sv)])) true) (get_set_ne (i := a') (x := .dead) (get_push (x := .cells [.int .i64 4, .int .i64 0, .int .i64 0] true) e12) (by omega))
                have gbF := get_push (x := .cells (svC (L3 ++ [(⟨4, 0, 0⟩ : Sv)])) true) (get_set_ne (i := a') (x := .dead) (get_push (x := .cells [.int .i64 4, .int .i64 0, .int .i64 0] true) e15) hab)
                refine ⟨.slice (some ⟨G'.length + 1, 0, none⟩) (L3.length + 1) 3, _, p1, q1, t2, (by rw [← e14]; exact pvF 0 Try.func41 (v1p.en_ov2s w.rule w.most w.within w.base w.cap w.now w.delay o p q w.svs.length (tvA t) (tvL t w.times.length) (tvZ t) w.given h.length (h.length + 1) (h.length + 2) n fk now ft (rC o p1 q1 t1 w) (rC o p1 q1 t1 { w with now := now }) (rC o p1 q1 t2 { w with now := now, times := w3.times, delay := w3.delay, given := w3.given }) (rC o p1 q1 t2 { w with now := now, times := w3.times, delay := w3.delay, given := w3.given }) [] h G4 G5 G6 g4 g5 G' p1 q1 (tvA t1) (tvA t2) (tvL t1 w.times.length) (tvZ t1) (tvL t2 w3.times.length) (tvZ t2) w3.delay w3.given a' L3.length G'.length (G'.length + 1) (svC (L3 ++ [(⟨4, 0, 0⟩ : Sv)])) _) ⟨l1, l2, l3, l4, rv, l5, ltF (by omega), gtF (by omega), l6, i1, l7, i2, lk, e1, e2, e3, e4, e5, e6, e7, e8, e9, rfl,
                  hap, a_ldn gbF (by omega) (by rfl), a_st gcF (by simp) (by rfl), a_ldn (get_set_eq gcF) (by omega) (by rfl), trivial⟩), ?_, ?_, ?_, hfr'⟩
                · exact (((e11.push _).keep (Keep.set (fp := fun y => y = a') rfl _) (fun y hy e => by subst e; exact ⟨fun r => by have := hB y (.inl r); omega, fun r => by have := hB y (.inr (.inl r)); omega⟩)).push _).keep (Keep.set (fp := fun y => y = h.length + 2) rfl _) (fun y hy e => nbc y e)
                · exact .inr ⟨G'.length + 1, by rw [List.length_append]; rfl, get_set_ne (get_new' (h := (G' ++ [AObj.cells [.int .i64 4, .int .i64 0, .int .i64 0] true]).set a' .dead) _ (by simp)) (by have := get_lt e12; omega), by have := KH.1; omega, by simp⟩
                · exact (((KH.pushN _).setN (by omega) _).pushN _).setN (by omega) _
            · have e : endedF w n fk ft now = (w3, L3, 0) := by
                simp only [endedF, doneF]; rw [if_neg e0, hx]; simp only []; rw [if_pos hst, hw3, hL3, if_neg hov]
              rw [e]
              simp only []
              rw [Bool.eq_false_iff.2 hov] at e9
              exact ⟨v, _, p1, q1, t2, (by rw [← e14]; exact pvF 0 Try.func41 (v1p.en_on2 w.rule w.most w.within w.base w.cap w.now w.delay o p q w.svs.length (tvA t) (tvL t w.times.length) (tvZ t) w.given h.length (h.length + 1) (h.length + 2) n fk now ft (rC o p1 q1 t1 w) (rC o p1 q1 t1 { w with now := now }) (rC o p1 q1 t2 { w with now := now, times := w3.times, delay := w3.delay, given := w3.given }) (rC o p1 q1 t2 { w with now := now, times := w3.times, delay := w3.delay, given := w3.given }) [] h G4 G5 G6 g4 g5 G' p1 q1 (tvA t1) (tvA t2) (tvL t1 w.times.length) (tvZ t1) (tvL t2 w3.times.length) (tvZ t2) w3.delay w3.given v) ⟨l1, l2, l3, l4, rv, l5, ltF (by omega), gtF (by omega), l6, i1, l7, i2, lk, e1, e2, e3, e4, e5, e6, e7, e8, e9, e10, a_st e12 (by simp) (by rfl), a_ldn (get_set_eq e12) (by omega) (by rfl), trivial⟩),
                e11.keep (Keep.set (fp := fun y => y = h.length + 2) rfl _) (fun y hy e => nbc y e), (e13.keep (Keep.set (fp := fun y => y = h.length + 2) rfl _) (fun y hy _ e => by omega)).base hHB, KH.setN (by omega) _, hfr'⟩
        · have f1 : isF w n 1 = false := by
            cases e : svAt w n with
            | none => simp [isF, e]
            | some x => simp only [isF, e]; exact decide_eq_false fun r => hon ⟨x, e, .inl r⟩
          have f2 : isF w n 2 = false := by
            cases e : svAt w n with
            | none => simp [isF, e]
            | some x => simp only [isF, e]; exact decide_eq_false fun r => hon ⟨x, e, .inr r⟩
          rw [f1] at i1
          rw [f2] at i2
          have e : endedF w n fk ft now = (w, [], 6) := by
            simp only [endedF]
            rw [if_neg e0]
            cases e : svAt w n with
            | none => rfl
            | some x => simp only []; rw [if_neg fun r => hon ⟨x, e, r⟩]
          rw [e]
          obtain ⟨m1, m2, m3, m4, m5⟩ := no G6 a6 gb6 gc6 K6
          exact ⟨.slice none 0 0, _, p, q, t, pvF 0 Try.func41 (v1p.en_no w.rule w.most w.within w.base w.cap w.now w.delay o p q w.svs.length (tvA t) (tvL t w.times.length) (tvZ t) w.given h.length (h.length + 1) (h.length + 2) n fk now ft (rC o p q t w) [] [] [] [] h G4 G5 G6 h h h) ⟨l1, l2, l3, l4, rv, l5, ltF (by omega), gtF (by omega), l6, i1, l7, i2, m1, m2, m3, trivial⟩, m4, .inl ⟨rfl, rfl⟩, m5, fun x e => .inl e⟩

end Go.Proofs.Ytkkhokgpcifckaa.rf

namespace Go.Proofs.Ytkkhokgpcifckaa.rf
open Go Go.Ev Go.Proofs.Ytkkhokgpcifckaa.wd
set_option maxRecDepth 100000
set_option linter.constructorNameAsVariable false
set_option linter.unusedVariables false

variable {h h' g g' : Hp} {o p q : Nat} {t : Option Nat} {w : WS}

/-! ### Started -/
theorem startedR_run (a : RAt h o p q t w) (hw : WOk w) (n now : Int) :
    ∃ h' p' q' t', Run Try.prog 43 [.agg (rC o p q t w).toArray, .int .i64 n, .int .i64 now] h (.tuple #[.agg (rC o p' q' t' (startedF w n now).1).toArray, .int .i64 (startedF w n now).2]) h' ∧
      RAt h' o p' q' t' (startedF w n now).1 ∧ Keep (fun _ => False) h h' ∧ (∀ x, fpR p' q' t' x → fpR p q t x ∨ h.length ≤ x) := by
  have n8 := hw.n8
  have hol := a.olt
  have hlt := a.lts
  let G3 : Hp := h ++ [AObj.cells (rC o p q t w) true] ++ [zR]
  have a3 : RAt G3 o p q t w := (a.push _).push _
  have gb : G3[h.length]? = some (.cells (rC o p q t w) true) := get_push (get_new h _)
  have gc : G3[h.length + 1]? = some zR := get_new' _ (by simp)
  have K3 : Keep (fun _ => False) h G3 := (Keep.push _ _ _).trans (Keep.push _ _ _)
  have l1 : (Asm.len (.is h) h.length).holds Try.prog := rfl
  have l2 : (Asm.len (.push (.is h) (.cells (rC o p q t w) true)) (h.length + 1)).holds Try.prog := by simp [Asm.holds, SH.den]
  have nbd : ∀ y, (y = h.length ∨ y = h.length + 1) → ¬ fpR p q t y ∧ y ≠ o := fun y e => ⟨fun r => by have := hlt y r; omega, by omega⟩
  have no : ∀ (s : SH), RAt s.den o p q t w → s.den[h.length]? = some (.cells (rC o p q t w) true) → s.den[h.length + 1]? = some zR → Keep (fun _ => False) h s.den →
      (Asm.ldn s h.length 0 12 (rC o p q t w)).holds Try.prog ∧ (Asm.st s (h.length + 1) 0 (rC o p q t w) (rC o p q t w)).holds Try.prog ∧ (Asm.ldn (.set s (h.length + 1) (.cells (rC o p q t w) true)) (h.length + 1) 0 12 (rC o p q t w)).holds Try.prog ∧
      RAt (s.den.set (h.length + 1) (.cells (rC o p q t w) true)) o p q t w ∧ Keep (fun _ => False) h (s.den.set (h.length + 1) (.cells (rC o p q t w) true)) := fun s ak kb kc kk =>
    ⟨a_ldn kb (by simp [rC_len]) (by rfl), a_st kc (by simp [rC_len]) (by rfl), a_ldn (get_set_eq kc) (by simp [rC_len]) (by rfl), ak.keep (Keep.set (fp := fun y => y = h.length + 1) rfl _) (fun y hy e => nbd y (.inr e)), kk.setN (by omega) _⟩
  let S3 : SH := .push (.push (.is h) (.cells (rC o p q t w) true)) zR
  have l5 : (Asm.ld1 S3 h.length 8 (.int .i64 w.now)).holds Try.prog := a_ld1 gb rfl
  by_cases h1 : now < w.now
  · obtain ⟨m1, m2, m3, m4, m5⟩ := no S3 a3 gb gc K3
    have e : startedF w n now = (w, 2) := by simp only [startedF]; rw [if_pos (lateB_t (.inl h1))]
    rw [e]
    exact ⟨_, p, q, t, pvF 0 Try.func43 (v1p.sd_b1 w.rule w.most w.within w.base w.cap w.now w.delay o p q w.svs.length (tvA t) (tvL t w.times.length) (tvZ t) w.given h.length (h.length + 1) 0 n now 0 0 (rC o p q t w) [] [] [] [] [] h h h) ⟨l1, l2, l5, ltT h1, m1, m2, m3, trivial⟩, m4, m5, fun x e => .inl e⟩
  · by_cases h2 : now > 1000000000000
    · obtain ⟨m1, m2, m3, m4, m5⟩ := no S3 a3 gb gc K3
      have e : startedF w n now = (w, 2) := by simp only [startedF]; rw [if_pos (lateB_t (.inr h2))]
      rw [e]
      exact ⟨_, p, q, t, pvF 0 Try.func43 (v1p.sd_b2 w.rule w.most w.within w.base w.cap w.now w.delay o p q w.svs.length (tvA t) (tvL t w.times.length) (tvZ t) w.given h.length (h.length + 1) 0 n now 0 0 (rC o p q t w) [] [] [] [] [] h h h) ⟨l1, l2, l5, ltF (by omega), gtT h2, m1, m2, m3, trivial⟩, m4, m5, fun x e => .inl e⟩
    · have hlb : lateB w now = false := by unfold lateB; rw [decide_eq_false h1, decide_eq_false h2]; rfl
      have e0 : ¬ lateB w now = true := by simp [hlb]
      have l6 : (Asm.ldn S3 h.length 0 12 (rC o p q t w)).holds Try.prog := a_ldn gb (by simp [rC_len]) (by rfl)
      have i1 := is_run a3 hw n 4
      let G4 : Hp := G3 ++ [.cells (rC o p q t w) true]
      have a4 : RAt G4 o p q t w := a3.push _
      have gb4 : G4[h.length]? = some (.cells (rC o p q t w) true) := get_push gb
      have gc4 : G4[h.length + 1]? = some zR := get_push gc
      have K4 : Keep (fun _ => False) h G4 := K3.pushN _
      by_cases hon : ∃ x, svAt w n = some x ∧ x.state = 4
      · obtain ⟨x, hx, hst⟩ := hon
        obtain ⟨hn, hxx⟩ := svAt_some hx
        have f1 : isF w n 4 = true := by simp [isF, hx, hst]
        rw [f1] at i1
        have l7 : (Asm.ld1 (.is G4) h.length 7 (.slice (some ⟨q, 0, none⟩) w.svs.length 1)).holds Try.prog := a_ld1 gb4 rfl
        have l8 : (Asm.arith .sub .i64 n 1 (n - 1)).holds Try.prog := subI rfl (by omega) (by omega)
        have l9 : (Asm.off (n - 1).toNat 0 (n - 1) w.svs.length 1).holds Try.prog := offI (q := (n - 1).toNat) (by omega) (by omega) (by omega)
        have l10 : (Asm.ld1 (.is G4) q (n - 1).toNat (.int .i64 x.at')).holds Try.prog := a_ld1 a4.ats (atC_get hxx)
        by_cases hwait : now < x.at'
        · obtain ⟨m1, m2, m3, m4, m5⟩ := no (.is G4) a4 gb4 gc4 K4
          have e : startedF w n now = (w, 22) := by simp only [startedF]; rw [if_neg e0, hx]; simp only []; rw [if_pos hst, if_pos hwait]
          rw [e]
          exact ⟨_, p, q, t, pvF 0 Try.func43 (v1p.sd_wait w.rule w.most w.within w.base w.cap w.now w.delay o p q w.svs.length (tvA t) (tvL t w.times.length) (tvZ t) w.given h.length (h.length + 1) (n - 1).toNat n now (n - 1) x.at' (rC o p q t w) [] [] [] [] [] h G4 h) ⟨l1, l2, l5, ltF (by omega), gtF (by omega), l6, i1, l7, l8, l9, l10, ltT hwait, m1, m2, m3, trivial⟩, m4, m5, fun x e => .inl e⟩
        · obtain ⟨p1, q1, t1, g5, r1, a5, k5, f5⟩ := copied_run a4 hw
          have gb5 := k5.2 _ _ gb4 (fun e => e)
          have gc5 := k5.2 _ _ gc4 (fun e => e)
          have hl5 := k5.1
          have hG4 : G4.length = h.length + 3 := by simp [G4, G3]
          let wn : WS := { w with now := now }
          let C1 := rC o p1 q1 t1 w
          let C2 := rC o p1 q1 t1 wn
          let L : List Sv := w.svs.set (n - 1).toNat ⟨x.when, 1, 0⟩
          have hp1 := f5 p1 (.inl rfl)
          have hq1 := f5 q1 (.inr (.inl rfl))
          have e : startedF w n now = ({ w with now := now, svs := L }, 0) := by
            simp only [startedF]; rw [if_neg e0, hx]; simp only []; rw [if_pos hst, if_neg hwait]
            simp only [putSv, hxx]; rfl
          let g5b : Hp := (g5.set h.length (.cells C1 true)).set h.length (.cells C2 true)
          have gb5a : (g5.set h.length (.cells C1 true))[h.length]? = some (.cells C1 true) := get_set_eq gb5
          have gb5b : g5b[h.length]? = some (.cells C2 true) := get_set_eq gb5a
          have gc5b : g5b[h.length + 1]? = some zR := get_set_ne (get_set_ne gc5 (by omega)) (by omega)
          have gp5b : g5b[p1]? = some (.cells (stC w.svs) true) := get_set_ne (get_set_ne a5.st (by omega)) (by omega)
          have gq5b : g5b[q1]? = some (.cells (atC w.svs) true) := get_set_ne (get_set_ne a5.ats (by omega)) (by omega)
          have sp := st_put hxx { x with state := 1 }
          have sa := at_same (y := { x with state := 1 }) hxx rfl
          have f1' : (w.svs.set (n - 1).toNat { x with state := 1 })[(n - 1).toNat]? = some { x with state := 1 } := by rw [List.getElem?_set_self (get_lt' hxx)]
          have sp2 := at_put f1' (⟨x.when, 1, 0⟩ : Sv)
          have sa2 := st_same (y := ⟨x.when, 1, 0⟩) f1' rfl
          rw [List.set_set] at sp2 sa2
          let g6 : Hp := (g5b.set p1 (.cells (stC L) true)).set q1 (.cells (atC L) true)
          have gq6 : (g5b.set p1 (.cells (stC L) true))[q1]? = some (.cells (atC w.svs) true) := get_set_ne gq5b a5.ne
          have gb6a : (g5b.set p1 (.cells (stC L) true))[h.length]? = some (.cells C2 true) := get_set_ne gb5b (by omega)
          have gb6 : g6[h.length]? = some (.cells C2 true) := get_set_ne gb6a (by omega)
          have gc6 : g6[h.length + 1]? = some zR := get_set_ne (get_set_ne gc5b (by omega)) (by omega)
          have s1 : (Asm.st (.set (.set (.is g5) h.length (.cells C1 true)) h.length (.cells C2 true)) p1 (n - 1).toNat [.int .i64 1] (stC L)).holds Try.prog := a_st gp5b (by rw [stC_len]; simp; omega) (by rw [sa2]; exact sp)
          have s2 : (Asm.st (.set (.set (.set (.is g5) h.length (.cells C1 true)) h.length (.cells C2 true)) p1 (.cells (stC L) true)) q1 (n - 1).toNat [.int .i64 0] (atC L)).holds Try.prog := a_st gq6 (by rw [atC_len]; simp; omega) (by rw [← sa]; exact sp2)
          have hrL : rC o p1 q1 t1 { w with now := now, svs := L } = C2 := rC_svs (w := wn) (by simp [L, wn])
          have K56 : Keep (fun y => y = p1 ∨ y = q1 ∨ y = h.length ∨ y = h.length + 1) g5 (g6.set (h.length + 1) (.cells C2 true)) :=
            ((((Keep.set (fp := fun y => y = p1 ∨ y = q1 ∨ y = h.length ∨ y = h.length + 1) (.inr (.inr (.inl rfl))) _).trans (Keep.set (.inr (.inr (.inl rfl))) _)).trans (Keep.set (.inl rfl) _)).trans (Keep.set (.inr (.inl rfl)) _)).trans (Keep.set (.inr (.inr (.inr rfl))) _)
          rw [e]
          refine ⟨g6.set (h.length + 1) (.cells C2 true), p1, q1, t1, ?_, ?_, ?_, fun y r => .inr (by have := f5 y r; omega)⟩
          · simp only []
            rw [hrL]
            exact pvF 0 Try.func43 (v1p.sd_on w.rule w.most w.within w.base w.cap w.now w.delay o p q w.svs.length (tvA t) (tvL t w.times.length) (tvZ t) w.given h.length (h.length + 1) (n - 1).toNat n now (n - 1) x.at' C1 C2 (stC L) (atC L) C2 [] h G4 g5 p1 q1 (tvA t1) (tvL t1 w.times.length) (tvZ t1))
              ⟨l1, l2, l5, ltF (by omega), gtF (by omega), l6, i1, l7, l8, l9, l10, ltF (by omega), a_ldn gb4 (by simp [rC_len]) (by rfl), r1, a_st gb5 (by simp [rC_len]) (by rfl), a_st gb5a (by simp [C1, rC_len]) (by rfl), a_ld1 gb5b rfl, l8, l9, s1, a_ld1 gb6a rfl, l8, l9, s2,
                a_ldn gb6 (by simp [C2, rC_len]) (by rfl), a_st gc6 (by simp) (by rfl), a_ldn (get_set_eq gc6) (by simp [C2, rC_len]) (by rfl), trivial⟩
          · have : RAt (g6.set (h.length + 1) (.cells C2 true)) o p1 q1 t1 { w with svs := L } := a5.put K56 (fun y hy e => by
              rcases e with e | e | e | e
              · exact .inl e
              · exact .inr (.inl e)
              · exact .inr (.inr ⟨fun r => by have := f5 y r; omega, by omega⟩)
              · exact .inr (.inr ⟨fun r => by have := f5 y r; omega, by omega⟩)) (get_set_ne (get_set_ne (get_set_eq gp5b) (Ne.symm a5.ne)) (by omega)) (get_set_ne (get_set_eq gq6) (by omega)) (map_set_same _ hxx rfl)
            exact this.same rfl rfl
          · exact (K4.trans k5).trans_new K56 (fun y hy e => by omega)
      · have f1 : isF w n 4 = false := by
          cases e : svAt w n with
          | none => simp [isF, e]
          | some x => simp only [isF, e]; exact decide_eq_false fun r => hon ⟨x, e, r⟩
        rw [f1] at i1
        have e : startedF w n now = (w, 6) := by
          simp only [startedF]
          rw [if_neg e0]
          cases e : svAt w n with
          | none => rfl
          | some x => simp only []; rw [if_neg fun r => hon ⟨x, e, r⟩]
        rw [e]
        obtain ⟨m1, m2, m3, m4, m5⟩ := no (.is G4) a4 gb4 gc4 K4
        exact ⟨_, p, q, t, pvF 0 Try.func43 (v1p.sd_no w.rule w.most w.within w.base w.cap w.now w.delay o p q w.svs.length (tvA t) (tvL t w.times.length) (tvZ t) w.given h.length (h.length + 1) 0 n now 0 0 (rC o p q t w) [] [] [] [] [] h G4 h) ⟨l1, l2, l5, ltF (by omega), gtF (by omega), l6, i1, m1, m2, m3, trivial⟩, m4, m5, fun x e => .inl e⟩

end Go.Proofs.Ytkkhokgpcifckaa.rf

namespace Go.Proofs.Ytkkhokgpcifckaa.rf
open Go Go.Ev Go.Proofs.Ytkkhokgpcifckaa.wd
set_option maxRecDepth 100000
set_option linter.constructorNameAsVariable false
set_option linter.unusedVariables false

variable {h h' g g' : Hp}

/-! ### Valid of a value -/
theorem valueR_run (g : Hp) (x : VV) : Run Try.prog 53 [.agg x.cells.toArray] g (.bool (valueB x)) (g ++ [.cells x.cells true]) := by
  obtain ⟨k, n, s⟩ := x
  have L0 : (Asm.ld1 (.push (.is g) (.cells [.int .i64 k, .int .i64 n, .string s] true)) g.length 0 (.int .i64 k)).holds Try.prog := a_ld1 (get_new g _) rfl
  have L1 : (Asm.ld1 (.push (.is g) (.cells [.int .i64 k, .int .i64 n, .string s] true)) g.length 1 (.int .i64 n)).holds Try.prog := a_ld1 (get_new g _) rfl
  have L2 : (Asm.ld1 (.push (.is g) (.cells [.int .i64 k, .int .i64 n, .string s] true)) g.length 2 (.string s)).holds Try.prog := a_ld1 (get_new g _) rfl
  have N : ∀ c : Int, k ≠ c → (Asm.cmp .eql k c false).holds Try.prog := fun c e => by simpa [Asm.holds, cmpB] using e
  have Y : ∀ c : Int, k = c → (Asm.cmp .eql k c true).holds Try.prog := fun c e => by simpa [Asm.holds, cmpB] using e
  have S1 : ∀ b, emptyB s = b → (Asm.scmp .eql s ⟨⟨[]⟩⟩ b).holds Try.prog := fun b e => .inl ⟨rfl, e⟩
  unfold valueB
  simp only
  by_cases c0 : k = 0
  · rw [if_pos c0]
    by_cases d : n = 0
    · rw [decide_eq_true d, Bool.true_and]
      have es : decide (s.data.toList = []) = emptyB s := by
        simp only [emptyB]
        rw [ByteArray.toList_eq, ByteArray.toList_eq]
        cases s.data.toList <;> rfl
      rw [es]
      exact pvF 0 Try.func53 (v3p.va_unit1 g.length k n s false false _ g) ⟨rfl, L0, Y 0 c0, L1, by simpa [Asm.holds, cmpB] using d, L2, S1 _ rfl, trivial⟩
    · rw [decide_eq_false d, Bool.false_and]
      exact pvF 0 Try.func53 (v3p.va_unit0 g.length k n s false false false g) ⟨rfl, L0, Y 0 c0, L1, by simpa [Asm.holds, cmpB] using d, trivial⟩
  · rw [if_neg c0]
    by_cases c1 : k = 1
    · rw [if_pos c1]
      cases es : emptyB s with
      | false => exact pvF 0 Try.func53 (v3p.va_int0 g.length k n s false false false g) ⟨rfl, L0, N 0 c0, Y 1 c1, L2, S1 _ es, trivial⟩
      | true =>
        rw [Bool.true_and]
        by_cases d : n ≥ -1000000000000
        · rw [decide_eq_true d, Bool.true_and]
          exact pvF 0 Try.func53 (v3p.va_int2 g.length k n s false false _ g) ⟨rfl, L0, N 0 c0, Y 1 c1, L2, S1 _ es, L1, by simpa [Asm.holds, cmpB] using d, L1, by simp [Asm.holds, cmpB], trivial⟩
        · rw [decide_eq_false d, Bool.false_and]
          exact pvF 0 Try.func53 (v3p.va_int1 g.length k n s false false false g) ⟨rfl, L0, N 0 c0, Y 1 c1, L2, S1 _ es, L1, by simp [Asm.holds, cmpB]; omega, trivial⟩
    · rw [if_neg c1]
      by_cases c2 : k = 2
      · rw [if_pos c2]
        cases es : emptyB s with
        | false => exact pvF 0 Try.func53 (v3p.va_bool0 g.length k n s false false false g) ⟨rfl, L0, N 0 c0, N 1 c1, Y 2 c2, L2, S1 _ es, trivial⟩
        | true =>
          rw [Bool.true_and]
          by_cases d : n = 0
          · rw [decide_eq_true d, Bool.true_or]
            exact pvF 0 Try.func53 (v3p.va_bool1 g.length k n s false false false g) ⟨rfl, L0, N 0 c0, N 1 c1, Y 2 c2, L2, S1 _ es, L1, by simpa [Asm.holds, cmpB] using d, trivial⟩
          · rw [decide_eq_false d, Bool.false_or]
            exact pvF 0 Try.func53 (v3p.va_bool2 g.length k n s false false _ g) ⟨rfl, L0, N 0 c0, N 1 c1, Y 2 c2, L2, S1 _ es, L1, by simpa [Asm.holds, cmpB] using d, L1, by simp [Asm.holds, cmpB]; rfl, trivial⟩
      · rw [if_neg c2]
        by_cases c3 : k = 3
        · rw [if_pos c3]
          by_cases d : n = 0
          · rw [decide_eq_true d, Bool.true_and]
            exact pvF 0 Try.func53 (v3p.va_text1 g.length k n s false false _ g) ⟨rfl, L0, N 0 c0, N 1 c1, N 2 c2, Y 3 c3, L1, by simpa [Asm.holds, cmpB] using d, L2, textR_run _ s, trivial⟩
          · rw [decide_eq_false d, Bool.false_and]
            exact pvF 0 Try.func53 (v3p.va_text0 g.length k n s false false false g) ⟨rfl, L0, N 0 c0, N 1 c1, N 2 c2, Y 3 c3, L1, by simpa [Asm.holds, cmpB] using d, trivial⟩
        · rw [if_neg c3]
          by_cases c4 : k = 4
          · rw [if_pos (.inl c4)]
            cases es : emptyB s with
            | false => exact pvF 0 Try.func53 (v3p.va_chan0 g.length k n s false false false g) ⟨rfl, L0, N 0 c0, N 1 c1, N 2 c2, N 3 c3, Y 4 c4, L2, S1 _ es, trivial⟩
            | true =>
              rw [Bool.true_and]
              by_cases d : n ≥ 1
              · rw [decide_eq_true d, Bool.true_and]
                exact pvF 0 Try.func53 (v3p.va_chan2 g.length k n s false false _ g) ⟨rfl, L0, N 0 c0, N 1 c1, N 2 c2, N 3 c3, Y 4 c4, L2, S1 _ es, L1, by simpa [Asm.holds, cmpB] using d, L1, by simp [Asm.holds, cmpB], trivial⟩
              · rw [decide_eq_false d, Bool.false_and]
                exact pvF 0 Try.func53 (v3p.va_chan1 g.length k n s false false false g) ⟨rfl, L0, N 0 c0, N 1 c1, N 2 c2, N 3 c3, Y 4 c4, L2, S1 _ es, L1, by simp [Asm.holds, cmpB]; omega, trivial⟩
          · by_cases c5 : k = 5
            · rw [if_pos (.inr (.inl c5))]
              cases es : emptyB s with
              | false => exact pvF 0 Try.func53 (v3p.va_task0 g.length k n s false false false g) ⟨rfl, L0, N 0 c0, N 1 c1, N 2 c2, N 3 c3, N 4 c4, Y 5 c5, L2, S1 _ es, trivial⟩
              | true =>
                rw [Bool.true_and]
                by_cases d : n ≥ 1
                · rw [decide_eq_true d, Bool.true_and]
                  exact pvF 0 Try.func53 (v3p.va_task2 g.length k n s false false _ g) ⟨rfl, L0, N 0 c0, N 1 c1, N 2 c2, N 3 c3, N 4 c4, Y 5 c5, L2, S1 _ es, L1, by simpa [Asm.holds, cmpB] using d, L1, by simp [Asm.holds, cmpB], trivial⟩
                · rw [decide_eq_false d, Bool.false_and]
                  exact pvF 0 Try.func53 (v3p.va_task1 g.length k n s false false false g) ⟨rfl, L0, N 0 c0, N 1 c1, N 2 c2, N 3 c3, N 4 c4, Y 5 c5, L2, S1 _ es, L1, by simp [Asm.holds, cmpB]; omega, trivial⟩
            · by_cases c6 : k = 6
              · rw [if_pos (.inr (.inr c6))]
                cases es : emptyB s with
                | false => exact pvF 0 Try.func53 (v3p.va_lock0 g.length k n s false false false g) ⟨rfl, L0, N 0 c0, N 1 c1, N 2 c2, N 3 c3, N 4 c4, N 5 c5, Y 6 c6, L2, S1 _ es, trivial⟩
                | true =>
                  rw [Bool.true_and]
                  by_cases d : n ≥ 1
                  · rw [decide_eq_true d, Bool.true_and]
                    exact pvF 0 Try.func53 (v3p.va_lock2 g.length k n s false false _ g) ⟨rfl, L0, N 0 c0, N 1 c1, N 2 c2, N 3 c3, N 4 c4, N 5 c5, Y 6 c6, L2, S1 _ es, L1, by simpa [Asm.holds, cmpB] using d, L1, by simp [Asm.holds, cmpB], trivial⟩
                  · rw [decide_eq_false d, Bool.false_and]
                    exact pvF 0 Try.func53 (v3p.va_lock1 g.length k n s false false false g) ⟨rfl, L0, N 0 c0, N 1 c1, N 2 c2, N 3 c3, N 4 c4, N 5 c5, Y 6 c6, L2, S1 _ es, L1, by simp [Asm.holds, cmpB]; omega, trivial⟩
              · rw [if_neg (by omega)]
                exact pvF 0 Try.func53 (v3p.va_other g.length k n s false false false g) ⟨rfl, L0, N 0 c0, N 1 c1, N 2 c2, N 3 c3, N 4 c4, N 5 c5, N 6 c6, trivial⟩


/-! ### Check -/
theorem kEnd {α : Type} (l : List α) (k : Nat) (h1 : k ≤ l.length) (h2 : ¬ k = l.length) : ∃ y, l[k]? = some y := ⟨_, List.getElem?_eq_getElem (by omega)⟩
theorem ci_loop {o len a : Nat} {i : Int} {l : List VV} {rw : Bool} (ha : h[a]? = some (.cells (vvC l) rw)) (hl : l.length ≤ 4) :
    ∃ x' E1 h1, LRun Try.prog 110 false (loopN Try.f37 1) [(101, .int .i64 (0 : Nat)), (100, .int .i64 (Int.ofNat l.length)), (99, .slice (some ⟨a, 0, none⟩) l.length 3), (70, .int .i64 i), (69, .int .i64 (Int.ofNat len)), (68, .slice (some ⟨o, 0, none⟩) len 3)] h x' E1 h1 ∧ Keep (fun _ => False) h h1 ∧
      ((x' = .exit 2 ∧ l.all valueB = true ∧ EnvLe [(70, .int .i64 i), (69, .int .i64 (Int.ofNat len)), (68, .slice (some ⟨o, 0, none⟩) len 3)] E1) ∨ (x' = .ret ∧ EnvLe [(2, .int .i64 2)] E1 ∧ l.all valueB = false)) := by
  obtain ⟨x', E1, h1, hl1, q1, q2⟩ := loop_inv (P := Try.prog) (n := 110) (rd := false) (b := loopN Try.f37 1)
    (Q := fun x' E1 h1 => Keep (fun _ => False) h h1 ∧ ((x' = .exit 2 ∧ l.all valueB = true ∧ EnvLe [(70, .int .i64 i), (69, .int .i64 (Int.ofNat len)), (68, .slice (some ⟨o, 0, none⟩) len 3)] E1) ∨ (x' = .ret ∧ EnvLe [(2, .int .i64 2)] E1 ∧ l.all valueB = false)))
    (fun m E g => ∃ k : Nat, k ≤ l.length ∧ m = l.length - k ∧ EnvLe [(101, .int .i64 k), (100, .int .i64 (Int.ofNat l.length)), (99, .slice (some ⟨a, 0, none⟩) l.length 3), (70, .int .i64 i), (69, .int .i64 (Int.ofNat len)), (68, .slice (some ⟨o, 0, none⟩) len 3)] E ∧ Keep (fun _ => False) h g ∧ (l.take k).all valueB = true)
    (fun m E g ⟨k, k1, k2, k3, k4, k5⟩ => by
      by_cases e : k = l.length
      · right
        obtain ⟨E2, q1, q2⟩ := pvC 0 k3 (v3p.ci_out o len a l.length 0 0 i k 0 0 0 ⟨#[]⟩ g []) ⟨ltF (by simp; omega), trivial⟩
        refine ⟨_, E2, _, by simp, q2, k4, .inl ⟨rfl, ?_, .trans (.add (.add (.add (.nil _) rfl) rfl) rfl) q1⟩⟩
        rw [e, List.take_length] at k5; exact k5
      · obtain ⟨y, hy⟩ := kEnd l k k1 e
        have hk := get_lt' hy
        have hal := vvC_len l
        have hga := k4.2 _ _ ha (fun e => e)
        have hrun := valueR_run ((g ++ [AObj.cells [.int .i64 0, .int .i64 0, .string ⟨#[]⟩] true]).set g.length (.cells y.cells true)) y
        have c1 : (Asm.cmp .lss (k : Int) (Int.ofNat l.length) true).holds Try.prog := ltT (by simp; omega)
        have c2 : (Asm.off (k * 3) 0 (k : Int) l.length 3).holds Try.prog := offI rfl (by omega) (by omega)
        have c3 : (Asm.ldn (.is g) a (k * 3) 3 y.cells).holds Try.prog := a_ldn hga (by omega) (vvC_cut hy)
        cases hv : valueB y with
        | true =>
          left
          rw [hv] at hrun
          obtain ⟨E2, q1, q2⟩ := pvC 0 k3 (v3p.ci_go o len a l.length (k * 3) g.length i k ((k + 1 : Nat) : Int) y.k y.n y.s g _)
            ⟨c1, c2, c3, rfl, a_st (get_new g _) (by simp) rfl, a_ldn (get_set_eq (get_new g _)) (by simp) rfl, hrun, inc (by omega), trivial⟩
          refine ⟨l.length - (k + 1), E2, _, by omega, q2, k + 1, by omega, rfl, .trans (.add (.add (.add (.add (.add (.add (.nil _) rfl) rfl) rfl) rfl) rfl) rfl) q1, ((k4.pushN _).setN k4.1 _).pushN _, ?_⟩
          rw [take_snoc hy, List.all_append, k5]; simp [hv]
        | false =>
          right
          rw [hv] at hrun
          obtain ⟨E2, q1, q2⟩ := pvC 0 k3 (v3p.ci_no o len a l.length (k * 3) g.length i k 0 y.k y.n y.s g _)
            ⟨c1, c2, c3, rfl, a_st (get_new g _) (by simp) rfl, a_ldn (get_set_eq (get_new g _)) (by simp) rfl, hrun, trivial⟩
          refine ⟨_, E2, _, by simp, q2, ((k4.pushN _).setN k4.1 _).pushN _, .inr ⟨rfl, .trans (.add (.nil _) rfl) q1, ?_⟩⟩
          rw [List.all_eq_false]
          exact ⟨y, List.mem_of_getElem? hy, by simp [hv]⟩)
    l.length _ h ⟨0, by omega, rfl, EnvLe.refl _, .refl _ _, by simp⟩
  exact ⟨x', E1, h1, hl1, q1, q2⟩

theorem cl_loop {o : Nat} {xs : List SvH} {rw : Bool} {l : List SvV} (ho : h[o]? = some (.cells (svhC xs) rw)) (ha : SvsAt h xs l) (hl : l.length ≤ 8) :
    ∃ x' E1 h1, LRun Try.prog 110 false (loopN Try.f37 0) [(70, .int .i64 (0 : Nat)), (69, .int .i64 (Int.ofNat l.length)), (68, .slice (some ⟨o, 0, none⟩) l.length 3)] h x' E1 h1 ∧ Keep (fun _ => False) h h1 ∧
      ((x' = .exit 0 ∧ l.all svOk = true) ∨ (x' = .ret ∧ EnvLe [(2, .int .i64 2)] E1 ∧ l.all svOk = false)) := by
  obtain ⟨x', E1, h1, hl1, q1, q2⟩ := loop_inv (P := Try.prog) (n := 110) (rd := false) (b := loopN Try.f37 0)
    (Q := fun x' E1 h1 => Keep (fun _ => False) h h1 ∧ ((x' = .exit 0 ∧ l.all svOk = true) ∨ (x' = .ret ∧ EnvLe [(2, .int .i64 2)] E1 ∧ l.all svOk = false)))
    (fun m E g => ∃ k : Nat, k ≤ l.length ∧ m = l.length - k ∧ EnvLe [(70, .int .i64 k), (69, .int .i64 (Int.ofNat l.length)), (68, .slice (some ⟨o, 0, none⟩) l.length 3)] E ∧ Keep (fun _ => False) h g ∧ (l.take k).all svOk = true)
    (fun m E g ⟨k, k1, k2, k3, k4, k5⟩ => by
      by_cases e : k = l.length
      · right
        obtain ⟨E2, q1, q2⟩ := pvC 0 k3 (v3p.cl_out o l.length k g) ⟨ltF (by simp; omega), trivial⟩
        refine ⟨_, E2, _, by simp, q2, k4, .inl ⟨rfl, ?_⟩⟩
        rw [e, List.take_length] at k5; exact k5
      · obtain ⟨y, hy⟩ := kEnd l k k1 e
        have hk := get_lt' hy
        obtain ⟨x, hx⟩ : ∃ x, xs[k]? = some x := ⟨_, List.getElem?_eq_getElem (by rw [ha.1]; omega)⟩
        obtain ⟨e1, e2, e3⟩ := ha.2 k x y hx hy
        have hxl := svhC_len xs
        have hga := k4.2 _ _ ho (fun e => e)
        have c1 : (Asm.cmp .lss (k : Int) (Int.ofNat l.length) true).holds Try.prog := ltT (by simp; omega)
        have c2 : (Asm.off (k * 3) 0 (k : Int) l.length 3).holds Try.prog := offI rfl (by omega) (by omega)
        have c3 : (Asm.ldn (.is g) o (k * 3) 3 x.cells).holds Try.prog := a_ldn hga (by rw [hxl, ha.1]; omega) (svhC_cut hx)
        let z : AObj := .cells [.int .i64 0, .slice none 0 0, .int .i64 0] true
        let g1 : Hp := (g ++ [z]).set g.length (.cells x.cells true)
        have hg1 : g1[g.length]? = some (.cells x.cells true) := get_set_eq (get_new g _)
        have K1 : Keep (fun _ => False) h g1 := (k4.pushN _).setN k4.1 _
        have c5 : (Asm.st (.push (.is g) z) g.length 0 x.cells x.cells).holds Try.prog := a_st (get_new g _) (by simp [SvH.cells]) rfl
        have l0 : (Asm.ld1 (.set (.push (.is g) z) g.length (.cells x.cells true)) g.length 0 (.int .i64 x.fn)).holds Try.prog := a_ld1 hg1 rfl
        have l1 : (Asm.ld1 (.set (.push (.is g) z) g.length (.cells x.cells true)) g.length 1 x.av).holds Try.prog := a_ld1 hg1 rfl
        have l2 : (Asm.ld1 (.set (.push (.is g) z) g.length (.cells x.cells true)) g.length 2 (.int .i64 x.wh)).holds Try.prog := a_ld1 hg1 rfl
        have bad : ∀ {E2 : Env} {g2 : Hp}, svOk y = false → CRun Try.prog 110 false (loopN Try.f37 0) E g .ret E2 g2 → EnvLe [(2, .int .i64 2)] E2 → Keep (fun _ => False) h g2 → ∃ x E1 h1, x ≠ .normal ∧ CRun Try.prog 110 false (loopN Try.f37 0) E g x E1 h1 ∧ Keep (fun _ => False) h h1 ∧ ((x = .exit 0 ∧ l.all svOk = true) ∨ (x = .ret ∧ EnvLe [(2, .int .i64 2)] E1 ∧ l.all svOk = false)) :=
          fun hb a1 a2 a3 => ⟨_, _, _, by simp, a1, a3, .inr ⟨rfl, a2, by rw [List.all_eq_false]; exact ⟨y, List.mem_of_getElem? hy, by simp [hb]⟩⟩⟩
        have good : ∀ {E2 : Env} {g2 : Hp}, svOk y = true → CRun Try.prog 110 false (loopN Try.f37 0) E g .normal E2 g2 → EnvLe [(70, .int .i64 ((k + 1 : Nat) : Int)), (69, .int .i64 (Int.ofNat l.length)), (68, .slice (some ⟨o, 0, none⟩) l.length 3)] E2 → Keep (fun _ => False) h g2 →
            ∃ m' E1 h1, m' < m ∧ CRun Try.prog 110 false (loopN Try.f37 0) E g .normal E1 h1 ∧ ∃ k : Nat, k ≤ l.length ∧ m' = l.length - k ∧ EnvLe [(70, .int .i64 k), (69, .int .i64 (Int.ofNat l.length)), (68, .slice (some ⟨o, 0, none⟩) l.length 3)] E1 ∧ Keep (fun _ => False) h h1 ∧ (l.take k).all svOk = true :=
          fun hb a1 a2 a3 => ⟨l.length - (k + 1), _, _, by omega, a1, k + 1, by omega, rfl, a2, a3, by rw [take_snoc hy, List.all_append, k5]; simp [hb]⟩
        obtain ⟨fn, av, wh⟩ := x
        obtain ⟨yf, ya, yw⟩ := y
        simp only [] at e1 e2 e3 l0 l1 l2
        subst e1; subst e2
        have e3' := e3.keep K1
        rcases e3 with ⟨rfl, rfl⟩ | ⟨a, arw, rfl, hav⟩
        · by_cases f0 : fn < 0
          · right
            obtain ⟨E2, q1, q2⟩ := pvC 0 k3 (v3p.cl_fnn o l.length (k * 3) g.length k 0 fn wh g []) ⟨c1, c2, c3, rfl, c5, l0, ltT f0, trivial⟩
            exact bad (by simp [svOk]; omega) q2 (.trans (.add (.nil _) rfl) q1) K1
          by_cases w0 : wh ≠ 1 ∧ wh ≠ 2 ∧ wh ≠ 3
          · right
            obtain ⟨E2, q1, q2⟩ := pvC 0 k3 (v3p.cl_w0n o l.length (k * 3) g.length k 0 fn wh g []) ⟨c1, c2, c3, rfl, c5, l0, ltF (by omega), l1, gtF (by omega), l2, Ev.neT w0.1, l2, Ev.neT w0.2.1, l2, Ev.neT w0.2.2, trivial⟩
            exact bad (by simp [svOk]; omega) q2 (.trans (.add (.nil _) rfl) q1) K1
          left
          by_cases w1 : wh = 1
          · obtain ⟨E2, q1, q2⟩ := pvC 0 k3 (v3p.cl_ok1n o l.length (k * 3) g.length k ((k + 1 : Nat) : Int) fn wh g []) ⟨c1, c2, c3, rfl, c5, l0, ltF (by omega), l1, gtF (by omega), l2, Ev.neF w1, l1, ltF (by omega), inc (by omega), trivial⟩
            exact good (by simp [svOk]; omega) q2 (.trans (.add (.add (.add (.nil _) rfl) rfl) rfl) q1) K1
          by_cases w2 : wh = 2
          · obtain ⟨E2, q1, q2⟩ := pvC 0 k3 (v3p.cl_ok2n o l.length (k * 3) g.length k ((k + 1 : Nat) : Int) fn wh g []) ⟨c1, c2, c3, rfl, c5, l0, ltF (by omega), l1, gtF (by omega), l2, Ev.neT w1, l2, Ev.neF w2, l1, ltF (by omega), inc (by omega), trivial⟩
            exact good (by simp [svOk]; omega) q2 (.trans (.add (.add (.add (.nil _) rfl) rfl) rfl) q1) K1
          obtain ⟨E2, q1, q2⟩ := pvC 0 k3 (v3p.cl_ok3n o l.length (k * 3) g.length k ((k + 1 : Nat) : Int) fn wh g []) ⟨c1, c2, c3, rfl, c5, l0, ltF (by omega), l1, gtF (by omega), l2, Ev.neT w1, l2, Ev.neT w2, l2, Ev.neF (by omega), l1, ltF (by omega), inc (by omega), trivial⟩
          exact good (by simp [svOk]; omega) q2 (.trans (.add (.add (.add (.nil _) rfl) rfl) rfl) q1) K1
        · by_cases f0 : fn < 0
          · right
            obtain ⟨E2, q1, q2⟩ := pvC 0 k3 (v3p.cl_fns o l.length (k * 3) g.length k 0 fn wh g [] a ya.length) ⟨c1, c2, c3, rfl, c5, l0, ltT f0, trivial⟩
            exact bad (by simp [svOk]; omega) q2 (.trans (.add (.nil _) rfl) q1) K1
          by_cases f1 : ya.length > 4
          · right
            obtain ⟨E2, q1, q2⟩ := pvC 0 k3 (v3p.cl_lens o l.length (k * 3) g.length k 0 fn wh g [] a ya.length) ⟨c1, c2, c3, rfl, c5, l0, ltF (by omega), l1, gtT (by simp; omega), trivial⟩
            exact bad (by simp [svOk]; omega) q2 (.trans (.add (.nil _) rfl) q1) K1
          by_cases w0 : wh ≠ 1 ∧ wh ≠ 2 ∧ wh ≠ 3
          · right
            obtain ⟨E2, q1, q2⟩ := pvC 0 k3 (v3p.cl_w0s o l.length (k * 3) g.length k 0 fn wh g [] a ya.length) ⟨c1, c2, c3, rfl, c5, l0, ltF (by omega), l1, gtF (by simp; omega), l2, Ev.neT w0.1, l2, Ev.neT w0.2.1, l2, Ev.neT w0.2.2, trivial⟩
            exact bad (by simp [svOk]; omega) q2 (.trans (.add (.nil _) rfl) q1) K1
          have hga2 : g1[a]? = some (.cells (vvC ya) arw) := K1.2 _ _ hav (fun e => e)
          obtain ⟨xx, E3, g3, hl3, k6, hx3⟩ := ci_loop (o := o) (len := l.length) (i := k) hga2 (by omega)
          have K3 := K1.trans k6
          rcases hx3 with ⟨rfl, hv, hE3⟩ | ⟨rfl, hE3, hv⟩
          · left
            by_cases w1 : wh = 1
            · obtain ⟨E2, q1, q2⟩ := pvC 0 k3 (v3p.cl_ok1s o l.length (k * 3) g.length k ((k + 1 : Nat) : Int) fn wh g g3 a ya.length) ⟨c1, c2, c3, rfl, c5, l0, ltF (by omega), l1, gtF (by simp; omega), l2, Ev.neF w1, l1, a_loop (by kernel_rfl) (.add (.add (.add (.add (.add (.add (.nil _) rfl) rfl) rfl) rfl) rfl) rfl) hE3 hl3, inc (by omega), trivial⟩
              exact good (by simp only [svOk, hv]; simp; omega) q2 (.trans (.add (.add (.add (.nil _) rfl) rfl) rfl) q1) K3
            by_cases w2 : wh = 2
            · obtain ⟨E2, q1, q2⟩ := pvC 0 k3 (v3p.cl_ok2s o l.length (k * 3) g.length k ((k + 1 : Nat) : Int) fn wh g g3 a ya.length) ⟨c1, c2, c3, rfl, c5, l0, ltF (by omega), l1, gtF (by simp; omega), l2, Ev.neT w1, l2, Ev.neF w2, l1, a_loop (by kernel_rfl) (.add (.add (.add (.add (.add (.add (.nil _) rfl) rfl) rfl) rfl) rfl) rfl) hE3 hl3, inc (by omega), trivial⟩
              exact good (by simp only [svOk, hv]; simp; omega) q2 (.trans (.add (.add (.add (.nil _) rfl) rfl) rfl) q1) K3
            obtain ⟨E2, q1, q2⟩ := pvC 0 k3 (v3p.cl_ok3s o l.length (k * 3) g.length k ((k + 1 : Nat) : Int) fn wh g g3 a ya.length) ⟨c1, c2, c3, rfl, c5, l0, ltF (by omega), l1, gtF (by simp; omega), l2, Ev.neT w1, l2, Ev.neT w2, l2, Ev.neF (by omega), l1, a_loop (by kernel_rfl) (.add (.add (.add (.add (.add (.add (.nil _) rfl) rfl) rfl) rfl) rfl) rfl) hE3 hl3, inc (by omega), trivial⟩
            exact good (by simp only [svOk, hv]; simp; omega) q2 (.trans (.add (.add (.add (.nil _) rfl) rfl) rfl) q1) K3
          · right
            by_cases w1 : wh = 1
            · obtain ⟨E2, q1, q2⟩ := pvC 0 k3 (v3p.cl_no1s o l.length (k * 3) g.length k 0 fn wh g g3 a ya.length) ⟨c1, c2, c3, rfl, c5, l0, ltF (by omega), l1, gtF (by simp; omega), l2, Ev.neF w1, l1, a_loop (by kernel_rfl) (.add (.add (.add (.add (.add (.add (.nil _) rfl) rfl) rfl) rfl) rfl) rfl) hE3 hl3, trivial⟩
              exact bad (by simp [svOk, hv]) q2 (.trans (.add (.nil _) rfl) q1) K3
            by_cases w2 : wh = 2
            · obtain ⟨E2, q1, q2⟩ := pvC 0 k3 (v3p.cl_no2s o l.length (k * 3) g.length k 0 fn wh g g3 a ya.length) ⟨c1, c2, c3, rfl, c5, l0, ltF (by omega), l1, gtF (by simp; omega), l2, Ev.neT w1, l2, Ev.neF w2, l1, a_loop (by kernel_rfl) (.add (.add (.add (.add (.add (.add (.nil _) rfl) rfl) rfl) rfl) rfl) rfl) hE3 hl3, trivial⟩
              exact bad (by simp [svOk, hv]) q2 (.trans (.add (.nil _) rfl) q1) K3
            obtain ⟨E2, q1, q2⟩ := pvC 0 k3 (v3p.cl_no3s o l.length (k * 3) g.length k 0 fn wh g g3 a ya.length) ⟨c1, c2, c3, rfl, c5, l0, ltF (by omega), l1, gtF (by simp; omega), l2, Ev.neT w1, l2, Ev.neT w2, l2, Ev.neF (by omega), l1, a_loop (by kernel_rfl) (.add (.add (.add (.add (.add (.add (.nil _) rfl) rfl) rfl) rfl) rfl) rfl) hE3 hl3, trivial⟩
            exact bad (by simp [svOk, hv]) q2 (.trans (.add (.nil _) rfl) q1) K3)
    l.length _ h ⟨0, by omega, rfl, EnvLe.refl _, .refl _ _, by simp⟩
  exact ⟨x', E1, h1, hl1, q1, q2⟩

end Go.Proofs.Ytkkhokgpcifckaa.rf

namespace Go.Proofs.Ytkkhokgpcifckaa.rf
open Go Go.Ev Go.Proofs.Ytkkhokgpcifckaa.wd
set_option maxRecDepth 100000
set_option linter.constructorNameAsVariable false
set_option linter.unusedVariables false

variable {h h' g g' : Hp}

theorem checkR_run {v : Value} {l : List SvV} (s : SpecV) (a : SlAt h v l) : ∃ h', Run Try.prog 37 [.agg (s.cells v).toArray] h (.int .i64 (checkF s l)) h' ∧ Keep (fun _ => False) h h' := by
  obtain ⟨r, m, wi, ba, ca⟩ := s
  have bad : ∀ {x : Prop}, ¬ (headOk ⟨r, m, wi, ba, ca⟩ l.length ∧ l.all svOk = true) → checkF ⟨r, m, wi, ba, ca⟩ l = 2 := fun e => by unfold checkF; rw [if_neg e]
  have K1 : Keep (fun _ => False) h (h ++ [.cells ((⟨r, m, wi, ba, ca⟩ : SpecV).cells v) true]) := Keep.push _ _ _
  rcases a with ⟨rfl, rfl⟩ | ⟨o, rw, xs, rfl, ho, ha⟩
  · have lr := a_ld1 (P := Try.prog) (s := .push (.is h) (.cells ((⟨r, m, wi, ba, ca⟩ : SpecV).cells (.slice none 0 0)) true)) (d := 0) (v := .int .i64 r) (get_new h _) rfl
    have lm := a_ld1 (P := Try.prog) (s := .push (.is h) (.cells ((⟨r, m, wi, ba, ca⟩ : SpecV).cells (.slice none 0 0)) true)) (d := 1) (v := .int .i64 m) (get_new h _) rfl
    have lwi := a_ld1 (P := Try.prog) (s := .push (.is h) (.cells ((⟨r, m, wi, ba, ca⟩ : SpecV).cells (.slice none 0 0)) true)) (d := 2) (v := .int .i64 wi) (get_new h _) rfl
    have lba := a_ld1 (P := Try.prog) (s := .push (.is h) (.cells ((⟨r, m, wi, ba, ca⟩ : SpecV).cells (.slice none 0 0)) true)) (d := 3) (v := .int .i64 ba) (get_new h _) rfl
    have lca := a_ld1 (P := Try.prog) (s := .push (.is h) (.cells ((⟨r, m, wi, ba, ca⟩ : SpecV).cells (.slice none 0 0)) true)) (d := 4) (v := .int .i64 ca) (get_new h _) rfl
    have lsv := a_ld1 (P := Try.prog) (s := .push (.is h) (.cells ((⟨r, m, wi, ba, ca⟩ : SpecV).cells (.slice none 0 0)) true)) (d := 5) (v := .slice none 0 0) (get_new h _) rfl
    by_cases r0 : r ≠ 1 ∧ r ≠ 2 ∧ r ≠ 3
    · skip
      rw [bad (x := True) (fun e => by obtain ⟨e, _⟩ := e; simp only [headOk, List.length_nil] at e; omega)]
      exact ⟨_, pvF 0 Try.func37 (v3p.ck_r0 h.length r m wi ba ca (.slice none 0 0) h) ⟨rfl, lr, Ev.neT r0.1, lr, Ev.neT r0.2.1, lr, Ev.neT r0.2.2, trivial⟩, K1⟩
    by_cases rr1 : r = 1
    · skip
      by_cases c_m0 : m < 0
      · skip
        rw [bad (x := True) (fun e => by obtain ⟨e, _⟩ := e; simp only [headOk, List.length_nil] at e; omega)]
        exact ⟨_, pvF 0 Try.func37 (v3p.ck_m01 h.length r m wi ba ca (.slice none 0 0) h) ⟨rfl, lr, Ev.neF rr1, lm, ltT c_m0, trivial⟩, K1⟩
      by_cases c_m1 : m > 20
      · skip
        rw [bad (x := True) (fun e => by obtain ⟨e, _⟩ := e; simp only [headOk, List.length_nil] at e; omega)]
        exact ⟨_, pvF 0 Try.func37 (v3p.ck_m11 h.length r m wi ba ca (.slice none 0 0) h) ⟨rfl, lr, Ev.neF rr1, lm, ltF (by omega), lm, gtT c_m1, trivial⟩, K1⟩
      by_cases c_w0 : wi < 1
      · skip
        rw [bad (x := True) (fun e => by obtain ⟨e, _⟩ := e; simp only [headOk, List.length_nil] at e; omega)]
        exact ⟨_, pvF 0 Try.func37 (v3p.ck_w01 h.length r m wi ba ca (.slice none 0 0) h) ⟨rfl, lr, Ev.neF rr1, lm, ltF (by omega), lm, gtF (by omega), lwi, ltT c_w0, trivial⟩, K1⟩
      by_cases c_w1 : wi > 1000000000000
      · skip
        rw [bad (x := True) (fun e => by obtain ⟨e, _⟩ := e; simp only [headOk, List.length_nil] at e; omega)]
        exact ⟨_, pvF 0 Try.func37 (v3p.ck_w11 h.length r m wi ba ca (.slice none 0 0) h) ⟨rfl, lr, Ev.neF rr1, lm, ltF (by omega), lm, gtF (by omega), lwi, ltF (by omega), lwi, gtT c_w1, trivial⟩, K1⟩
      by_cases c_b0 : ba < 0
      · skip
        rw [bad (x := True) (fun e => by obtain ⟨e, _⟩ := e; simp only [headOk, List.length_nil] at e; omega)]
        exact ⟨_, pvF 0 Try.func37 (v3p.ck_b01 h.length r m wi ba ca (.slice none 0 0) h) ⟨rfl, lr, Ev.neF rr1, lm, ltF (by omega), lm, gtF (by omega), lwi, ltF (by omega), lwi, gtF (by omega), lba, ltT c_b0, trivial⟩, K1⟩
      by_cases c_b1 : ba > ca
      · skip
        rw [bad (x := True) (fun e => by obtain ⟨e, _⟩ := e; simp only [headOk, List.length_nil] at e; omega)]
        exact ⟨_, pvF 0 Try.func37 (v3p.ck_b11 h.length r m wi ba ca (.slice none 0 0) h) ⟨rfl, lr, Ev.neF rr1, lm, ltF (by omega), lm, gtF (by omega), lwi, ltF (by omega), lwi, gtF (by omega), lba, ltF (by omega), lba, lca, gtT c_b1, trivial⟩, K1⟩
      by_cases c_c1 : ca > 1000000000000
      · skip
        rw [bad (x := True) (fun e => by obtain ⟨e, _⟩ := e; simp only [headOk, List.length_nil] at e; omega)]
        exact ⟨_, pvF 0 Try.func37 (v3p.ck_c11 h.length r m wi ba ca (.slice none 0 0) h) ⟨rfl, lr, Ev.neF rr1, lm, ltF (by omega), lm, gtF (by omega), lwi, ltF (by omega), lwi, gtF (by omega), lba, ltF (by omega), lba, lca, gtF (by omega), lca, gtT c_c1, trivial⟩, K1⟩
      rw [bad (x := True) (fun e => by obtain ⟨e, _⟩ := e; simp only [headOk, List.length_nil] at e; omega)]
      exact ⟨_, pvF 0 Try.func37 (v3p.ck_n01n h.length r m wi ba ca h) ⟨rfl, lr, Ev.neF rr1, lm, ltF (by omega), lm, gtF (by omega), lwi, ltF (by omega), lwi, gtF (by omega), lba, ltF (by omega), lba, lca, gtF (by omega), lca, gtF (by omega), lsv, ltT (by omega), trivial⟩, K1⟩
    by_cases rr2 : r = 2
    · skip
      by_cases c_m0 : m < 0
      · skip
        rw [bad (x := True) (fun e => by obtain ⟨e, _⟩ := e; simp only [headOk, List.length_nil] at e; omega)]
        exact ⟨_, pvF 0 Try.func37 (v3p.ck_m02 h.length r m wi ba ca (.slice none 0 0) h) ⟨rfl, lr, Ev.neT rr1, lr, Ev.neF rr2, lm, ltT c_m0, trivial⟩, K1⟩
      by_cases c_m1 : m > 20
      · skip
        rw [bad (x := True) (fun e => by obtain ⟨e, _⟩ := e; simp only [headOk, List.length_nil] at e; omega)]
        exact ⟨_, pvF 0 Try.func37 (v3p.ck_m12 h.length r m wi ba ca (.slice none 0 0) h) ⟨rfl, lr, Ev.neT rr1, lr, Ev.neF rr2, lm, ltF (by omega), lm, gtT c_m1, trivial⟩, K1⟩
      by_cases c_w0 : wi < 1
      · skip
        rw [bad (x := True) (fun e => by obtain ⟨e, _⟩ := e; simp only [headOk, List.length_nil] at e; omega)]
        exact ⟨_, pvF 0 Try.func37 (v3p.ck_w02 h.length r m wi ba ca (.slice none 0 0) h) ⟨rfl, lr, Ev.neT rr1, lr, Ev.neF rr2, lm, ltF (by omega), lm, gtF (by omega), lwi, ltT c_w0, trivial⟩, K1⟩
      by_cases c_w1 : wi > 1000000000000
      · skip
        rw [bad (x := True) (fun e => by obtain ⟨e, _⟩ := e; simp only [headOk, List.length_nil] at e; omega)]
        exact ⟨_, pvF 0 Try.func37 (v3p.ck_w12 h.length r m wi ba ca (.slice none 0 0) h) ⟨rfl, lr, Ev.neT rr1, lr, Ev.neF rr2, lm, ltF (by omega), lm, gtF (by omega), lwi, ltF (by omega), lwi, gtT c_w1, trivial⟩, K1⟩
      by_cases c_b0 : ba < 0
      · skip
        rw [bad (x := True) (fun e => by obtain ⟨e, _⟩ := e; simp only [headOk, List.length_nil] at e; omega)]
        exact ⟨_, pvF 0 Try.func37 (v3p.ck_b02 h.length r m wi ba ca (.slice none 0 0) h) ⟨rfl, lr, Ev.neT rr1, lr, Ev.neF rr2, lm, ltF (by omega), lm, gtF (by omega), lwi, ltF (by omega), lwi, gtF (by omega), lba, ltT c_b0, trivial⟩, K1⟩
      by_cases c_b1 : ba > ca
      · skip
        rw [bad (x := True) (fun e => by obtain ⟨e, _⟩ := e; simp only [headOk, List.length_nil] at e; omega)]
        exact ⟨_, pvF 0 Try.func37 (v3p.ck_b12 h.length r m wi ba ca (.slice none 0 0) h) ⟨rfl, lr, Ev.neT rr1, lr, Ev.neF rr2, lm, ltF (by omega), lm, gtF (by omega), lwi, ltF (by omega), lwi, gtF (by omega), lba, ltF (by omega), lba, lca, gtT c_b1, trivial⟩, K1⟩
      by_cases c_c1 : ca > 1000000000000
      · skip
        rw [bad (x := True) (fun e => by obtain ⟨e, _⟩ := e; simp only [headOk, List.length_nil] at e; omega)]
        exact ⟨_, pvF 0 Try.func37 (v3p.ck_c12 h.length r m wi ba ca (.slice none 0 0) h) ⟨rfl, lr, Ev.neT rr1, lr, Ev.neF rr2, lm, ltF (by omega), lm, gtF (by omega), lwi, ltF (by omega), lwi, gtF (by omega), lba, ltF (by omega), lba, lca, gtF (by omega), lca, gtT c_c1, trivial⟩, K1⟩
      rw [bad (x := True) (fun e => by obtain ⟨e, _⟩ := e; simp only [headOk, List.length_nil] at e; omega)]
      exact ⟨_, pvF 0 Try.func37 (v3p.ck_n02n h.length r m wi ba ca h) ⟨rfl, lr, Ev.neT rr1, lr, Ev.neF rr2, lm, ltF (by omega), lm, gtF (by omega), lwi, ltF (by omega), lwi, gtF (by omega), lba, ltF (by omega), lba, lca, gtF (by omega), lca, gtF (by omega), lsv, ltT (by omega), trivial⟩, K1⟩
    by_cases c_m0 : m < 0
    · skip
      rw [bad (x := True) (fun e => by obtain ⟨e, _⟩ := e; simp only [headOk, List.length_nil] at e; omega)]
      exact ⟨_, pvF 0 Try.func37 (v3p.ck_m03 h.length r m wi ba ca (.slice none 0 0) h) ⟨rfl, lr, Ev.neT rr1, lr, Ev.neT rr2, lr, Ev.neF (by omega), lm, ltT c_m0, trivial⟩, K1⟩
    by_cases c_m1 : m > 20
    · skip
      rw [bad (x := True) (fun e => by obtain ⟨e, _⟩ := e; simp only [headOk, List.length_nil] at e; omega)]
      exact ⟨_, pvF 0 Try.func37 (v3p.ck_m13 h.length r m wi ba ca (.slice none 0 0) h) ⟨rfl, lr, Ev.neT rr1, lr, Ev.neT rr2, lr, Ev.neF (by omega), lm, ltF (by omega), lm, gtT c_m1, trivial⟩, K1⟩
    by_cases c_w0 : wi < 1
    · skip
      rw [bad (x := True) (fun e => by obtain ⟨e, _⟩ := e; simp only [headOk, List.length_nil] at e; omega)]
      exact ⟨_, pvF 0 Try.func37 (v3p.ck_w03 h.length r m wi ba ca (.slice none 0 0) h) ⟨rfl, lr, Ev.neT rr1, lr, Ev.neT rr2, lr, Ev.neF (by omega), lm, ltF (by omega), lm, gtF (by omega), lwi, ltT c_w0, trivial⟩, K1⟩
    by_cases c_w1 : wi > 1000000000000
    · skip
      rw [bad (x := True) (fun e => by obtain ⟨e, _⟩ := e; simp only [headOk, List.length_nil] at e; omega)]
      exact ⟨_, pvF 0 Try.func37 (v3p.ck_w13 h.length r m wi ba ca (.slice none 0 0) h) ⟨rfl, lr, Ev.neT rr1, lr, Ev.neT rr2, lr, Ev.neF (by omega), lm, ltF (by omega), lm, gtF (by omega), lwi, ltF (by omega), lwi, gtT c_w1, trivial⟩, K1⟩
    by_cases c_b0 : ba < 0
    · skip
      rw [bad (x := True) (fun e => by obtain ⟨e, _⟩ := e; simp only [headOk, List.length_nil] at e; omega)]
      exact ⟨_, pvF 0 Try.func37 (v3p.ck_b03 h.length r m wi ba ca (.slice none 0 0) h) ⟨rfl, lr, Ev.neT rr1, lr, Ev.neT rr2, lr, Ev.neF (by omega), lm, ltF (by omega), lm, gtF (by omega), lwi, ltF (by omega), lwi, gtF (by omega), lba, ltT c_b0, trivial⟩, K1⟩
    by_cases c_b1 : ba > ca
    · skip
      rw [bad (x := True) (fun e => by obtain ⟨e, _⟩ := e; simp only [headOk, List.length_nil] at e; omega)]
      exact ⟨_, pvF 0 Try.func37 (v3p.ck_b13 h.length r m wi ba ca (.slice none 0 0) h) ⟨rfl, lr, Ev.neT rr1, lr, Ev.neT rr2, lr, Ev.neF (by omega), lm, ltF (by omega), lm, gtF (by omega), lwi, ltF (by omega), lwi, gtF (by omega), lba, ltF (by omega), lba, lca, gtT c_b1, trivial⟩, K1⟩
    by_cases c_c1 : ca > 1000000000000
    · skip
      rw [bad (x := True) (fun e => by obtain ⟨e, _⟩ := e; simp only [headOk, List.length_nil] at e; omega)]
      exact ⟨_, pvF 0 Try.func37 (v3p.ck_c13 h.length r m wi ba ca (.slice none 0 0) h) ⟨rfl, lr, Ev.neT rr1, lr, Ev.neT rr2, lr, Ev.neF (by omega), lm, ltF (by omega), lm, gtF (by omega), lwi, ltF (by omega), lwi, gtF (by omega), lba, ltF (by omega), lba, lca, gtF (by omega), lca, gtT c_c1, trivial⟩, K1⟩
    rw [bad (x := True) (fun e => by obtain ⟨e, _⟩ := e; simp only [headOk, List.length_nil] at e; omega)]
    exact ⟨_, pvF 0 Try.func37 (v3p.ck_n03n h.length r m wi ba ca h) ⟨rfl, lr, Ev.neT rr1, lr, Ev.neT rr2, lr, Ev.neF (by omega), lm, ltF (by omega), lm, gtF (by omega), lwi, ltF (by omega), lwi, gtF (by omega), lba, ltF (by omega), lba, lca, gtF (by omega), lca, gtF (by omega), lsv, ltT (by omega), trivial⟩, K1⟩
  · have lr := a_ld1 (P := Try.prog) (s := .push (.is h) (.cells ((⟨r, m, wi, ba, ca⟩ : SpecV).cells ((.slice (some ⟨o, 0, none⟩) l.length 3))) true)) (d := 0) (v := .int .i64 r) (get_new h _) rfl
    have lm := a_ld1 (P := Try.prog) (s := .push (.is h) (.cells ((⟨r, m, wi, ba, ca⟩ : SpecV).cells ((.slice (some ⟨o, 0, none⟩) l.length 3))) true)) (d := 1) (v := .int .i64 m) (get_new h _) rfl
    have lwi := a_ld1 (P := Try.prog) (s := .push (.is h) (.cells ((⟨r, m, wi, ba, ca⟩ : SpecV).cells ((.slice (some ⟨o, 0, none⟩) l.length 3))) true)) (d := 2) (v := .int .i64 wi) (get_new h _) rfl
    have lba := a_ld1 (P := Try.prog) (s := .push (.is h) (.cells ((⟨r, m, wi, ba, ca⟩ : SpecV).cells ((.slice (some ⟨o, 0, none⟩) l.length 3))) true)) (d := 3) (v := .int .i64 ba) (get_new h _) rfl
    have lca := a_ld1 (P := Try.prog) (s := .push (.is h) (.cells ((⟨r, m, wi, ba, ca⟩ : SpecV).cells ((.slice (some ⟨o, 0, none⟩) l.length 3))) true)) (d := 4) (v := .int .i64 ca) (get_new h _) rfl
    have lsv := a_ld1 (P := Try.prog) (s := .push (.is h) (.cells ((⟨r, m, wi, ba, ca⟩ : SpecV).cells ((.slice (some ⟨o, 0, none⟩) l.length 3))) true)) (d := 5) (v := (.slice (some ⟨o, 0, none⟩) l.length 3)) (get_new h _) rfl
    by_cases r0 : r ≠ 1 ∧ r ≠ 2 ∧ r ≠ 3
    · skip
      rw [bad (x := True) (fun e => by obtain ⟨e, _⟩ := e; simp only [headOk, List.length_nil] at e; omega)]
      exact ⟨_, pvF 0 Try.func37 (v3p.ck_r0 h.length r m wi ba ca (.slice (some ⟨o, 0, none⟩) l.length 3) h) ⟨rfl, lr, Ev.neT r0.1, lr, Ev.neT r0.2.1, lr, Ev.neT r0.2.2, trivial⟩, K1⟩
    by_cases rr1 : r = 1
    · skip
      by_cases c_m0 : m < 0
      · skip
        rw [bad (x := True) (fun e => by obtain ⟨e, _⟩ := e; simp only [headOk, List.length_nil] at e; omega)]
        exact ⟨_, pvF 0 Try.func37 (v3p.ck_m01 h.length r m wi ba ca (.slice (some ⟨o, 0, none⟩) l.length 3) h) ⟨rfl, lr, Ev.neF rr1, lm, ltT c_m0, trivial⟩, K1⟩
      by_cases c_m1 : m > 20
      · skip
        rw [bad (x := True) (fun e => by obtain ⟨e, _⟩ := e; simp only [headOk, List.length_nil] at e; omega)]
        exact ⟨_, pvF 0 Try.func37 (v3p.ck_m11 h.length r m wi ba ca (.slice (some ⟨o, 0, none⟩) l.length 3) h) ⟨rfl, lr, Ev.neF rr1, lm, ltF (by omega), lm, gtT c_m1, trivial⟩, K1⟩
      by_cases c_w0 : wi < 1
      · skip
        rw [bad (x := True) (fun e => by obtain ⟨e, _⟩ := e; simp only [headOk, List.length_nil] at e; omega)]
        exact ⟨_, pvF 0 Try.func37 (v3p.ck_w01 h.length r m wi ba ca (.slice (some ⟨o, 0, none⟩) l.length 3) h) ⟨rfl, lr, Ev.neF rr1, lm, ltF (by omega), lm, gtF (by omega), lwi, ltT c_w0, trivial⟩, K1⟩
      by_cases c_w1 : wi > 1000000000000
      · skip
        rw [bad (x := True) (fun e => by obtain ⟨e, _⟩ := e; simp only [headOk, List.length_nil] at e; omega)]
        exact ⟨_, pvF 0 Try.func37 (v3p.ck_w11 h.length r m wi ba ca (.slice (some ⟨o, 0, none⟩) l.length 3) h) ⟨rfl, lr, Ev.neF rr1, lm, ltF (by omega), lm, gtF (by omega), lwi, ltF (by omega), lwi, gtT c_w1, trivial⟩, K1⟩
      by_cases c_b0 : ba < 0
      · skip
        rw [bad (x := True) (fun e => by obtain ⟨e, _⟩ := e; simp only [headOk, List.length_nil] at e; omega)]
        exact ⟨_, pvF 0 Try.func37 (v3p.ck_b01 h.length r m wi ba ca (.slice (some ⟨o, 0, none⟩) l.length 3) h) ⟨rfl, lr, Ev.neF rr1, lm, ltF (by omega), lm, gtF (by omega), lwi, ltF (by omega), lwi, gtF (by omega), lba, ltT c_b0, trivial⟩, K1⟩
      by_cases c_b1 : ba > ca
      · skip
        rw [bad (x := True) (fun e => by obtain ⟨e, _⟩ := e; simp only [headOk, List.length_nil] at e; omega)]
        exact ⟨_, pvF 0 Try.func37 (v3p.ck_b11 h.length r m wi ba ca (.slice (some ⟨o, 0, none⟩) l.length 3) h) ⟨rfl, lr, Ev.neF rr1, lm, ltF (by omega), lm, gtF (by omega), lwi, ltF (by omega), lwi, gtF (by omega), lba, ltF (by omega), lba, lca, gtT c_b1, trivial⟩, K1⟩
      by_cases c_c1 : ca > 1000000000000
      · skip
        rw [bad (x := True) (fun e => by obtain ⟨e, _⟩ := e; simp only [headOk, List.length_nil] at e; omega)]
        exact ⟨_, pvF 0 Try.func37 (v3p.ck_c11 h.length r m wi ba ca (.slice (some ⟨o, 0, none⟩) l.length 3) h) ⟨rfl, lr, Ev.neF rr1, lm, ltF (by omega), lm, gtF (by omega), lwi, ltF (by omega), lwi, gtF (by omega), lba, ltF (by omega), lba, lca, gtF (by omega), lca, gtT c_c1, trivial⟩, K1⟩
      by_cases c_n0 : l.length < 1
      · skip
        rw [bad (x := True) (fun e => by obtain ⟨e, _⟩ := e; simp only [headOk, List.length_nil] at e; omega)]
        exact ⟨_, pvF 0 Try.func37 (v3p.ck_n01s h.length o l.length r m wi ba ca h) ⟨rfl, lr, Ev.neF rr1, lm, ltF (by omega), lm, gtF (by omega), lwi, ltF (by omega), lwi, gtF (by omega), lba, ltF (by omega), lba, lca, gtF (by omega), lca, gtF (by omega), lsv, ltT (by simp; omega), trivial⟩, K1⟩
      by_cases c_n9 : l.length > 8
      · skip
        rw [bad (x := True) (fun e => by obtain ⟨e, _⟩ := e; simp only [headOk, List.length_nil] at e; omega)]
        exact ⟨_, pvF 0 Try.func37 (v3p.ck_n91s h.length o l.length r m wi ba ca h) ⟨rfl, lr, Ev.neF rr1, lm, ltF (by omega), lm, gtF (by omega), lwi, ltF (by omega), lwi, gtF (by omega), lba, ltF (by omega), lba, lca, gtF (by omega), lca, gtF (by omega), lsv, ltF (by simp; omega), lsv, gtT (by simp; omega), trivial⟩, K1⟩
      obtain ⟨x', E1, h1, hl1, k1, hx⟩ := cl_loop (K1.2 _ _ ho (fun e => e)) (show SvsAt _ xs l from ha.keep K1) (by omega)
      rcases hx with ⟨rfl, e⟩ | ⟨rfl, e, e2⟩
      · rw [show checkF ⟨r, m, wi, ba, ca⟩ l = 0 by unfold checkF; rw [if_pos ⟨by simp only [headOk]; omega, e⟩]]
        exact ⟨_, pvF 0 Try.func37 (v3p.ck_ok1 h.length o l.length r m wi ba ca E1 h h1) ⟨rfl, lr, Ev.neF rr1, lm, ltF (by omega), lm, gtF (by omega), lwi, ltF (by omega), lwi, gtF (by omega), lba, ltF (by omega), lba, lca, gtF (by omega), lca, gtF (by omega), lsv, ltF (by simp; omega), lsv, gtF (by simp; omega), lsv, a_loop (by kernel_rfl) (.add (.add (.add (.nil _) rfl) rfl) rfl) (.refl _) hl1, trivial⟩, K1.trans k1⟩
      · rw [bad (x := True) (fun r => by rw [e2] at r; exact absurd r.2 (by simp))]
        have e3 : EnvLe ((2, .int .i64 2) :: E1) E1 := .add (.refl _) (e _ _ rfl)
        exact ⟨_, pvF 0 Try.func37 (v3p.ck_no1 h.length o l.length r m wi ba ca E1 h h1) ⟨rfl, lr, Ev.neF rr1, lm, ltF (by omega), lm, gtF (by omega), lwi, ltF (by omega), lwi, gtF (by omega), lba, ltF (by omega), lba, lca, gtF (by omega), lca, gtF (by omega), lsv, ltF (by simp; omega), lsv, gtF (by simp; omega), lsv, a_loop (by kernel_rfl) (.add (.add (.add (.nil _) rfl) rfl) rfl) e3 hl1, trivial⟩, K1.trans k1⟩
    by_cases rr2 : r = 2
    · skip
      by_cases c_m0 : m < 0
      · skip
        rw [bad (x := True) (fun e => by obtain ⟨e, _⟩ := e; simp only [headOk, List.length_nil] at e; omega)]
        exact ⟨_, pvF 0 Try.func37 (v3p.ck_m02 h.length r m wi ba ca (.slice (some ⟨o, 0, none⟩) l.length 3) h) ⟨rfl, lr, Ev.neT rr1, lr, Ev.neF rr2, lm, ltT c_m0, trivial⟩, K1⟩
      by_cases c_m1 : m > 20
      · skip
        rw [bad (x := True) (fun e => by obtain ⟨e, _⟩ := e; simp only [headOk, List.length_nil] at e; omega)]
        exact ⟨_, pvF 0 Try.func37 (v3p.ck_m12 h.length r m wi ba ca (.slice (some ⟨o, 0, none⟩) l.length 3) h) ⟨rfl, lr, Ev.neT rr1, lr, Ev.neF rr2, lm, ltF (by omega), lm, gtT c_m1, trivial⟩, K1⟩
      by_cases c_w0 : wi < 1
      · skip
        rw [bad (x := True) (fun e => by obtain ⟨e, _⟩ := e; simp only [headOk, List.length_nil] at e; omega)]
        exact ⟨_, pvF 0 Try.func37 (v3p.ck_w02 h.length r m wi ba ca (.slice (some ⟨o, 0, none⟩) l.length 3) h) ⟨rfl, lr, Ev.neT rr1, lr, Ev.neF rr2, lm, ltF (by omega), lm, gtF (by omega), lwi, ltT c_w0, trivial⟩, K1⟩
      by_cases c_w1 : wi > 1000000000000
      · skip
        rw [bad (x := True) (fun e => by obtain ⟨e, _⟩ := e; simp only [headOk, List.length_nil] at e; omega)]
        exact ⟨_, pvF 0 Try.func37 (v3p.ck_w12 h.length r m wi ba ca (.slice (some ⟨o, 0, none⟩) l.length 3) h) ⟨rfl, lr, Ev.neT rr1, lr, Ev.neF rr2, lm, ltF (by omega), lm, gtF (by omega), lwi, ltF (by omega), lwi, gtT c_w1, trivial⟩, K1⟩
      by_cases c_b0 : ba < 0
      · skip
        rw [bad (x := True) (fun e => by obtain ⟨e, _⟩ := e; simp only [headOk, List.length_nil] at e; omega)]
        exact ⟨_, pvF 0 Try.func37 (v3p.ck_b02 h.length r m wi ba ca (.slice (some ⟨o, 0, none⟩) l.length 3) h) ⟨rfl, lr, Ev.neT rr1, lr, Ev.neF rr2, lm, ltF (by omega), lm, gtF (by omega), lwi, ltF (by omega), lwi, gtF (by omega), lba, ltT c_b0, trivial⟩, K1⟩
      by_cases c_b1 : ba > ca
      · skip
        rw [bad (x := True) (fun e => by obtain ⟨e, _⟩ := e; simp only [headOk, List.length_nil] at e; omega)]
        exact ⟨_, pvF 0 Try.func37 (v3p.ck_b12 h.length r m wi ba ca (.slice (some ⟨o, 0, none⟩) l.length 3) h) ⟨rfl, lr, Ev.neT rr1, lr, Ev.neF rr2, lm, ltF (by omega), lm, gtF (by omega), lwi, ltF (by omega), lwi, gtF (by omega), lba, ltF (by omega), lba, lca, gtT c_b1, trivial⟩, K1⟩
      by_cases c_c1 : ca > 1000000000000
      · skip
        rw [bad (x := True) (fun e => by obtain ⟨e, _⟩ := e; simp only [headOk, List.length_nil] at e; omega)]
        exact ⟨_, pvF 0 Try.func37 (v3p.ck_c12 h.length r m wi ba ca (.slice (some ⟨o, 0, none⟩) l.length 3) h) ⟨rfl, lr, Ev.neT rr1, lr, Ev.neF rr2, lm, ltF (by omega), lm, gtF (by omega), lwi, ltF (by omega), lwi, gtF (by omega), lba, ltF (by omega), lba, lca, gtF (by omega), lca, gtT c_c1, trivial⟩, K1⟩
      by_cases c_n0 : l.length < 1
      · skip
        rw [bad (x := True) (fun e => by obtain ⟨e, _⟩ := e; simp only [headOk, List.length_nil] at e; omega)]
        exact ⟨_, pvF 0 Try.func37 (v3p.ck_n02s h.length o l.length r m wi ba ca h) ⟨rfl, lr, Ev.neT rr1, lr, Ev.neF rr2, lm, ltF (by omega), lm, gtF (by omega), lwi, ltF (by omega), lwi, gtF (by omega), lba, ltF (by omega), lba, lca, gtF (by omega), lca, gtF (by omega), lsv, ltT (by simp; omega), trivial⟩, K1⟩
      by_cases c_n9 : l.length > 8
      · skip
        rw [bad (x := True) (fun e => by obtain ⟨e, _⟩ := e; simp only [headOk, List.length_nil] at e; omega)]
        exact ⟨_, pvF 0 Try.func37 (v3p.ck_n92s h.length o l.length r m wi ba ca h) ⟨rfl, lr, Ev.neT rr1, lr, Ev.neF rr2, lm, ltF (by omega), lm, gtF (by omega), lwi, ltF (by omega), lwi, gtF (by omega), lba, ltF (by omega), lba, lca, gtF (by omega), lca, gtF (by omega), lsv, ltF (by simp; omega), lsv, gtT (by simp; omega), trivial⟩, K1⟩
      obtain ⟨x', E1, h1, hl1, k1, hx⟩ := cl_loop (K1.2 _ _ ho (fun e => e)) (show SvsAt _ xs l from ha.keep K1) (by omega)
      rcases hx with ⟨rfl, e⟩ | ⟨rfl, e, e2⟩
      · rw [show checkF ⟨r, m, wi, ba, ca⟩ l = 0 by unfold checkF; rw [if_pos ⟨by simp only [headOk]; omega, e⟩]]
        exact ⟨_, pvF 0 Try.func37 (v3p.ck_ok2 h.length o l.length r m wi ba ca E1 h h1) ⟨rfl, lr, Ev.neT rr1, lr, Ev.neF rr2, lm, ltF (by omega), lm, gtF (by omega), lwi, ltF (by omega), lwi, gtF (by omega), lba, ltF (by omega), lba, lca, gtF (by omega), lca, gtF (by omega), lsv, ltF (by simp; omega), lsv, gtF (by simp; omega), lsv, a_loop (by kernel_rfl) (.add (.add (.add (.nil _) rfl) rfl) rfl) (.refl _) hl1, trivial⟩, K1.trans k1⟩
      · rw [bad (x := True) (fun r => by rw [e2] at r; exact absurd r.2 (by simp))]
        have e3 : EnvLe ((2, .int .i64 2) :: E1) E1 := .add (.refl _) (e _ _ rfl)
        exact ⟨_, pvF 0 Try.func37 (v3p.ck_no2 h.length o l.length r m wi ba ca E1 h h1) ⟨rfl, lr, Ev.neT rr1, lr, Ev.neF rr2, lm, ltF (by omega), lm, gtF (by omega), lwi, ltF (by omega), lwi, gtF (by omega), lba, ltF (by omega), lba, lca, gtF (by omega), lca, gtF (by omega), lsv, ltF (by simp; omega), lsv, gtF (by simp; omega), lsv, a_loop (by kernel_rfl) (.add (.add (.add (.nil _) rfl) rfl) rfl) e3 hl1, trivial⟩, K1.trans k1⟩
    by_cases c_m0 : m < 0
    · skip
      rw [bad (x := True) (fun e => by obtain ⟨e, _⟩ := e; simp only [headOk, List.length_nil] at e; omega)]
      exact ⟨_, pvF 0 Try.func37 (v3p.ck_m03 h.length r m wi ba ca (.slice (some ⟨o, 0, none⟩) l.length 3) h) ⟨rfl, lr, Ev.neT rr1, lr, Ev.neT rr2, lr, Ev.neF (by omega), lm, ltT c_m0, trivial⟩, K1⟩
    by_cases c_m1 : m > 20
    · skip
      rw [bad (x := True) (fun e => by obtain ⟨e, _⟩ := e; simp only [headOk, List.length_nil] at e; omega)]
      exact ⟨_, pvF 0 Try.func37 (v3p.ck_m13 h.length r m wi ba ca (.slice (some ⟨o, 0, none⟩) l.length 3) h) ⟨rfl, lr, Ev.neT rr1, lr, Ev.neT rr2, lr, Ev.neF (by omega), lm, ltF (by omega), lm, gtT c_m1, trivial⟩, K1⟩
    by_cases c_w0 : wi < 1
    · skip
      rw [bad (x := True) (fun e => by obtain ⟨e, _⟩ := e; simp only [headOk, List.length_nil] at e; omega)]
      exact ⟨_, pvF 0 Try.func37 (v3p.ck_w03 h.length r m wi ba ca (.slice (some ⟨o, 0, none⟩) l.length 3) h) ⟨rfl, lr, Ev.neT rr1, lr, Ev.neT rr2, lr, Ev.neF (by omega), lm, ltF (by omega), lm, gtF (by omega), lwi, ltT c_w0, trivial⟩, K1⟩
    by_cases c_w1 : wi > 1000000000000
    · skip
      rw [bad (x := True) (fun e => by obtain ⟨e, _⟩ := e; simp only [headOk, List.length_nil] at e; omega)]
      exact ⟨_, pvF 0 Try.func37 (v3p.ck_w13 h.length r m wi ba ca (.slice (some ⟨o, 0, none⟩) l.length 3) h) ⟨rfl, lr, Ev.neT rr1, lr, Ev.neT rr2, lr, Ev.neF (by omega), lm, ltF (by omega), lm, gtF (by omega), lwi, ltF (by omega), lwi, gtT c_w1, trivial⟩, K1⟩
    by_cases c_b0 : ba < 0
    · skip
      rw [bad (x := True) (fun e => by obtain ⟨e, _⟩ := e; simp only [headOk, List.length_nil] at e; omega)]
      exact ⟨_, pvF 0 Try.func37 (v3p.ck_b03 h.length r m wi ba ca (.slice (some ⟨o, 0, none⟩) l.length 3) h) ⟨rfl, lr, Ev.neT rr1, lr, Ev.neT rr2, lr, Ev.neF (by omega), lm, ltF (by omega), lm, gtF (by omega), lwi, ltF (by omega), lwi, gtF (by omega), lba, ltT c_b0, trivial⟩, K1⟩
    by_cases c_b1 : ba > ca
    · skip
      rw [bad (x := True) (fun e => by obtain ⟨e, _⟩ := e; simp only [headOk, List.length_nil] at e; omega)]
      exact ⟨_, pvF 0 Try.func37 (v3p.ck_b13 h.length r m wi ba ca (.slice (some ⟨o, 0, none⟩) l.length 3) h) ⟨rfl, lr, Ev.neT rr1, lr, Ev.neT rr2, lr, Ev.neF (by omega), lm, ltF (by omega), lm, gtF (by omega), lwi, ltF (by omega), lwi, gtF (by omega), lba, ltF (by omega), lba, lca, gtT c_b1, trivial⟩, K1⟩
    by_cases c_c1 : ca > 1000000000000
    · skip
      rw [bad (x := True) (fun e => by obtain ⟨e, _⟩ := e; simp only [headOk, List.length_nil] at e; omega)]
      exact ⟨_, pvF 0 Try.func37 (v3p.ck_c13 h.length r m wi ba ca (.slice (some ⟨o, 0, none⟩) l.length 3) h) ⟨rfl, lr, Ev.neT rr1, lr, Ev.neT rr2, lr, Ev.neF (by omega), lm, ltF (by omega), lm, gtF (by omega), lwi, ltF (by omega), lwi, gtF (by omega), lba, ltF (by omega), lba, lca, gtF (by omega), lca, gtT c_c1, trivial⟩, K1⟩
    by_cases c_n0 : l.length < 1
    · skip
      rw [bad (x := True) (fun e => by obtain ⟨e, _⟩ := e; simp only [headOk, List.length_nil] at e; omega)]
      exact ⟨_, pvF 0 Try.func37 (v3p.ck_n03s h.length o l.length r m wi ba ca h) ⟨rfl, lr, Ev.neT rr1, lr, Ev.neT rr2, lr, Ev.neF (by omega), lm, ltF (by omega), lm, gtF (by omega), lwi, ltF (by omega), lwi, gtF (by omega), lba, ltF (by omega), lba, lca, gtF (by omega), lca, gtF (by omega), lsv, ltT (by simp; omega), trivial⟩, K1⟩
    by_cases c_n9 : l.length > 8
    · skip
      rw [bad (x := True) (fun e => by obtain ⟨e, _⟩ := e; simp only [headOk, List.length_nil] at e; omega)]
      exact ⟨_, pvF 0 Try.func37 (v3p.ck_n93s h.length o l.length r m wi ba ca h) ⟨rfl, lr, Ev.neT rr1, lr, Ev.neT rr2, lr, Ev.neF (by omega), lm, ltF (by omega), lm, gtF (by omega), lwi, ltF (by omega), lwi, gtF (by omega), lba, ltF (by omega), lba, lca, gtF (by omega), lca, gtF (by omega), lsv, ltF (by simp; omega), lsv, gtT (by simp; omega), trivial⟩, K1⟩
    obtain ⟨x', E1, h1, hl1, k1, hx⟩ := cl_loop (K1.2 _ _ ho (fun e => e)) (show SvsAt _ xs l from ha.keep K1) (by omega)
    rcases hx with ⟨rfl, e⟩ | ⟨rfl, e, e2⟩
    · rw [show checkF ⟨r, m, wi, ba, ca⟩ l = 0 by unfold checkF; rw [if_pos ⟨by simp only [headOk]; omega, e⟩]]
      exact ⟨_, pvF 0 Try.func37 (v3p.ck_ok3 h.length o l.length r m wi ba ca E1 h h1) ⟨rfl, lr, Ev.neT rr1, lr, Ev.neT rr2, lr, Ev.neF (by omega), lm, ltF (by omega), lm, gtF (by omega), lwi, ltF (by omega), lwi, gtF (by omega), lba, ltF (by omega), lba, lca, gtF (by omega), lca, gtF (by omega), lsv, ltF (by simp; omega), lsv, gtF (by simp; omega), lsv, a_loop (by kernel_rfl) (.add (.add (.add (.nil _) rfl) rfl) rfl) (.refl _) hl1, trivial⟩, K1.trans k1⟩
    · rw [bad (x := True) (fun r => by rw [e2] at r; exact absurd r.2 (by simp))]
      have e3 : EnvLe ((2, .int .i64 2) :: E1) E1 := .add (.refl _) (e _ _ rfl)
      exact ⟨_, pvF 0 Try.func37 (v3p.ck_no3 h.length o l.length r m wi ba ca E1 h h1) ⟨rfl, lr, Ev.neT rr1, lr, Ev.neT rr2, lr, Ev.neF (by omega), lm, ltF (by omega), lm, gtF (by omega), lwi, ltF (by omega), lwi, gtF (by omega), lba, ltF (by omega), lba, lca, gtF (by omega), lca, gtF (by omega), lsv, ltF (by simp; omega), lsv, gtF (by simp; omega), lsv, a_loop (by kernel_rfl) (.add (.add (.add (.nil _) rfl) rfl) rfl) e3 hl1, trivial⟩, K1.trans k1⟩

/-! ### New -/
def onesC (k : Nat) : List Value := iC (List.replicate k 1)
theorem onesC_succ (k : Nat) : onesC (k + 1) = onesC k ++ [.int .i64 1] := by simp [onesC, iC, List.replicate_succ']
def nwC (s : SpecV) (sl st at' : Value) : List Value := [.int .i64 s.r, .int .i64 s.m, .int .i64 s.wi, .int .i64 s.ba, .int .i64 s.ca, sl, st, at', .int .i64 0, .slice none 0 0, .int .i64 0, .bool false]
theorem nl_loop {w c len : Nat} (s : SpecV) {sl at' : Value} (hw : h[w]? = some (.cells (nwC s sl (.slice none 0 0) at') true)) (hn : 1 ≤ len ∧ len ≤ 8) :
    ∃ E1 h1 p, EnvLe [(5, .pointer (some ⟨w, 0, none⟩)), (2, .pointer (some ⟨c, 0, none⟩))] E1 ∧ LRun Try.prog 30 false (loopN Try.f24 0) [(21, .int .i64 (0 : Nat)), (20, .int .i64 (Int.ofNat len)), (5, .pointer (some ⟨w, 0, none⟩)), (2, .pointer (some ⟨c, 0, none⟩))] h (.exit 0) E1 h1 ∧
      h1[w]? = some (.cells (nwC s sl (.slice (some ⟨p, 0, none⟩) len 1) at') true) ∧ h1[p]? = some (.cells (onesC len) true) ∧ Keep (fun x => x = w) h h1 ∧ h.length ≤ p := by
  have hwl := get_lt hw
  obtain ⟨x', E1, h1, hl1, rfl, q1, q2⟩ := loop_inv (P := Try.prog) (n := 30) (rd := false) (b := loopN Try.f24 0)
    (Q := fun x' E1 h1 => x' = .exit 0 ∧ EnvLe [(5, .pointer (some ⟨w, 0, none⟩)), (2, .pointer (some ⟨c, 0, none⟩))] E1 ∧ ∃ p, h1[w]? = some (.cells (nwC s sl (.slice (some ⟨p, 0, none⟩) len 1) at') true) ∧ h1[p]? = some (.cells (onesC len) true) ∧ Keep (fun x => x = w) h h1 ∧ h.length ≤ p)
    (fun m E g => ∃ (k : Nat) (st : Value), k ≤ len ∧ m = len - k ∧ EnvLe [(21, .int .i64 (k : Nat)), (20, .int .i64 (Int.ofNat len)), (5, .pointer (some ⟨w, 0, none⟩)), (2, .pointer (some ⟨c, 0, none⟩))] E ∧ g[w]? = some (.cells (nwC s sl st at') true) ∧ Keep (fun x => x = w) h g ∧
      ((k = 0 ∧ st = .slice none 0 0) ∨ ∃ p, st = .slice (some ⟨p, 0, none⟩) k 1 ∧ g[p]? = some (.cells (onesC k) true) ∧ h.length ≤ p))
    (fun m E g ⟨k, st, k1, k2, k3, k4, k5, k6⟩ => by
      have hgl := k5.1
      by_cases e : k = len
      · right
        subst e
        obtain ⟨E2, q1, q2⟩ := pvC 0 k3 (v3p.nl_out k w c 0 0 0 0 k 0 [] [] g) ⟨ltF (by simp), trivial⟩
        rcases k6 with ⟨e, _⟩ | ⟨p, rfl, gp, hp⟩
        · omega
        · exact ⟨_, E2, _, by simp, q2, rfl, .trans (.add (.add (.nil _) rfl) rfl) q1, p, k4, gp, k5, hp⟩
      · left
        have c1 : (Asm.cmp .lss (k : Int) (Int.ofNat len) true).holds Try.prog := ltT (by simp; omega)
        rcases k6 with ⟨rfl, rfl⟩ | ⟨p, rfl, gp, hp⟩
        · obtain ⟨E2, q1, q2⟩ := pvC 0 k3 (v3p.nl_one len w c g.length 0 (g.length + 1) 0 (0 : Nat) ((0 + 1 : Nat) : Int) [] (nwC s sl (.slice (some ⟨g.length + 1, 0, none⟩) 1 1) at') g)
            ⟨c1, a_ld1 k4 rfl, rfl, ⟨rfl, ⟨_, cells_of (get_new _ _), by simp, rfl⟩, rfl, by omega, by omega, by simp [SH.den]⟩, a_st (get_push (get_push k4)) (by simp [nwC]) rfl, inc (by omega), trivial⟩
          refine ⟨len - 1, E2, _, by omega, q2, 1, .slice (some ⟨g.length + 1, 0, none⟩) 1 1, by omega, rfl, .trans (.add (.add (.add (.add (.nil _) rfl) rfl) rfl) rfl) q1, get_set_eq (get_push (get_push k4)), ?_, .inr ⟨g.length + 1, rfl, get_set_ne (get_new' (h := g ++ [AObj.cells [.int .i64 1] true]) _ (by simp)) (by omega), by omega⟩⟩
          exact ((k5.trans (Keep.push _ _ _)).trans (Keep.push _ _ _)).trans (Keep.set (fp := fun x => x = w) rfl _)
        · have hol : (onesC k).length = k := by simp [onesC, iC]
          have hpw : p ≠ w := by omega
          have hgp := get_lt gp
          have hcs : ((onesC k).drop 0).take (k * 1) ++ [.int .i64 1] = onesC (k + 1) := by rw [onesC_succ, List.drop_zero, List.take_of_length_le (by omega)]
          obtain ⟨E2, q1, q2⟩ := pvC 0 k3 (v3p.nl_more len w c g.length p (g.length + 1) k k ((k + 1 : Nat) : Int) (onesC (k + 1)) (nwC s sl (.slice (some ⟨g.length + 1, 0, none⟩) (k + 1) 1) at') g)
            ⟨c1, a_ld1 k4 rfl, rfl, ⟨rfl, ⟨_, cells_of (get_new _ _), by simp, rfl⟩, rfl, by omega, by omega, ⟨_, own_of (get_push gp), by omega, hcs⟩, by simp [SH.den]⟩, a_st (get_push (get_set_ne (get_push k4) hpw)) (by simp [nwC]) rfl, inc (by omega), trivial⟩
          refine ⟨len - (k + 1), E2, _, by omega, q2, k + 1, .slice (some ⟨g.length + 1, 0, none⟩) (k + 1) 1, by omega, rfl, .trans (.add (.add (.add (.add (.nil _) rfl) rfl) rfl) rfl) q1, get_set_eq (get_push (get_set_ne (get_push k4) hpw)), ?_, .inr ⟨g.length + 1, rfl, get_set_ne (get_new' (h := (g ++ [AObj.cells [.int .i64 1] true]).set p .dead) _ (by simp)) (by omega), by omega⟩⟩
          exact (((k5.trans (Keep.push _ _ _)).trans_new (Keep.set (fp := fun x => x = p) rfl _) (fun x hx e => by omega)).trans (Keep.push _ _ _)).trans (Keep.set (fp := fun x => x = w) rfl _))
    len _ h ⟨0, .slice none 0 0, by omega, rfl, EnvLe.refl _, hw, .refl _ _, .inl ⟨rfl, rfl⟩⟩
  obtain ⟨p, q2, q3, q4, q5⟩ := q2
  exact ⟨E1, h1, p, q1, hl1, q2, q3, q4, q5⟩

end Go.Proofs.Ytkkhokgpcifckaa.rf

-- printed by wip/tools/pvgen.py; each is checked by the kernel
namespace Go.Proofs.Ytkkhokgpcifckaa.w29p
open Go Go.Ev
set_option maxRecDepth 100000
set_option linter.unusedVariables false

theorem al_go (i i2 : Nat) (k1 k2 : Int) (z : Bool) (E1 : Env) (g g2 : Hp) : pvFn Try.prog (pvCall Try.prog 0) Try.f22 [.pointer (some ⟨i, 0, none⟩), .pointer (some ⟨i2, 0, none⟩)] (.is g) [.loop (.exit 0) [(1, .pointer (some ⟨i2, 0, none⟩)), (0, .pointer (some ⟨i, 0, none⟩))] (.is g2), .ret (.int .i64 k1) (.is g2), .ret (.int .i64 k2) (.is g2), .bit z] =
    some (.bool z, .is g2, [], [.loop 39 false (loopN Try.f22 0) [(5, .int .i64 1), (4, .bool false), (0, .pointer (some ⟨i, 0, none⟩)), (1, .pointer (some ⟨i2, 0, none⟩))] (.is g) (.exit 0) [(1, .pointer (some ⟨i2, 0, none⟩)), (0, .pointer (some ⟨i, 0, none⟩))] (.is g2), .call 13 [.pointer (some ⟨i, 0, none⟩)] (.is g2) (.int .i64 k1) (.is g2), .call 13 [.pointer (some ⟨i2, 0, none⟩)] (.is g2) (.int .i64 k2) (.is g2), .cmp .eql k1 k2 z]) := by kernel_rfl
theorem al_out (i i2 : Nat) (n n1 s a s2 a2 : Int) (g : Hp) : pvCode Try.prog (pvCall Try.prog 0) 39 false ((loopN Try.f22 0)) [(5, .int .i64 n), (1, .pointer (some ⟨i2, 0, none⟩)), (0, .pointer (some ⟨i, 0, none⟩))] (.is g) [.bit false] =
    some (.exit 0, [(11, .bool false), (10, .int .i64 n), (5, .int .i64 n), (1, .pointer (some ⟨i2, 0, none⟩)), (0, .pointer (some ⟨i, 0, none⟩))], .is g, [], [.cmp .leq n 8 false]) := by kernel_rfl
theorem cl36_none (o n b : Nat) (g : Hp) : pvFn Try.prog (pvCall Try.prog 0) Try.f36 [.slice (some ⟨o, 0, none⟩) n 1] (.is g) [.idx b, .app0] =
    some (.slice (some ⟨b, 0, none⟩) 0 1, .push (.is g) (.cells [] true), [], [.len (.is g) b, .app0 (.push (.is g) (.cells [] true)) o 0 n]) := by kernel_rfl
end Go.Proofs.Ytkkhokgpcifckaa.w29p

namespace Go.Proofs.Ytkkhokgpcifckaa.wd
open Go Go.Ev
set_option maxRecDepth 100000
set_option linter.constructorNameAsVariable false
set_option linter.unusedVariables false

/-- The calls, where the rounds of a law do not turn them. -/
def OpsIn (i j B : Nat) (h : Hp) (v : Value) (l : List OpV) : Prop := (v = .slice none 0 0 ∧ l = []) ∨ ∃ o rw, v = .slice (some ⟨o, 0, none⟩) l.length 5 ∧ h[o]? = some (.cells (opC l) rw) ∧ ¬ fpB i j B o
theorem OpsIn.at {i j B : Nat} {h g : Hp} {v : Value} {l : List OpV} (a : OpsIn i j B h v l) (K : Keep (fpB i j B) h g) : OpsAt g v l := by
  rcases a with h1 | ⟨o, rw, h1, h2, h3⟩
  · exact .inl h1
  · exact .inr ⟨o, rw, h1, K.2 _ _ h2 h3⟩

/-- The warden that has given up, while its services end. -/
structure UpI (m : List OpV) (w : WS) (now n : Int) : Prop where
  ok : WOk w
  times : w.times.length < 10000
  given : w.given = true
  st : ∀ x ∈ w.svs, x.state = 1 ∨ x.state = 2 ∨ x.state = 5
  low : w.now ≤ lastF m now
  top : now ≤ 1000000000000
  done : ∀ (k : Nat) x, (k : Int) < n - 1 → w.svs[k]? = some x → x.state = 5

theorem UpI.next {m : List OpV} {w : WS} {now n : Int} (I : UpI m w now n) (h : ∀ x, 1 ≤ n → w.svs[(n - 1).toNat]? = some x → x.state = 5) (h1 : 1 ≤ n) : UpI m w now (n + 1) :=
  ⟨I.ok, I.times, I.given, I.st, I.low, I.top, fun k x hk hx => by
    by_cases e : (k : Int) < n - 1
    · exact I.done k x e hx
    · have : k = (n - 1).toNat := by omega
      subst this
      exact h x h1 hx⟩

end Go.Proofs.Ytkkhokgpcifckaa.wd
