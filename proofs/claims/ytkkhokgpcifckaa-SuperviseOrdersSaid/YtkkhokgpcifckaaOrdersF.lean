import Derived.Test.YtkkhokgpcifckaaOrdersE
set_option linter.unusedVariables false
namespace Go.Proofs.Ytkkhokgpcifckaa.wd
open Go Go.Ev
set_option maxRecDepth 100000
set_option linter.constructorNameAsVariable false

/-! ### The arguments, taken apart -/

theorem chunks {α : Type} (f : α → List Value) {z : Nat} (hz : ∀ x, (f x).length = z) : ∀ (n : Nat) (c : List Value), c.length = n * z → (∀ k, k < n → ∃ x, (c.drop (k * z)).take z = f x) →
    ∃ l : List α, l.length = n ∧ c = l.flatMap f ∧ ∀ k x, l[k]? = some x → (c.drop (k * z)).take z = f x
  | 0, c, hl, _ => ⟨[], rfl, List.length_eq_zero_iff.1 (by simpa using hl), fun k x h => by simp at h⟩
  | n + 1, c, hl, hc => by
    have hs : (n + 1) * z = n * z + z := by rw [Nat.add_mul, Nat.one_mul]
    obtain ⟨x, hx⟩ := hc 0 (by omega)
    obtain ⟨l, h1, h2, h3⟩ := chunks f hz n (c.drop z) (by rw [List.length_drop, hl, hs]; omega) (fun k hk => by
      obtain ⟨y, hy⟩ := hc (k + 1) (by omega)
      refine ⟨y, ?_⟩
      rw [List.drop_drop, ← hy, Nat.add_mul, Nat.one_mul, Nat.add_comm])
    refine ⟨x :: l, by simp [h1], ?_, fun k y hy => ?_⟩
    · rw [List.flatMap_cons, ← h2, ← hx, Nat.zero_mul, List.drop_zero, List.take_append_drop]
    · cases k with
      | zero => simp at hy; subst hy; exact hx
      | succ k =>
        have := h3 k y (by simpa using hy)
        rw [List.drop_drop, Nat.add_comm z] at this
        rw [Nat.add_mul, Nat.one_mul]; exact this

theorem vvC_flat : ∀ l : List VV, l.flatMap VV.cells = vvC l
  | [] => rfl
  | x :: l => by rw [List.flatMap_cons, vvC_flat l]; rfl
theorem svhC_flat : ∀ l : List SvH, l.flatMap SvH.cells = svhC l
  | [] => rfl
  | x :: l => by rw [List.flatMap_cons, svhC_flat l]; rfl

def opC : List OpV → List Value
  | [] => []
  | x :: l => .int .i64 x.kind :: .int .i64 x.n :: .int .i64 x.at' :: .int .i64 x.fk :: .string x.ft :: opC l
theorem opC_flat : ∀ l : List OpV, l.flatMap OpV.cells = opC l
  | [] => rfl
  | x :: l => by rw [List.flatMap_cons, opC_flat l]; rfl
theorem opC_len : ∀ l : List OpV, (opC l).length = l.length * 5
  | [] => rfl
  | x :: l => by simp [opC, opC_len l]; omega
theorem opC_cut : ∀ {l : List OpV} {k : Nat} {x : OpV}, l[k]? = some x → ((opC l).drop (k * 5)).take 5 = x.cells
  | [], k, x, h => by simp at h
  | y :: l, 0, x, h => by simp at h; subst h; simp [opC, OpV.cells]
  | y :: l, k + 1, x, h => by
    have := opC_cut (l := l) (k := k) (x := x) (by simpa using h)
    rw [show (k + 1) * 5 = k * 5 + 5 by omega]
    simpa [opC] using this

/-- The calls where they lie. -/
def OpsAt (h : Hp) (v : Value) (l : List OpV) : Prop := (v = .slice none 0 0 ∧ l = []) ∨ ∃ o rw, v = .slice (some ⟨o, 0, none⟩) l.length 5 ∧ h[o]? = some (.cells (opC l) rw)

section
variable {h : Hp} {F : Nat}
theorem c3 : Try.prog.cellsOf 3 = 1 := by kernel_rfl
theorem c9 : Try.prog.cellsOf 9 = 1 := by kernel_rfl
theorem c34 : Try.prog.cellsOf 34 = 2 := by kernel_rfl
theorem c36 : Try.prog.cellsOf 36 = 5 := by kernel_rfl
theorem c54 : Try.prog.cellsOf 54 = 3 := by kernel_rfl
theorem c52 : Try.prog.cellsOf 52 = 1 := by kernel_rfl
theorem c22 : Try.prog.cellsOf 22 = 1 := by kernel_rfl
theorem c24 : Try.prog.cellsOf 24 = 6 := by kernel_rfl
theorem c71 : Try.prog.cellsOf 71 = 3 := by kernel_rfl
theorem u3 : Try.prog.underlying 3 = some (.int .i64) := by kernel_rfl
theorem u9 : Try.prog.underlying 9 = some .string := by kernel_rfl
theorem u25 : Try.prog.underlying 25 = some (.slice 36) := by kernel_rfl
theorem u22 : Try.prog.underlying 22 = some (.slice 54) := by kernel_rfl
theorem u52 : Try.prog.underlying 52 = some (.slice 71) := by kernel_rfl

theorem op_cells {cs : List Value} (hc : ATyped Try.prog h F 36 cs) : ∃ x : OpV, cs = x.cells := by
  obtain ⟨G, rfl, hl, hf⟩ := hc.asStruct Try.underlying36
  rw [c36] at hl
  match cs, hl with
  | [a, b, c, d, e], _ =>
    simp only [List.forall_mem_cons, c3, c34] at hf
    obtain ⟨k, h1, _⟩ := hf.1.asInt u3
    obtain ⟨n, h2, _⟩ := hf.2.1.asInt u3
    obtain ⟨t, h3, _⟩ := hf.2.2.1.asInt u3
    obtain ⟨G, rfl, hl, hg⟩ := hf.2.2.2.1.asStruct Try.underlying34
    simp only [List.forall_mem_cons, c3, c9] at hg
    obtain ⟨f, h4, _⟩ := hg.1.asInt u3
    obtain ⟨s, h5, _⟩ := hg.2.1.asString u9
    simp at h1 h2 h3 h4 h5
    subst h1; subst h2; subst h3; subst h4; subst h5
    exact ⟨⟨k, n, t, f, s⟩, rfl⟩
theorem ops_arg {a : Value} (ht : ArgTyped Try.prog h F 25 a) : ∃ l : List OpV, OpsAt h a l := by
  obtain ⟨G, rfl, rfl | ⟨i, len, c, rfl, hi, hl, _, hk⟩⟩ := ht.asSlice u25
  · exact ⟨[], .inl ⟨rfl, rfl⟩⟩
  · rw [c36] at hl hk
    obtain ⟨l, h1, h2, _⟩ := chunks OpV.cells (z := 5) (fun _ => rfl) len c hl (fun k hlt => op_cells (hk k hlt))
    rw [opC_flat] at h2
    exact ⟨l, .inr ⟨i, false, by rw [c36, h1], by rw [← h2]; exact hi⟩⟩

theorem vv_cells {cs : List Value} (hc : ATyped Try.prog h F 71 cs) : ∃ x : VV, cs = x.cells := by
  obtain ⟨G, rfl, hl, hf⟩ := hc.asStruct Try.underlying71
  rw [c71] at hl
  match cs, hl with
  | [a, b, c], _ =>
    simp only [List.forall_mem_cons, c3, c9] at hf
    obtain ⟨k, h1, _⟩ := hf.1.asInt u3
    obtain ⟨n, h2, _⟩ := hf.2.1.asInt u3
    obtain ⟨s, h3, _⟩ := hf.2.2.1.asString u9
    simp at h1 h2 h3
    subst h1; subst h2; subst h3
    exact ⟨⟨k, n, s⟩, rfl⟩
theorem args_cells {cs : List Value} (hc : ATyped Try.prog h F 52 cs) : ∃ v l, cs = [v] ∧ ArgsAt h v l := by
  obtain ⟨G, rfl, rfl | ⟨i, len, c, rfl, hi, hl, _, hk⟩⟩ := hc.asSlice u52
  · exact ⟨_, [], rfl, .inl ⟨rfl, rfl⟩⟩
  · rw [c71] at hl hk
    obtain ⟨l, h1, h2, _⟩ := chunks VV.cells (z := 3) (fun _ => rfl) len c hl (fun k hlt => vv_cells (hk k hlt))
    rw [vvC_flat] at h2
    exact ⟨_, l, rfl, .inr ⟨i, false, by rw [c71, h1], by rw [← h2]; exact hi⟩⟩
theorem sv_cells {cs : List Value} (hc : ATyped Try.prog h F 54 cs) : ∃ (x : SvH), cs = x.cells ∧ ∃ l, ArgsAt h x.av l := by
  obtain ⟨G, rfl, hl, hf⟩ := hc.asStruct Try.underlying54
  rw [c54] at hl
  match cs, hl with
  | [a, b, c], _ =>
    simp only [List.forall_mem_cons, c3, c52] at hf
    obtain ⟨k, h1, _⟩ := hf.1.asInt u3
    obtain ⟨v, l, h2, hA⟩ := args_cells hf.2.1
    obtain ⟨n, h3, _⟩ := hf.2.2.1.asInt u3
    simp at h1 h2 h3
    subst h1; subst h2; subst h3
    exact ⟨⟨k, b, n⟩, rfl, l, hA⟩
theorem svs_cells {cs : List Value} (hc : ATyped Try.prog h F 22 cs) : ∃ v l, cs = [v] ∧ SlAt h v l := by
  obtain ⟨G, rfl, rfl | ⟨i, len, c, rfl, hi, hl, _, hk⟩⟩ := hc.asSlice u22
  · exact ⟨_, [], rfl, .inl ⟨rfl, rfl⟩⟩
  · rw [c54] at hl hk
    obtain ⟨xs, h1, h2, h3⟩ := chunks SvH.cells (z := 3) (fun _ => rfl) len c hl (fun k hlt => (sv_cells (hk k hlt)).imp fun _ h => h.1)
    rw [svhC_flat] at h2
    have ex : ∀ x ∈ xs, ∃ l, ArgsAt h x.av l := fun x hx => by
      obtain ⟨k, hk'⟩ := List.mem_iff_getElem?.1 hx
      obtain ⟨y, hy, l, hl⟩ := sv_cells (hk k (by have := (List.getElem?_eq_some_iff.1 hk').1; omega))
      rw [h3 k x hk'] at hy
      obtain ⟨a, b, c⟩ := x
      obtain ⟨a', b', c'⟩ := y
      simp [SvH.cells] at hy
      obtain ⟨rfl, rfl, rfl⟩ := hy
      exact ⟨l, hl⟩
    obtain ⟨ys, hy⟩ : ∃ ys : List SvV, SvsAt h xs ys := by
      clear h1 h2 h3
      induction xs with
      | nil => exact ⟨[], rfl, fun k x y h => by simp at h⟩
      | cons x xs ih =>
        obtain ⟨l, hl⟩ := ex x (List.mem_cons_self ..)
        obtain ⟨ys, e1, e2⟩ := ih (fun y hy => ex y (List.mem_cons_of_mem _ hy))
        refine ⟨⟨x.fn, l, x.wh⟩ :: ys, by simp [e1], fun k a b ha hb => ?_⟩
        cases k with
        | zero => simp at ha hb; subst ha; subst hb; exact ⟨rfl, rfl, hl⟩
        | succ k => exact e2 k a b (by simpa using ha) (by simpa using hb)
    exact ⟨_, ys, rfl, .inr ⟨i, false, xs, by rw [c54, ← hy.1, h1], by rw [← h2]; exact hi, hy⟩⟩
theorem spec_arg {a : Value} (ht : ArgTyped Try.prog h F 24 a) : ∃ s : SpecV, ∃ v l, a = .agg (s.cells v).toArray ∧ SlAt h v l := by
  obtain ⟨cs, rfl, hc⟩ := ht.asStruct Try.underlying24
  obtain ⟨G, rfl, hl, hf⟩ := hc.asStruct Try.underlying24
  rw [c24] at hl
  obtain ⟨cs⟩ := cs
  match cs, hl with
  | [a, b, c, d, e, f], _ =>
    simp only [List.forall_mem_cons, c3, c22] at hf
    obtain ⟨k, h1, _⟩ := hf.1.asInt u3
    obtain ⟨n, h2, _⟩ := hf.2.1.asInt u3
    obtain ⟨t, h3, _⟩ := hf.2.2.1.asInt u3
    obtain ⟨p, h4, _⟩ := hf.2.2.2.1.asInt u3
    obtain ⟨q, h5, _⟩ := hf.2.2.2.2.1.asInt u3
    obtain ⟨v, l, h6, hA⟩ := svs_cells hf.2.2.2.2.2.1
    simp at h1 h2 h3 h4 h5 h6
    subst h1; subst h2; subst h3; subst h4; subst h5; subst h6
    exact ⟨⟨k, n, t, p, q⟩, f, l, rfl, hA⟩
end

end Go.Proofs.Ytkkhokgpcifckaa.wd

namespace Go.Proofs.Ytkkhokgpcifckaa.wd
open Go Go.Ev

/-! ### Plain facts of the Warden -/

theorem stS_get (p : Nat → Bool) : ∀ (n : Nat) (l : List Sv) (k : Nat), (stS p n l)[k]? = (l[k]?).map (stStep p (n + k))
  | n, [], k => by simp [stS]
  | n, x :: l, 0 => by simp [stS]
  | n, x :: l, k + 1 => by
    have := stS_get p (n + 1) l k
    rw [show n + (k + 1) = n + 1 + k by omega]
    simpa [stS] using this
theorem mS_get (f : Nat → Sv → Sv) : ∀ (n : Nat) (l : List Sv) (k : Nat), (mS f n l)[k]? = (l[k]?).map (f (n + k))
  | n, [], k => by simp [mS]
  | n, x :: l, 0 => by simp [mS]
  | n, x :: l, k + 1 => by
    have := mS_get f (n + 1) l k
    rw [show n + (k + 1) = n + 1 + k by omega]
    simpa [mS] using this
theorem setSt_get (l : List Sv) (n s : Int) (k : Nat) : (setSt l n s)[k]? = (l[k]?).map fun x => if k = (n - 1).toNat then { x with state := s } else x := by
  unfold setSt
  cases hx : l[(n - 1).toNat]? with
  | none =>
    simp only
    cases hk : l[k]? with
    | none => rfl
    | some y =>
      have : k ≠ (n - 1).toNat := fun e => by subst e; rw [hx] at hk; cases hk
      simp only [Option.map_some, if_neg this]
  | some x =>
    simp only
    by_cases e : k = (n - 1).toNat
    · subst e
      rw [List.getElem?_set_self (get_lt' hx), hx]; simp only [Option.map_some, if_true]
    · rw [List.getElem?_set_ne (Ne.symm e)]
      cases l[k]? with
      | none => rfl
      | some y => simp only [Option.map_some, if_neg e]
theorem putSv_get (l : List Sv) (n : Int) (f : Sv → Sv) (k : Nat) : (putSv l n f)[k]? = (l[k]?).map fun x => if k = (n - 1).toNat then f x else x := by
  unfold putSv
  cases hx : l[(n - 1).toNat]? with
  | none =>
    simp only
    cases hk : l[k]? with
    | none => rfl
    | some y =>
      have : k ≠ (n - 1).toNat := fun e => by subst e; rw [hx] at hk; cases hk
      simp only [Option.map_some, if_neg this]
  | some x =>
    simp only
    by_cases e : k = (n - 1).toNat
    · subst e
      rw [List.getElem?_set_self (get_lt' hx), hx]; simp only [Option.map_some, if_true]
    · rw [List.getElem?_set_ne (Ne.symm e)]
      cases l[k]? with
      | none => rfl
      | some y => simp only [Option.map_some, if_neg e]

/-- What each service becomes: pointwise relations between two rows of services. -/
def Each (R : Sv → Sv → Prop) (l m : List Sv) : Prop := m.length = l.length ∧ ∀ (k : Nat) x y, l[k]? = some x → m[k]? = some y → R x y
theorem Each.refl {R : Sv → Sv → Prop} (hr : ∀ x, R x x) (l : List Sv) : Each R l l := ⟨rfl, fun k x y hx hy => by rw [hx] at hy; cases hy; exact hr x⟩
theorem Each.trans {R : Sv → Sv → Prop} (ht : ∀ x y z, R x y → R y z → R x z) {a b c : List Sv} (h : Each R a b) (g : Each R b c) : Each R a c :=
  ⟨by rw [g.1, h.1], fun k x z hx hz => by
    have hk := get_lt' hx
    have hb : k < b.length := by rw [h.1]; exact hk
    exact ht x b[k] z (h.2 k x _ hx (List.getElem?_eq_getElem hb)) (g.2 k _ z (List.getElem?_eq_getElem hb) hz)⟩
theorem Each.mono {R S : Sv → Sv → Prop} (hi : ∀ x y, R x y → S x y) {a b : List Sv} (h : Each R a b) : Each S a b := ⟨h.1, fun k x y hx hy => hi x y (h.2 k x y hx hy)⟩
theorem Each.of_map {R : Sv → Sv → Prop} {a b : List Sv} (f : Nat → Sv → Sv) (hl : b.length = a.length) (hb : ∀ k : Nat, b[k]? = (a[k]?).map (f k)) (hr : ∀ k x, R x (f k x)) : Each R a b :=
  ⟨hl, fun k x y hx hy => by rw [hb k, hx] at hy; simp at hy; subst hy; exact hr k x⟩

theorem stS_each {R : Sv → Sv → Prop} (p : Nat → Bool) (l : List Sv) (hr : ∀ k x, R x (stStep p k x)) : Each R l (stS p 0 l) := .of_map _ (stS_len p 0 l) (fun k => stS_get p 0 l k) (fun k x => by simpa using hr (0 + k) x)
theorem mS_each {R : Sv → Sv → Prop} (f : Nat → Sv → Sv) (l : List Sv) (hr : ∀ k x, R x (f k x)) : Each R l (mS f 0 l) := .of_map _ (mS_len f 0 l) (fun k => mS_get f 0 l k) (fun k x => by simpa using hr (0 + k) x)
theorem setSt_each {R : Sv → Sv → Prop} (l : List Sv) (n s : Int) (hr : ∀ x, R x x) (hs : ∀ x, R x { x with state := s }) : Each R l (setSt l n s) := .of_map _ (setSt_len l n s) (fun k => setSt_get l n s k) (fun k x => by split; exact hs x; exact hr x)
theorem putSv_each {R : Sv → Sv → Prop} (l : List Sv) (n : Int) (f : Sv → Sv) (hr : ∀ x, R x x) (hs : ∀ x, R x (f x)) : Each R l (putSv l n f) := .of_map _ (putSv_len l n f) (fun k => putSv_get l n f k) (fun k x => by split; exact hs x; exact hr x)
theorem map_each {R : Sv → Sv → Prop} (f : Sv → Sv) (l : List Sv) (hr : ∀ x, R x (f x)) : Each R l (l.map f) := .of_map (fun _ => f) (by simp) (fun k => by simp) (fun _ x => hr x)

/-- A service keeps its kind, and a state from 1 to 5. -/
def WH (x y : Sv) : Prop := y.when = x.when ∧ (1 ≤ x.state ∧ x.state ≤ 5 → 1 ≤ y.state ∧ y.state ≤ 5)
theorem WH.refl (x : Sv) : WH x x := ⟨rfl, id⟩
theorem WH.trans (x y z : Sv) (h : WH x y) (g : WH y z) : WH x z := ⟨g.1.trans h.1, fun e => g.2 (h.2 e)⟩
theorem stStep_wh (p : Nat → Bool) (k : Nat) (x : Sv) : WH x (stStep p k x) := by
  unfold stStep
  split
  · exact ⟨rfl, fun _ => by simp⟩
  · exact WH.refl x
theorem bgStep_wh (a : Int) (x : Sv) : WH x (bgStep a x) := by
  unfold bgStep
  split
  · exact ⟨rfl, fun _ => by simp⟩
  · exact WH.refl x
theorem gvStep_wh (k : Nat) (x : Sv) : WH x (gvStep k x) := by
  unfold gvStep
  split
  · exact ⟨rfl, fun _ => by simp⟩
  · exact WH.refl x
theorem ofStep_wh (p : Nat → Bool) (k : Nat) (x : Sv) : WH x (ofStep p k x) := by
  unfold ofStep
  split
  · exact ⟨rfl, fun _ => by simp⟩
  · exact WH.refl x
theorem set_wh {s : Int} (hs : 1 ≤ s ∧ s ≤ 5) (x : Sv) : WH x { x with state := s } := ⟨rfl, fun _ => hs⟩

theorem begin_wh (w : WS) : Each WH w.svs (beginF w).1.svs := by
  unfold beginF
  split
  · exact .refl WH.refl _
  · exact map_each _ _ (bgStep_wh _)
theorem giveUp_wh (w : WS) (n : Int) : Each WH w.svs (giveUpF w n).1.svs := by
  unfold giveUpF stopped gave
  exact ((setSt_each _ n 5 WH.refl (set_wh (by omega))).trans WH.trans (mS_each _ _ gvStep_wh)).trans WH.trans (stS_each _ _ (stStep_wh _))
theorem off3_wh (w : WS) (n : Int) : Each WH w.svs (off3 w n).svs := by
  unfold off3 off2 stopped off1
  exact ((setSt_each _ n 3 WH.refl (set_wh (by omega))).trans WH.trans (stS_each _ _ (stStep_wh _))).trans WH.trans (mS_each _ _ (ofStep_wh _))
theorem again_wh (w : WS) (n : Int) : Each WH w.svs (againF w n).1.svs := by
  unfold againF
  split
  · exact giveUp_wh (timed w) n
  · exact (off3_wh w n).trans WH.trans (begin_wh _)
theorem follow_wh (w : WS) (n fk : Int) (x : Sv) : Each WH w.svs (followF w n fk x).1.svs := by
  unfold followF
  split
  · exact setSt_each _ n 5 WH.refl (set_wh (by omega))
  · split
    · exact (setSt_each w.svs n 3 WH.refl (set_wh (by omega))).trans WH.trans (begin_wh { w with svs := setSt w.svs n 3 })
    · split
      · exact setSt_each _ n 5 WH.refl (set_wh (by omega))
      · exact again_wh w n
theorem ended_wh (w : WS) (n fk : Int) (ft : ByteArray) (now : Int) : Each WH w.svs (endedF w n fk ft now).1.svs := by
  unfold endedF
  split
  · exact .refl WH.refl _
  · split
    · exact .refl WH.refl _
    · split
      · exact follow_wh { w with now := now } n fk _
      · exact .refl WH.refl _
theorem started_wh (w : WS) (n now : Int) : Each WH w.svs (startedF w n now).1.svs := by
  unfold startedF
  split
  · exact .refl WH.refl _
  · split
    · exact .refl WH.refl _
    · split
      · split
        · exact .refl WH.refl _
        · exact putSv_each _ n _ WH.refl fun x => ⟨rfl, fun _ => by simp⟩
      · exact .refl WH.refl _
theorem run_wh (w : WS) (o : OpV) : Each WH w.svs (runF w o).1.svs := by
  unfold runF
  split
  · exact ended_wh _ _ _ _ _
  · exact started_wh _ _ _

/-- What stays as it was given. -/
def SameSpec (w v : WS) : Prop := v.rule = w.rule ∧ v.most = w.most ∧ v.within = w.within ∧ v.base = w.base ∧ v.cap = w.cap
theorem SameSpec.refl (w : WS) : SameSpec w w := ⟨rfl, rfl, rfl, rfl, rfl⟩
theorem SameSpec.trans {a b c : WS} (h : SameSpec a b) (g : SameSpec b c) : SameSpec a c := ⟨g.1.trans h.1, g.2.1.trans h.2.1, g.2.2.1.trans h.2.2.1, g.2.2.2.1.trans h.2.2.2.1, g.2.2.2.2.trans h.2.2.2.2⟩
theorem begin_same (w : WS) : SameSpec w (beginF w).1 := by
  unfold beginF
  split
  · exact .refl _
  · exact .refl _
theorem again_same (w : WS) (n : Int) : SameSpec w (againF w n).1 := by
  unfold againF
  split
  · exact ⟨rfl, rfl, rfl, rfl, rfl⟩
  · exact SameSpec.trans (b := off3 w n) ⟨rfl, rfl, rfl, rfl, rfl⟩ (begin_same _)
theorem follow_same (w : WS) (n fk : Int) (x : Sv) : SameSpec w (followF w n fk x).1 := by
  unfold followF
  split
  · exact .refl _
  · split
    · exact SameSpec.trans (b := { w with svs := setSt w.svs n 3 }) (.refl _) (begin_same _)
    · split
      · exact .refl _
      · exact again_same w n
theorem run_same (w : WS) (o : OpV) : SameSpec w (runF w o).1 := by
  unfold runF
  split
  · unfold endedF
    split
    · exact .refl _
    · split
      · exact .refl _
      · split
        · exact SameSpec.trans (b := { w with now := o.at' }) (.refl _) (follow_same _ _ _ _)
        · exact .refl _
  · unfold startedF
    split
    · exact .refl _
    · split
      · exact .refl _
      · split
        · split
          · exact .refl _
          · exact .refl _
        · exact .refl _

/-- The warden after some calls. -/
def stepF (w : WS) (o : OpV) : WS := (runF w o).1
def foldW (w : WS) (l : List OpV) : WS := l.foldl stepF w
theorem foldW_snoc (w : WS) (l : List OpV) (o : OpV) : foldW w (l ++ [o]) = stepF (foldW w l) o := by simp [foldW, List.foldl_append]

/-- What is so at the beginning and after every call. -/
theorem foldW_inv {I : Nat → WS → Prop} {w : WS} (h0 : I 0 w) (hs : ∀ k w o, k < 10000 → WOk w → I k w → w.times.length ≤ k → I (k + 1) (stepF w o)) (hw : WOk w) (ht : w.times = []) :
    ∀ (n : Nat) (l : List OpV), l.length = n → n ≤ 10000 → WOk (foldW w l) ∧ (foldW w l).times.length ≤ n ∧ I n (foldW w l)
  | 0, l, hl, _ => by
    rw [List.length_eq_zero_iff.1 hl]
    exact ⟨hw, by simp [foldW, ht], h0⟩
  | n + 1, l, hl, hn => by
    obtain ⟨m, o, rfl⟩ : ∃ m o, l = m ++ [o] := by
      refine ⟨l.dropLast, l.getLast (fun e => by subst e; simp at hl), (List.dropLast_concat_getLast _).symm⟩
    simp at hl
    obtain ⟨h1, h2, h3⟩ := foldW_inv h0 hs hw ht n m hl (by omega)
    rw [foldW_snoc]
    obtain ⟨k1, k2, k3⟩ := run_ok h1 (by omega) o
    exact ⟨k1, by show (runF (foldW w m) o).1.times.length ≤ n + 1; omega, hs n _ o (by omega) h1 h3 h2⟩

/-- The first facts: the bounds, the services' kinds and states, what was given. -/
structure Good (w0 w : WS) (n : Nat) : Prop where
  ok : WOk w
  times : w.times.length ≤ n
  each : Each WH w0.svs w.svs
  same : SameSpec w0 w

theorem foldW_good {w : WS} (hw : WOk w) (ht : w.times = []) (l : List OpV) (hl : l.length ≤ 10000) : Good w (foldW w l) l.length := by
  obtain ⟨h1, h2, h3, h4⟩ := foldW_inv (I := fun _ v => Each WH w.svs v.svs ∧ SameSpec w v) (w := w) ⟨.refl WH.refl _, .refl _⟩ (fun k v o _ _ hi _ => ⟨hi.1.trans WH.trans (run_wh v o), hi.2.trans (run_same v o)⟩) hw ht l.length l rfl hl
  exact ⟨h1, h2, h3, h4⟩

theorem stateOf_of {w : WS} {n : Int} {x : Sv} (hn : 1 ≤ n ∧ n ≤ w.svs.length) (hx : w.svs[(n - 1).toNat]? = some x) : stateOf w n = (x.state, x.at') := by
  simp only [stateOf, if_neg (show ¬ (n < 1 ∨ n > (w.svs.length : Int)) by omega), hx]

end Go.Proofs.Ytkkhokgpcifckaa.wd

namespace Go.Proofs.Ytkkhokgpcifckaa.wd
open Go Go.Ev
set_option maxRecDepth 100000
set_option linter.constructorNameAsVariable false

/-! ### Parts one behind the other -/

def chain : List Code → Code
  | [] => .skip
  | a :: l => match l with
    | [] => a
    | _ :: _ => .seq a (chain l)
/-! ### What all laws begin with -/

/-- A specification's own object is neither its services' nor a list of values. -/
theorem SlAt.keepB {h h' : Hp} {b : Nat} {s : SpecV} {v0 v : Value} {l : List SvV} (hb : h[b]? = some (.cells (s.cells v0) true)) (K : Keep (fun q => q = b) h h') (a : SlAt h v l) : SlAt h' v l := by
  have hA : ∀ {v : Value} {l : List VV}, ArgsAt h v l → ArgsAt h' v l := fun {v l} a => by
    rcases a with h1 | ⟨o, rw', h1, h2⟩
    · exact .inl h1
    · refine .inr ⟨o, rw', h1, K.2 _ _ h2 fun e => ?_⟩
      subst e
      rw [hb] at h2
      simp only [Option.some.injEq, AObj.cells.injEq] at h2
      have h6 := congrArg List.length h2.1
      rw [vvC_len] at h6
      have h2l : l.length = 2 := by have : (s.cells v0).length = 6 := rfl
                                    omega
      match l, h2l with
      | [x, y], _ => simp [SpecV.cells, vvC] at h2
  rcases a with h1 | ⟨o, rw', xs, h1, h2, h3⟩
  · exact .inl h1
  · refine .inr ⟨o, rw', xs, h1, K.2 _ _ h2 fun e => ?_, h3.1, fun q x y hx hy => let ⟨z1, z2, z3⟩ := h3.2 q x y hx hy; ⟨z1, z2, hA z3⟩⟩
    subst e
    rw [hb] at h2
    simp only [Option.some.injEq, AObj.cells.injEq] at h2
    have h6 := congrArg List.length h2.1
    rw [svhC_len] at h6
    have h2l : xs.length = 2 := by have : (s.cells v0).length = 6 := rfl
                                   omega
    match xs, h2l with
    | [x, y], _ =>
      simp [SpecV.cells, svhC] at h2
      have hl := h3.1
      match l, hl with
      | [p, q], _ =>
        have := (h3.2 0 x p rfl rfl).2.2
        rcases this with ⟨e, _⟩ | ⟨_, _, e, _⟩ <;> rw [← h2.1.2.1] at e <;> cases e

/-- What the rounds of a law may turn: the warden, and what is new. -/
def fpB (i j B : Nat) (q : Nat) : Prop := q = i ∨ q = j ∨ B ≤ q
theorem keepB {i j B : Nat} {t : Option Nat} {g g' : Hp} (k : Keep (fpW i j t) g g') (ht : ∀ q, t = some q → B ≤ q) : Keep (fpB i j B) g g' := k.mono fun q _ e => by
  rcases e with e | e | e
  · exact .inl e
  · exact .inr (.inl e)
  · exact .inr (.inr (ht q e))
theorem keep0B {i j B : Nat} {g g' : Hp} (k : Keep (fun _ => False) g g') : Keep (fpB i j B) g g' := k.mono fun q _ e => e.elim

/-- The warden in the rounds of a law. -/
structure In (B i j : Nat) (w : WS) (h0 g : Hp) : Prop where
  at' : ∃ t, WAt g i j t w ∧ ∀ q, t = some q → B ≤ q
  keep : Keep (fpB i j B) h0 g
  base : B ≤ g.length

theorem In.next {B i j : Nat} {w w' : WS} {h0 g g' : Hp} {t t' : Option Nat} (I : In B i j w h0 g) (ht : ∀ q, t = some q → B ≤ q) (a' : WAt g' i j t' w') (K : Keep (fpW i j t) g g') (ht' : ∀ q, t' = some q → t = some q ∨ g.length ≤ q) : In B i j w' h0 g' :=
  ⟨⟨t', a', fun q e => by rcases ht' q e with e | e; exact ht q e; have := I.base; omega⟩, I.keep.trans (keepB K ht), Nat.le_trans I.base K.1⟩
theorem In.grow {B i j : Nat} {w : WS} {h0 g g' : Hp} (I : In B i j w h0 g) (K : Keep (fun _ => False) g g') : In B i j w h0 g' := by
  obtain ⟨t, a, ht⟩ := I.at'
  exact ⟨⟨t, a.keep K fun q _ e => e.elim, ht⟩, I.keep.trans (keep0B K), Nat.le_trans I.base K.1⟩
theorem In.tmp {B i j : Nat} {w : WS} {h0 g : Hp} (I : In B i j w h0 g) (x y : AObj) : In B i j w h0 ((g ++ [x]).set g.length y) :=
  I.grow ((Keep.push (fun _ => False) g _).trans_new (Keep.set (fp := fun q => q = g.length) rfl _) (fun q hq e => by omega))

/-! ### When -/

end Go.Proofs.Ytkkhokgpcifckaa.wd

namespace Go.Proofs.Ytkkhokgpcifckaa.wd
open Go Go.Ev
set_option maxRecDepth 100000
set_option linter.constructorNameAsVariable false
set_option linter.unusedVariables false

theorem eqT {a b : Int} (e : a = b) : (Asm.cmp .eql a b true).holds Try.prog := by simpa [Asm.holds, cmpB] using e
theorem eqF {a b : Int} (e : ¬ a = b) : (Asm.cmp .eql a b false).holds Try.prog := by simpa [Asm.holds, cmpB] using e
theorem neT {a b : Int} (e : ¬ a = b) : (Asm.cmp .neq a b true).holds Try.prog := by simpa [Asm.holds, cmpB] using e
theorem neF {a b : Int} (e : a = b) : (Asm.cmp .neq a b false).holds Try.prog := by simpa [Asm.holds, cmpB] using e

end Go.Proofs.Ytkkhokgpcifckaa.wd

namespace Go.Proofs.Ytkkhokgpcifckaa.wd
open Go Go.Ev
set_option maxRecDepth 100000
set_option linter.constructorNameAsVariable false
set_option linter.unusedVariables false

/-! ### Ends: plain facts -/

theorem mem_of_get {α : Type} {l : List α} {P : α → Prop} (h : ∀ (k : Nat) x, l[k]? = some x → P x) : ∀ x ∈ l, P x := fun x hx => by
  obtain ⟨k, hk⟩ := List.mem_iff_getElem?.1 hx
  exact h k x hk

/-- A time that is not before any that can have been. -/
def lastF : List OpV → Int → Int
  | [], now => now
  | o :: l, now => lastF l (if o.at' ≤ 1000000000000 then (if o.at' > now then o.at' else now) else now)
end Go.Proofs.Ytkkhokgpcifckaa.wd

namespace Go.Proofs.Ytkkhokgpcifckaa.wd
open Go Go.Ev
set_option maxRecDepth 100000
set_option linter.constructorNameAsVariable false
set_option linter.unusedVariables false

/-! ### Ends: the walk -/

/-- A reply has few orders. -/
theorem follow_len {w : WS} (n8 : w.svs.length ≤ 8) (n fk : Int) (x : Sv) : (followF w n fk x).2.length ≤ 100 := by
  unfold followF
  split
  · simp
  · split
    · have := beginF_len { w with svs := setSt w.svs n 3 }
      simp only [setSt_len] at this
      omega
    · split
      · simp
      · unfold againF
        split
        · simp only [giveUpF, List.length_cons]
          have := stO_len (fun _ => true) 0 (gave (timed w) n).svs
          simp only [gave, mS_len, setSt_len, timed] at this ⊢
          omega
        · have h1 := beginF_len (off3 w n)
          have h2 := stO_len (nameP w n) 0 (off1 w n).svs
          rw [off3_len] at h1
          rw [off1_len] at h2
          simp only [List.length_append]
          omega
theorem run_len {w : WS} (hw : WOk w) (ht : w.times.length < 10000) (o : OpV) : (runF w o).2.length ≤ 1000 := by
  unfold runF
  split
  · unfold endedF
    split
    · simp
    · split
      · simp
      · split
        · rename_i x _ _
          have := follow_len (w := { w with now := o.at' }) hw.n8 o.n o.fk x
          simp only [doneF]
          split
          · simp only [List.length_append, List.length_cons, List.length_nil]; omega
          · omega
        · simp
  · simp

end Go.Proofs.Ytkkhokgpcifckaa.wd

namespace Go.Proofs.Ytkkhokgpcifckaa.wd
open Go Go.Ev
set_option maxRecDepth 100000
set_option linter.constructorNameAsVariable false
set_option linter.unusedVariables false

/-- The calls, where the rounds of a law do not turn them. -/
def OpsIn (i j B : Nat) (h : Hp) (v : Value) (l : List OpV) : Prop := (v = .slice none 0 0 ∧ l = []) ∨ ∃ o rw, v = .slice (some ⟨o, 0, none⟩) l.length 5 ∧ h[o]? = some (.cells (opC l) rw) ∧ ¬ fpB i j B o
theorem OpsIn.at {i j B : Nat} {h g : Hp} {v : Value} {l : List OpV} (a : OpsIn i j B h v l) (K : Keep (fpB i j B) h g) : OpsAt g v l := by
  rcases a with h1 | ⟨o, rw, h1, h2, h3⟩
  · exact .inl h1
  · exact .inr ⟨o, rw, h1, K.2 _ _ h2 h3⟩

/-- The warden that has given up, while its services end. -/
structure UpI (m : List OpV) (w : WS) (now n : Int) : Prop where
  ok : WOk w
  times : w.times.length < 10000
  given : w.given = true
  st : ∀ x ∈ w.svs, x.state = 1 ∨ x.state = 2 ∨ x.state = 5
  low : w.now ≤ lastF m now
  top : now ≤ 1000000000000
  done : ∀ (k : Nat) x, (k : Int) < n - 1 → w.svs[k]? = some x → x.state = 5

theorem UpI.next {m : List OpV} {w : WS} {now n : Int} (I : UpI m w now n) (h : ∀ x, 1 ≤ n → w.svs[(n - 1).toNat]? = some x → x.state = 5) (h1 : 1 ≤ n) : UpI m w now (n + 1) :=
  ⟨I.ok, I.times, I.given, I.st, I.low, I.top, fun k x hk hx => by
    by_cases e : (k : Int) < n - 1
    · exact I.done k x e hx
    · have : k = (n - 1).toNat := by omega
      subst this
      exact h x h1 hx⟩

theorem each_st {w0 w : WS} (h : Each WH w0.svs w.svs) (h0 : ∀ x ∈ w0.svs, 1 ≤ x.state ∧ x.state ≤ 5) : ∀ x ∈ w.svs, 1 ≤ x.state ∧ x.state ≤ 5 := mem_of_get fun k y hy => by
  have hk := get_lt' hy
  rw [h.1] at hk
  have hx := List.getElem?_eq_getElem hk
  exact (h.2 k _ y hx hy).2 (h0 _ (List.mem_of_getElem? hx))

end Go.Proofs.Ytkkhokgpcifckaa.wd

namespace Go.Proofs.Ytkkhokgpcifckaa.wd
open Go Go.Ev
set_option maxRecDepth 100000
set_option linter.constructorNameAsVariable false
set_option linter.unusedVariables false

/-! ### Bounded: plain facts -/

/-! ### Bounded: the walk -/

section
variable {b i p o tt : Nat} {j mx : Int} {h : Hp}

end

end Go.Proofs.Ytkkhokgpcifckaa.wd

namespace Go.Proofs.Ytkkhokgpcifckaa.wd
open Go Go.Ev
set_option maxRecDepth 100000
set_option linter.constructorNameAsVariable false
set_option linter.unusedVariables false

/-! ### Orders: plain facts -/

theorem stO_spec (p : Nat → Bool) : ∀ (n : Nat) (l : List Sv), (∀ y ∈ stO p n l, y.when = 1 ∧ ∃ k x, l[k]? = some x ∧ x.state = 1 ∧ p (n + k) = true ∧ y.state = ((n + k + 1 : Nat) : Int)) ∧ (stO p n l).Pairwise fun a b => a.state > b.state
  | n, [] => ⟨fun y hy => (by cases hy), .nil⟩
  | n, x :: l => by
    obtain ⟨h1, h2⟩ := stO_spec p (n + 1) l
    have up : ∀ y ∈ stO p (n + 1) l, y.when = 1 ∧ ∃ k z, (x :: l)[k]? = some z ∧ z.state = 1 ∧ p (n + k) = true ∧ y.state = ((n + k + 1 : Nat) : Int) := fun y hy => by
      obtain ⟨e1, k, z, e2, e3, e4, e5⟩ := h1 y hy
      exact ⟨e1, k + 1, z, by simpa using e2, e3, by rw [show n + (k + 1) = n + 1 + k by omega]; exact e4, by rw [e5]; omega⟩
    simp only [stO]
    split
    · rename_i hc
      refine ⟨fun y hy => ?_, ?_⟩
      · rcases List.mem_append.1 hy with hy | hy
        · exact up y hy
        · simp at hy; subst hy
          exact ⟨rfl, 0, x, rfl, hc.1, hc.2, by simp⟩
      · rw [List.pairwise_append]
        refine ⟨h2, by simp, fun a ha b hb => ?_⟩
        simp at hb; subst hb
        obtain ⟨_, k, z, _, _, _, e5⟩ := h1 a ha
        rw [e5]; simp; omega
    · exact ⟨fun y hy => up y (by simpa using hy), by simpa using h2⟩

theorem bgO_spec (at' : Int) : ∀ (n : Nat) (l : List Sv), (∀ y ∈ bgO at' n l, y.when = 2 ∧ y.at' = at' ∧ ∃ k x, l[k]? = some x ∧ x.state = 3 ∧ y.state = ((n + k + 1 : Nat) : Int)) ∧ (bgO at' n l).Pairwise fun a b => a.state < b.state
  | n, [] => ⟨fun y hy => (by cases hy), .nil⟩
  | n, x :: l => by
    obtain ⟨h1, h2⟩ := bgO_spec at' (n + 1) l
    have up : ∀ y ∈ bgO at' (n + 1) l, y.when = 2 ∧ y.at' = at' ∧ ∃ k z, (x :: l)[k]? = some z ∧ z.state = 3 ∧ y.state = ((n + k + 1 : Nat) : Int) := fun y hy => by
      obtain ⟨e1, e0, k, z, e2, e3, e5⟩ := h1 y hy
      exact ⟨e1, e0, k + 1, z, by simpa using e2, e3, by rw [e5]; omega⟩
    simp only [bgO]
    split
    · rename_i hc
      refine ⟨fun y hy => ?_, ?_⟩
      · rcases List.mem_cons.1 hy with hy | hy
        · subst hy
          exact ⟨rfl, rfl, 0, x, rfl, hc, by simp⟩
        · exact up y hy
      · refine List.pairwise_cons.2 ⟨fun b hb => ?_, h2⟩
        obtain ⟨_, _, k, z, _, _, e5⟩ := h1 b hb
        rw [e5]; simp; omega
    · exact ⟨up, h2⟩

def noStop (w : WS) : Prop := ∀ x ∈ w.svs, x.state ≠ 2

/-- What a reply's core may be: nothing; starts; a giving up, with stops behind it; stops. -/
inductive Core (w' : WS) (up : Bool) (oat : Int) : List Sv → Prop
  | none (hg : w'.given = up) : Core w' up oat []
  | starts (L : List Sv) (hg : w'.given = false) (hu : up = false) (hs : noStop w') (at' : Int) (ha : oat ≤ at') (h : ∀ y ∈ L, y.when = 2 ∧ y.at' = at' ∧ stateOf w' y.state = (4, at')) (hp : L.Pairwise fun a b => a.state < b.state) : Core w' up oat L
  | gives (L : List Sv) (hg : w'.given = true) (hu : up = false) (h : ∀ y ∈ L, y.when = 1 ∧ (stateOf w' y.state).1 = 2) (hp : L.Pairwise fun a b => a.state > b.state) (at' n : Int) : Core w' up oat (⟨3, n, at'⟩ :: L)
  | stops (L : List Sv) (hg : w'.given = up) (h : ∀ y ∈ L, y.when = 1 ∧ (stateOf w' y.state).1 = 2) (hp : L.Pairwise fun a b => a.state > b.state) : Core w' up oat L

theorem begin_core {w : WS} {up : Bool} {oat : Int} (hg : w.given = false) (hu : up = false) (hn : w.now = oat) (hd : 0 ≤ w.delay) (hw : w.now ≤ 1000000000000) : Core (beginF w).1 up oat (beginF w).2 := by
  unfold beginF
  split
  · exact .none (by rw [hg, hu])
  · rename_i hs
    have hns : ∀ x ∈ w.svs, x.state ≠ 2 := fun x hx e => hs (List.any_eq_true.2 ⟨x, hx, by simp [e]⟩)
    obtain ⟨h1, h2⟩ := bgO_spec (atOf w) 0 w.svs
    refine .starts _ hg hu ?_ (atOf w) ?_ (fun y hy => ?_) h2
    · intro x hx
      simp only [List.mem_map] at hx
      obtain ⟨z, hz, rfl⟩ := hx
      unfold bgStep
      split
      · simp
      · exact hns z hz
    · unfold atOf
      split <;> omega
    · obtain ⟨e1, e2, k, z, e3, e4, e5⟩ := h1 y hy
      refine ⟨e1, e2, ?_⟩
      have hk := get_lt' e3
      rw [stateOf_of (x := bgStep (atOf w) z) (by rw [e5]; simp; omega) (by rw [e5, show (((0 + k + 1 : Nat) : Int) - 1).toNat = k by omega]; simp only [List.getElem?_map, e3, Option.map_some])]
      simp [bgStep, e4]

theorem stops_in {w : WS} (p : Nat → Bool) {l : List Sv} {y : Sv} (hy : y ∈ stO p 0 l) (hw : ∀ (k : Nat) x, l[k]? = some x → x.state = 1 → p k = true → ∃ z, w.svs[k]? = some z ∧ z.state = 2) : y.when = 1 ∧ (stateOf w y.state).1 = 2 := by
  obtain ⟨e1, k, x, e2, e3, e4, e5⟩ := (stO_spec p 0 l).1 y hy
  obtain ⟨z, z1, z2⟩ := hw k x e2 e3 (by simpa using e4)
  have hk := get_lt' z1
  refine ⟨e1, ?_⟩
  rw [stateOf_of (x := z) (by rw [e5]; simp; omega) (by rw [e5, show (((0 + k + 1 : Nat) : Int) - 1).toNat = k by omega]; exact z1)]
  exact z2

theorem follow_core {w : WS} {n fk : Int} {x : Sv} {oat : Int} (hw : WOk w) (hn : w.now = oat) : Core (followF w n fk x).1 w.given oat (followF w n fk x).2 := by
  have hd := hw.delay
  have hnow := hw.now
  unfold followF
  split
  · exact .none rfl
  · rename_i hg
    have hg' : w.given = false := by simpa using hg
    split
    · exact begin_core (w := { w with svs := setSt w.svs n 3 }) hg' hg' hn hd.1 hnow.2
    · split
      · exact .none rfl
      · unfold againF
        split
        · refine .gives _ rfl hg' (fun y hy => stops_in _ hy fun k x hx hx1 _ => ⟨{ x with state := 2 }, ?_, rfl⟩) (stO_spec _ 0 _).2 0 0
          simp only [giveUpF, stopped, stS_get, hx, Option.map_some, Nat.zero_add, stStep, hx1]
          simp
        · have hw1 := waits_ok hw
          cases hst : stO (nameP w n) 0 (off1 w n).svs with
          | nil =>
            rw [List.nil_append]
            refine begin_core (w := off3 w n) hg' hg' hn ?_ hnow.2
            exact hw1.1
          | cons s L =>
            -- somebody stops: nobody begins
            have hin : ∀ y ∈ stO (nameP w n) 0 (off1 w n).svs, y.when = 1 ∧ (stateOf (beginF (off3 w n)).1 y.state).1 = 2 ∧ (beginF (off3 w n)).2 = [] ∧ (beginF (off3 w n)).1.given = false := fun y hy => by
              have key : ∀ (k : Nat) x, (off1 w n).svs[k]? = some x → x.state = 1 → nameP w n k = true → ∃ z, (off3 w n).svs[k]? = some z ∧ z.state = 2 := fun k x hx hx1 hp => by
                refine ⟨{ x with state := 2 }, ?_, rfl⟩
                simp only [off3, off2, stopped, mS_get, stS_get, hx, Option.map_some, Nat.zero_add, stStep, hx1, hp, and_self, if_true]
                simp [ofStep]
              obtain ⟨e1, e2⟩ := stops_in (w := off3 w n) _ hy key
              have hany : ((off3 w n).svs.any fun x => [2].contains x.state) = true := by
                obtain ⟨_, k, x, e3, e4, e5, _⟩ := (stO_spec _ 0 _).1 y hy
                obtain ⟨z, z1, z2⟩ := key k x e3 e4 (by simpa using e5)
                exact List.any_eq_true.2 ⟨z, List.mem_of_getElem? z1, by simp [z2]⟩
              have hb : beginF (off3 w n) = (off3 w n, []) := by unfold beginF; rw [if_pos hany]
              rw [hb]
              exact ⟨e1, e2, rfl, hg'⟩
            obtain ⟨_, _, hnil, hgv⟩ := hin s (by rw [hst]; exact List.mem_cons_self ..)
            rw [hnil, List.append_nil, ← hst]
            exact .stops _ (by rw [hgv, hg']) (fun y hy => ⟨(hin y hy).1, (hin y hy).2.1⟩) (stO_spec _ 0 _).2

/-- A reply as a whole. -/
theorem run_shape {w : WS} {o : OpV} (hw : WOk w) (hst : ∀ x ∈ w.svs, 1 ≤ x.state ∧ x.state ≤ 5) : ∃ core, Core (stepF w o) w.given o.at' core ∧
    ((runF w o).2 = core ∧ (overOf (stepF w o) = true → overOf w = true) ∨ (runF w o).2 = core ++ [⟨4, 0, 0⟩] ∧ overOf (stepF w o) = true ∧ overOf w = false) := by
  unfold stepF runF
  split
  · unfold endedF
    split
    · exact ⟨[], .none rfl, .inl ⟨rfl, id⟩⟩
    · rename_i hl
      split
      · exact ⟨[], .none rfl, .inl ⟨rfl, id⟩⟩
      · rename_i x hx
        split
        · rename_i hs
          have hnow : 0 ≤ o.at' ∧ o.at' ≤ 1000000000000 := by
            simp [lateB] at hl; have := hw.now; omega
          have hwn : WOk { w with now := o.at' } := ⟨hw.n1, hw.n8, hw.most, hw.within, hw.base, hw.cap, hnow, hw.delay, hw.times, hw.rule⟩
          have C := follow_core (w := { w with now := o.at' }) (n := o.n) (fk := o.fk) (x := x) hwn rfl
          have ho : overOf w = false := by
            unfold svAt at hx
            split at hx
            · unfold overOf
              rw [Bool.not_eq_false']
              exact List.any_eq_true.2 ⟨x, List.mem_of_getElem? hx, by rcases hs with e | e <;> simp [e]⟩
            · cases hx
          refine ⟨_, C, ?_⟩
          show ((doneF (followF { w with now := o.at' } o.n o.fk x)).2 = _ ∧ _) ∨ _
          simp only [doneF]
          by_cases hov : overOf (followF { w with now := o.at' } o.n o.fk x).1 = true
          · rw [if_pos hov]
            exact .inr ⟨rfl, hov, ho⟩
          · rw [if_neg hov]
            exact .inl ⟨rfl, fun h => absurd h hov⟩
        · exact ⟨[], .none rfl, .inl ⟨rfl, id⟩⟩
  · unfold startedF
    split
    · exact ⟨[], .none rfl, .inl ⟨rfl, id⟩⟩
    · split
      · exact ⟨[], .none rfl, .inl ⟨rfl, id⟩⟩
      · rename_i x hx
        split
        · split
          · exact ⟨[], .none rfl, .inl ⟨rfl, id⟩⟩
          · refine ⟨[], .none rfl, .inl ⟨rfl, fun h => ?_⟩⟩
            exfalso
            unfold svAt at hx
            split at hx
            · have hg : (putSv w.svs o.n fun x => ⟨x.when, 1, 0⟩)[(o.n - 1).toNat]? = some ⟨x.when, 1, 0⟩ := by simp only [putSv_get, hx, Option.map_some, if_true]
              unfold overOf at h
              rw [Bool.not_eq_true', List.any_eq_false] at h
              have := h _ (List.mem_of_getElem? hg)
              simp at this
            · cases hx
        · exact ⟨[], .none rfl, .inl ⟨rfl, id⟩⟩

/-- An order that stands where it may. -/
def OkO (w' : WS) (up over : Bool) (oat : Int) (len i : Nat) (lk ln la : Int) (x : Sv) : Prop :=
  (x.when = 3 ∧ i = 0 ∧ up = false ∧ w'.given = true) ∨
  (x.when = 1 ∧ (stateOf w' x.state).1 = 2 ∧ lk ≠ 2 ∧ (lk = 1 → ln > x.state)) ∨
  (x.when = 2 ∧ stateOf w' x.state = (4, x.at') ∧ w'.given = false ∧ noStop w' ∧ (lk = 2 → ln < x.state ∧ la = x.at') ∧ oat ≤ x.at') ∨
  (x.when = 4 ∧ i = len - 1 ∧ over = false ∧ overOf w' = true)

def lastK (L : List Sv) (i : Nat) : Sv := match i with
  | 0 => ⟨0, 0, 0⟩
  | i + 1 => match L[i]? with
    | some y => y
    | none => ⟨0, 0, 0⟩

theorem pair_get {α : Type} {R : α → α → Prop} : ∀ {l : List α}, l.Pairwise R → ∀ {i : Nat} {a b : α}, l[i]? = some a → l[i + 1]? = some b → R a b
  | [], _, i, a, b, h, _ => by simp at h
  | x :: l, hp, 0, a, b, h, h' => by
    simp at h h'; subst h
    exact (List.pairwise_cons.1 hp).1 b (List.mem_of_getElem? h')
  | x :: l, hp, i + 1, a, b, h, h' => pair_get (List.pairwise_cons.1 hp).2 (by simpa using h) (by simpa using h')

theorem lastK_app {core : List Sv} {D : List Sv} {i : Nat} (hi : i ≤ core.length) : lastK (core ++ D) i = lastK core i := by
  cases i with
  | zero => rfl
  | succ i => simp only [lastK]; rw [List.getElem?_append_left (by omega)]

theorem core_ok {w' : WS} {up over : Bool} {oat : Int} {core : List Sv} (C : Core w' up oat core) (len : Nat) : ∀ (i : Nat) x, core[i]? = some x → OkO w' up over oat len i (lastK core i).when (lastK core i).state (lastK core i).at' x := by
  intro i x hx
  have hl : ∀ (k : Nat), i = k + 1 → ∃ y, core[k]? = some y ∧ lastK core i = y := fun k e => by
    subst e
    have hk := get_lt' hx
    exact ⟨core[k], List.getElem?_eq_getElem (by omega), by simp only [lastK, List.getElem?_eq_getElem (show k < core.length by omega)]⟩
  cases C with
  | none => simp at hx
  | starts _ hg hu hs at' ha h hp =>
    obtain ⟨h1, h2, h3⟩ := h x (List.mem_of_getElem? hx)
    refine .inr (.inr (.inl ⟨h1, by rw [h2]; exact h3, hg, hs, fun hlk => ?_, by rw [h2]; exact ha⟩))
    cases i with
    | zero => simp [lastK] at hlk
    | succ k =>
      obtain ⟨y, y1, y2⟩ := hl k rfl
      rw [y2]
      exact ⟨pair_get hp y1 hx, by rw [(h y (List.mem_of_getElem? y1)).2.1, h2]⟩
  | gives L hg hu h hp at' n =>
    cases i with
    | zero => simp at hx; subst hx; exact .inl ⟨rfl, rfl, hu, hg⟩
    | succ k =>
      have hx' : L[k]? = some x := by simpa using hx
      obtain ⟨h1, h2⟩ := h x (List.mem_of_getElem? hx')
      obtain ⟨y, y1, y2⟩ := hl k rfl
      rw [y2]
      cases k with
      | zero =>
        simp at y1; subst y1
        exact .inr (.inl ⟨h1, h2, by simp, by simp⟩)
      | succ k =>
        have y1' : L[k]? = some y := by simpa using y1
        obtain ⟨g1, _⟩ := h y (List.mem_of_getElem? y1')
        exact .inr (.inl ⟨h1, h2, by omega, fun _ => pair_get hp y1' hx'⟩)
  | stops _ hg h hp =>
    obtain ⟨h1, h2⟩ := h x (List.mem_of_getElem? hx)
    cases i with
    | zero => exact .inr (.inl ⟨h1, h2, by simp [lastK], by simp [lastK]⟩)
    | succ k =>
      obtain ⟨y, y1, y2⟩ := hl k rfl
      rw [y2]
      obtain ⟨g1, _⟩ := h y (List.mem_of_getElem? y1)
      exact .inr (.inl ⟨h1, h2, by omega, fun _ => pair_get hp y1 hx⟩)

theorem core_kind {w' : WS} {up : Bool} {oat : Int} {core : List Sv} (C : Core w' up oat core) : (w'.given = true → up = false → ∃ x L, core = x :: L ∧ x.when = 3) := by
  intro hg hu
  cases C with
  | none h => rw [hg, hu] at h; cases h
  | starts _ h1 => rw [hg] at h1; cases h1
  | gives L _ _ _ _ at' n => exact ⟨_, L, rfl, rfl⟩
  | stops _ h => rw [hg, hu] at h; cases h

/-- All that the law asks of a reply. -/
theorem reply_ok {w : WS} {o : OpV} (hw : WOk w) (hst : ∀ x ∈ w.svs, 1 ≤ x.state ∧ x.state ≤ 5) :
    (∀ (i : Nat) x, (runF w o).2[i]? = some x → OkO (stepF w o) w.given (overOf w) o.at' (runF w o).2.length i (lastK (runF w o).2 i).when (lastK (runF w o).2 i).state (lastK (runF w o).2 i).at' x) ∧
    (overOf (stepF w o) = true → overOf w = false → (lastK (runF w o).2 (runF w o).2.length).when = 4) ∧
    ((stepF w o).given = true → w.given = false → ∃ x, (runF w o).2[0]? = some x ∧ x.when = 3) := by
  obtain ⟨core, C, ⟨h1, h2⟩ | ⟨h1, h2, h3⟩⟩ := run_shape (o := o) hw hst
  · rw [h1]
    refine ⟨core_ok C _, fun h4 h5 => ?_, fun h4 h5 => ?_⟩
    · rw [h2 h4] at h5; cases h5
    · obtain ⟨x, L, e1, e2⟩ := core_kind C h4 h5
      exact ⟨x, by rw [e1]; rfl, e2⟩
  · rw [h1]
    refine ⟨fun i x hx => ?_, fun _ _ => ?_, fun h4 h5 => ?_⟩
    · rcases Nat.lt_or_ge i core.length with hi | hi
      · rw [List.getElem?_append_left hi] at hx
        rw [lastK_app (by omega)]
        exact core_ok C _ i x hx
      · rw [List.getElem?_append_right hi] at hx
        have : i = core.length := by have := get_lt' hx; simp at this; omega
        subst this
        simp at hx; subst hx
        exact .inr (.inr (.inr ⟨rfl, by simp, h3, h2⟩))
    · rw [List.length_append]
      simp [lastK]
    · obtain ⟨x, L, e1, e2⟩ := core_kind C h4 h5
      exact ⟨x, by rw [e1]; rfl, e2⟩

end Go.Proofs.Ytkkhokgpcifckaa.wd

namespace Go.Proofs.Ytkkhokgpcifckaa.wd
open Go Go.Ev
set_option maxRecDepth 100000
set_option linter.constructorNameAsVariable false
set_option linter.unusedVariables false

/-! ### Orders: the walk -/

theorem stops_run {h : Hp} {i j : Nat} {t : Option Nat} {w : WS} (a : WAt h i j t w) (hw : WOk w) (hn : noStop w) : Run Try.prog 19 [.pointer (some ⟨i, 0, none⟩)] h (.bool false) h := by
  obtain ⟨x', E1, h1, hl1, rfl, rfl⟩ := loop_inv (P := Try.prog) (n := 18) (rd := false) (b := loopN Try.f19 0)
    (Q := fun x' E1 h1 => x' = .exit 0 ∧ h = h1)
    (fun mm E g => ∃ n : Int, 1 ≤ n ∧ n ≤ 9 ∧ mm = (9 - n).toNat ∧ EnvLe [(3, .int .i64 n), (0, .pointer (some ⟨i, 0, none⟩))] E ∧ h = g)
    (fun mm E g ⟨n, n1, n9, hmm, k3, k4⟩ => by
      subst k4
      by_cases e : n = 9
      · right
        subst e
        obtain ⟨E2, q1, q2⟩ := pvC 0 k3 (w32p.sl_out i 9 0 0 0 h) ⟨by simp [Asm.holds, cmpB], trivial⟩
        exact ⟨_, E2, _, by simp, q2, rfl, rfl⟩
      · left
        have ak1 : IntKind.i64.wrap (n + 1) = n + 1 := wrap_id (by omega) (by omega)
        have hs : (stateOf w n).1 ≠ 2 := by
          unfold stateOf
          split
          · simp
          · split
            · rename_i x hx; exact hn x (List.mem_of_getElem? hx)
            · simp
        obtain ⟨E2, q1, q2⟩ := pvC 0 k3 (w32p.sl_go i n (n + 1) (stateOf w n).1 (stateOf w n).2 h) ⟨by simp [Asm.holds, cmpB]; omega, state_run a hw n, eqF hs, by simp only [Asm.holds, arithI, ak1], trivial⟩
        exact ⟨(9 - (n + 1)).toNat, E2, _, by omega, q2, n + 1, by omega, by omega, rfl, .trans (.add (.add (.nil _) rfl) rfl) q1, rfl⟩)
    8 [(3, .int .i64 1), (0, .pointer (some ⟨i, 0, none⟩))] h ⟨1, by omega, by omega, by decide, EnvLe.refl _, rfl⟩
  have pl : plainC (loopN Try.f19 0) = true := by kernel_rfl
  exact pvF 0 Try.func19 (w32p.st_no i [] h) ⟨a_loop pl (.add (.add (.nil _) rfl) rfl) (.nil _) hl1, trivial⟩

theorem orders_inner {h : Hp} {i j p o x l wo : Nat} {t : Option Nat} {j0 : Int} {w' : WS} {op : OpV} {up over : Bool} {L : List Sv} (a : WAt h i j t w') (hw : WOk w') (hwo : h[wo]? = some (.cells (svC L) true)) (hl : h[l]? = some (.cells (⟨0, 0, 0⟩ : Sv).cells true)) (hx : h[x]? = some (.cells op.cells true))
    (n1 : l ≠ i) (n2 : l ≠ j) (n3 : t ≠ some l) (n4 : wo ≠ l) (n5 : x ≠ l) (hL : L.length ≤ 1000000) (hok : ∀ (k : Nat) y, L[k]? = some y → OkO w' up over op.at' L.length k (lastK L k).when (lastK L k).state (lastK L k).at' y) :
    ∃ E1 h1, EnvLe [(14, .pointer (some ⟨l, 0, none⟩)), (13, .bool w'.given), (12, .bool (overOf w')), (11, .slice (some ⟨wo, 0, none⟩) L.length 3), (10, .bool up), (9, .bool over), (8, .pointer (some ⟨x, 0, none⟩)), (40, .int .i64 j0), (39, .int .i64 (Int.ofNat p)), (38, .slice (some ⟨o, 0, none⟩) p 5), (5, .pointer (some ⟨i, 0, none⟩))] E1 ∧ LRun Try.prog 203 false (loopN Try.f4 1) [(60, .int .i64 0), (59, .int .i64 (Int.ofNat L.length)), (58, .slice (some ⟨wo, 0, none⟩) L.length 3), (14, .pointer (some ⟨l, 0, none⟩)), (13, .bool w'.given), (12, .bool (overOf w')), (11, .slice (some ⟨wo, 0, none⟩) L.length 3), (10, .bool up), (9, .bool over), (8, .pointer (some ⟨x, 0, none⟩)), (40, .int .i64 j0), (39, .int .i64 (Int.ofNat p)), (38, .slice (some ⟨o, 0, none⟩) p 5), (5, .pointer (some ⟨i, 0, none⟩))] h (.exit 2) E1 h1 ∧ Keep (fun q => q = l) h h1 ∧ h1[l]? = some (.cells (lastK L L.length).cells true) := by
  have hlc := svC_len L
  obtain ⟨x', E1, h1, hl1, rfl, q1, q2, q3⟩ := loop_inv (P := Try.prog) (n := 203) (rd := false) (b := loopN Try.f4 1)
    (Q := fun x' E1 h1 => x' = .exit 2 ∧ EnvLe [(14, .pointer (some ⟨l, 0, none⟩)), (13, .bool w'.given), (12, .bool (overOf w')), (11, .slice (some ⟨wo, 0, none⟩) L.length 3), (10, .bool up), (9, .bool over), (8, .pointer (some ⟨x, 0, none⟩)), (40, .int .i64 j0), (39, .int .i64 (Int.ofNat p)), (38, .slice (some ⟨o, 0, none⟩) p 5), (5, .pointer (some ⟨i, 0, none⟩))] E1 ∧ Keep (fun q => q = l) h h1 ∧ h1[l]? = some (.cells (lastK L L.length).cells true))
    (fun mm E g => ∃ k : Nat, k ≤ L.length ∧ mm = L.length - k ∧ EnvLe [(60, .int .i64 (k : Nat)), (59, .int .i64 (Int.ofNat L.length)), (58, .slice (some ⟨wo, 0, none⟩) L.length 3), (14, .pointer (some ⟨l, 0, none⟩)), (13, .bool w'.given), (12, .bool (overOf w')), (11, .slice (some ⟨wo, 0, none⟩) L.length 3), (10, .bool up), (9, .bool over), (8, .pointer (some ⟨x, 0, none⟩)), (40, .int .i64 j0), (39, .int .i64 (Int.ofNat p)), (38, .slice (some ⟨o, 0, none⟩) p 5), (5, .pointer (some ⟨i, 0, none⟩))] E ∧ Keep (fun q => q = l) h g ∧ g[l]? = some (.cells (lastK L k).cells true))
    (fun mm E g ⟨k, k1, k2, k3, k4, k5⟩ => by
      by_cases e : k = L.length
      · right
        subst e
        obtain ⟨E2, q1, q2⟩ := pvC 0 k3 (w32p.oi_out i p o x l wo L.length 0 0 j0 (L.length : Nat) 0 0 0 0 0 0 0 0 0 0 0 over up (overOf w') w'.given [] g g) ⟨by simp [Asm.holds, cmpB], trivial⟩
        exact ⟨_, E2, _, by simp, q2, rfl, .trans (.add (.add (.add (.add (.add (.add (.add (.add (.add (.add (.add (.nil _) rfl) rfl) rfl) rfl) rfl) rfl) rfl) rfl) rfl) rfl) rfl) q1, k4, k5⟩
      · left
        obtain ⟨y, hy⟩ : ∃ y, L[k]? = some y := ⟨_, List.getElem?_eq_getElem (by omega)⟩
        obtain ⟨la, ela⟩ : ∃ la, la = lastK L k := ⟨_, rfl⟩
        have ok := hok k y hy
        rw [← ela] at k5 ok
        have hwg := k4.2 _ _ hwo n4
        have hxg := k4.2 _ _ hx n5
        have ag := a.keep k4 (fun q _ e r => by
          rcases r with r | r | r
          · exact n1 (e ▸ r)
          · exact n2 (e ▸ r)
          · exact n3 (e ▸ r))
        have ak1 : IntKind.i64.wrap ((k : Int) + 1) = ((k + 1 : Nat) : Int) := add1 (by omega)
        have hgl := get_lt k5
        obtain ⟨gA, eA⟩ : ∃ gA, gA = (g ++ [AObj.cells [.int .i64 0, .int .i64 0, .int .i64 0] true]).set g.length (.cells y.cells true) := ⟨_, rfl⟩
        have KA : Keep (fun _ => False) g gA := by rw [eA]; exact (Keep.push (fun _ => False) g _).trans_new (Keep.set (fp := fun q => q = g.length) rfl _) (fun q hq e => by omega)
        have gx : gA[g.length]? = some (.cells y.cells true) := by rw [eA]; exact get_set_eq (get_new g _)
        have gl := KA.2 _ _ k5 id
        have aA := ag.keep KA (fun q _ e => e.elim)
        have xA := KA.2 _ _ hxg id
        have p1 : (Asm.cmp .lss (k : Int) (Int.ofNat L.length) true).holds Try.prog := by simp [Asm.holds, cmpB]; omega
        have p2 : (Asm.off (k * 3) 0 (k : Int) L.length 3).holds Try.prog := ⟨by omega, by omega, by simp⟩
        have p3 : (Asm.ldn (.is g) wo (k * 3) 3 y.cells).holds Try.prog := a_ldn hwg (by omega) (svC_cut hy)
        have p4 : (Asm.st (.push (.is g) (.cells [.int .i64 0, .int .i64 0, .int .i64 0] true)) g.length 0 y.cells y.cells).holds Try.prog := a_st (get_new g _) (by simp [Sv.cells]) (by simp [Sv.cells])
        have ld : ∀ {q : Nat} {z : Value}, y.cells[q]? = some z → (Asm.ld1 (.set (.push (.is g) (.cells [.int .i64 0, .int .i64 0, .int .i64 0] true)) g.length (.cells y.cells true)) g.length q z).holds Try.prog := fun e => a_ld1 (get_set_eq (get_new g _)) e
        have ldn : (Asm.ldn (.set (.push (.is g) (.cells [.int .i64 0, .int .i64 0, .int .i64 0] true)) g.length (.cells y.cells true)) g.length 0 3 y.cells).holds Try.prog := a_ldn (get_set_eq (get_new g _)) (by simp [Sv.cells]) rfl
        have stl : (Asm.st (.set (.push (.is g) (.cells [.int .i64 0, .int .i64 0, .int .i64 0] true)) g.length (.cells y.cells true)) l 0 y.cells y.cells).holds Try.prog := by
          have : ((g ++ [AObj.cells [.int .i64 0, .int .i64 0, .int .i64 0] true]).set g.length (.cells y.cells true))[l]? = some (.cells la.cells true) := by rw [← eA]; exact gl
          exact a_st this (by simp [Sv.cells]) (by simp [Sv.cells])
        have ldA : ∀ {q : Nat} {z : Value}, y.cells[q]? = some z → (Asm.ld1 (.is gA) g.length q z).holds Try.prog := fun e => a_ld1 gx e
        have lla : ∀ {q : Nat} {z : Value}, la.cells[q]? = some z → (Asm.ld1 (.is gA) l q z).holds Try.prog := fun e => a_ld1 gl e
        have ldnA : (Asm.ldn (.is gA) g.length 0 3 y.cells).holds Try.prog := a_ldn gx (by simp [Sv.cells]) rfl
        have stA : (Asm.st (.is gA) l 0 y.cells y.cells).holds Try.prog := a_st gl (by simp [Sv.cells]) (by simp [Sv.cells])
        have rs : (Asm.call 18 [.pointer (some ⟨i, 0, none⟩), .int .i64 y.state] (.set (.push (.is g) (.cells [.int .i64 0, .int .i64 0, .int .i64 0] true)) g.length (.cells y.cells true)) (.tuple #[.int .i64 (stateOf w' y.state).1, .int .i64 (stateOf w' y.state).2]) (.is gA)).holds Try.prog := by
          show Run Try.prog 18 _ ((g ++ [AObj.cells [.int .i64 0, .int .i64 0, .int .i64 0] true]).set g.length (.cells y.cells true)) _ gA
          rw [← eA]; exact state_run aA hw y.state
        have ar : (Asm.arith .add .i64 (k : Int) 1 ((k + 1 : Nat) : Int)).holds Try.prog := by simp only [Asm.holds, arithI, ak1]
        have hlast : lastK L (k + 1) = y := by simp only [lastK, hy]
        have fin : ∀ E2, EnvLe [(60, .int .i64 ((k + 1 : Nat) : Int)), (59, .int .i64 (Int.ofNat L.length)), (58, .slice (some ⟨wo, 0, none⟩) L.length 3), (14, .pointer (some ⟨l, 0, none⟩)), (13, .bool w'.given), (12, .bool (overOf w')), (11, .slice (some ⟨wo, 0, none⟩) L.length 3), (10, .bool up), (9, .bool over), (8, .pointer (some ⟨x, 0, none⟩)), (40, .int .i64 j0), (39, .int .i64 (Int.ofNat p)), (38, .slice (some ⟨o, 0, none⟩) p 5), (5, .pointer (some ⟨i, 0, none⟩))] E2 → CRun Try.prog 203 false (loopN Try.f4 1) E g .normal E2 (gA.set l (.cells y.cells true)) →
            ∃ m' E1 h1, m' < mm ∧ CRun Try.prog 203 false (loopN Try.f4 1) E g .normal E1 h1 ∧ ∃ k : Nat, k ≤ L.length ∧ m' = L.length - k ∧ EnvLe [(60, .int .i64 (k : Nat)), (59, .int .i64 (Int.ofNat L.length)), (58, .slice (some ⟨wo, 0, none⟩) L.length 3), (14, .pointer (some ⟨l, 0, none⟩)), (13, .bool w'.given), (12, .bool (overOf w')), (11, .slice (some ⟨wo, 0, none⟩) L.length 3), (10, .bool up), (9, .bool over), (8, .pointer (some ⟨x, 0, none⟩)), (40, .int .i64 j0), (39, .int .i64 (Int.ofNat p)), (38, .slice (some ⟨o, 0, none⟩) p 5), (5, .pointer (some ⟨i, 0, none⟩))] E1 ∧ Keep (fun q => q = l) h h1 ∧ h1[l]? = some (.cells (lastK L k).cells true) := fun E2 z1 z2 =>
          ⟨L.length - (k + 1), E2, _, by omega, z2, k + 1, by omega, rfl, z1, (k4.trans (KA.mono fun q _ e => e.elim)).trans (Keep.set (fp := fun q => q = l) rfl _), by rw [hlast]; exact get_set_eq gl⟩
        rcases ok with ⟨e1, e2, e3, e4⟩ | ⟨e1, e2, e3, e4⟩ | ⟨e1, e2, e3, e4, e5, e6⟩ | ⟨e1, e2, e3, e4⟩
        · rw [e3, e4] at k3
          obtain ⟨E2, q1, q2⟩ := pvC 0 k3 (w32p.oi_give i p o x l wo L.length (k * 3) g.length j0 (k : Nat) ((k + 1 : Nat) : Int) y.when y.state y.at' 0 0 0 0 0 0 0 over false (overOf w') true [] g g)
            ⟨p1, p2, p3, rfl, p4, ld rfl, eqT e1, neF (by rw [e2]; rfl), ldn, stl, ar, trivial⟩
          refine fin E2 (.trans (by rw [e3, e4]; exact (.add (.add (.add (.add (.add (.add (.add (.add (.add (.add (.add (.add (.add (.add (.nil _) rfl) rfl) rfl) rfl) rfl) rfl) rfl) rfl) rfl) rfl) rfl) rfl) rfl) rfl)) q1) ?_
          rw [eA]; exact q2
        · have x3 : (Asm.cmp .eql y.when 3 false).holds Try.prog := eqF (by omega)
          by_cases hk : la.when = 1
          · obtain ⟨E2, q1, q2⟩ := pvC 0 k3 (w32p.oi_stops i p o x l wo L.length (k * 3) g.length j0 (k : Nat) ((k + 1 : Nat) : Int) y.when y.state y.at' (stateOf w' y.state).1 (stateOf w' y.state).2 la.when la.state 0 0 0 over up (overOf w') w'.given [] g gA)
              ⟨p1, p2, p3, rfl, p4, ld rfl, x3, eqT e1, ld rfl, rs, neF e2, lla rfl, eqF e3, lla rfl, eqT hk, lla rfl, ldA rfl, by have := e4 hk; simp [Asm.holds, cmpB]; omega, ldnA, stA, ar, trivial⟩
            exact fin E2 (.trans (.add (.add (.add (.add (.add (.add (.add (.add (.add (.add (.add (.add (.add (.add (.nil _) rfl) rfl) rfl) rfl) rfl) rfl) rfl) rfl) rfl) rfl) rfl) rfl) rfl) rfl) q1) q2
          · obtain ⟨E2, q1, q2⟩ := pvC 0 k3 (w32p.oi_stop i p o x l wo L.length (k * 3) g.length j0 (k : Nat) ((k + 1 : Nat) : Int) y.when y.state y.at' (stateOf w' y.state).1 (stateOf w' y.state).2 la.when 0 0 0 0 over up (overOf w') w'.given [] g gA)
              ⟨p1, p2, p3, rfl, p4, ld rfl, x3, eqT e1, ld rfl, rs, neF e2, lla rfl, eqF e3, lla rfl, eqF hk, ldnA, stA, ar, trivial⟩
            exact fin E2 (.trans (.add (.add (.add (.add (.add (.add (.add (.add (.add (.add (.add (.add (.add (.add (.nil _) rfl) rfl) rfl) rfl) rfl) rfl) rfl) rfl) rfl) rfl) rfl) rfl) rfl) rfl) q1) q2
        · rw [e3] at k3
          have x3 : (Asm.cmp .eql y.when 3 false).holds Try.prog := eqF (by omega)
          have x1 : (Asm.cmp .eql y.when 1 false).holds Try.prog := eqF (by omega)
          have s1 : (stateOf w' y.state).1 = 4 := by rw [e2]
          have s2 : (stateOf w' y.state).2 = y.at' := by rw [e2]
          have oa : (Asm.ld1 (.is gA) x 2 (.int .i64 op.at')).holds Try.prog := a_ld1 xA rfl
          have lt : (Asm.cmp .lss y.at' op.at' false).holds Try.prog := by simp [Asm.holds, cmpB]; omega
          by_cases hk : la.when = 2
          · obtain ⟨z1, z2⟩ := e5 hk
            obtain ⟨E2, q1, q2⟩ := pvC 0 k3 (w32p.oi_starts i p o x l wo L.length (k * 3) g.length j0 (k : Nat) ((k + 1 : Nat) : Int) y.when y.state y.at' (stateOf w' y.state).1 (stateOf w' y.state).2 la.when la.state la.at' op.at' 0 over up (overOf w') false [] g gA)
              ⟨p1, p2, p3, rfl, p4, ld rfl, x3, x1, eqT e1, ld rfl, rs, neF s1, ldA rfl, neF s2, stops_run aA hw e4, lla rfl, eqT hk, lla rfl, ldA rfl, by simp [Asm.holds, cmpB]; omega, lla rfl, ldA rfl, neF z2, ldA rfl, oa, lt, ldnA, stA, ar, trivial⟩
            refine fin E2 (.trans (by rw [e3]; exact (.add (.add (.add (.add (.add (.add (.add (.add (.add (.add (.add (.add (.add (.add (.nil _) rfl) rfl) rfl) rfl) rfl) rfl) rfl) rfl) rfl) rfl) rfl) rfl) rfl) rfl)) q1) q2
          · obtain ⟨E2, q1, q2⟩ := pvC 0 k3 (w32p.oi_start i p o x l wo L.length (k * 3) g.length j0 (k : Nat) ((k + 1 : Nat) : Int) y.when y.state y.at' (stateOf w' y.state).1 (stateOf w' y.state).2 la.when 0 0 op.at' 0 over up (overOf w') false [] g gA)
              ⟨p1, p2, p3, rfl, p4, ld rfl, x3, x1, eqT e1, ld rfl, rs, neF s1, ldA rfl, neF s2, stops_run aA hw e4, lla rfl, eqF hk, ldA rfl, oa, lt, ldnA, stA, ar, trivial⟩
            refine fin E2 (.trans (by rw [e3]; exact (.add (.add (.add (.add (.add (.add (.add (.add (.add (.add (.add (.add (.add (.add (.nil _) rfl) rfl) rfl) rfl) rfl) rfl) rfl) rfl) rfl) rfl) rfl) rfl) rfl) rfl)) q1) q2
        · rw [e3, e4] at k3
          have x3 : (Asm.cmp .eql y.when 3 false).holds Try.prog := eqF (by omega)
          have x1 : (Asm.cmp .eql y.when 1 false).holds Try.prog := eqF (by omega)
          have x2 : (Asm.cmp .eql y.when 2 false).holds Try.prog := eqF (by omega)
          have am : (Asm.arith .sub .i64 (Int.ofNat L.length) 1 ((L.length : Int) - 1)).holds Try.prog := by simp only [Asm.holds, arithI, Int.ofNat_eq_natCast, wrap_id (x := (L.length : Int) - 1) (by omega) (by omega)]
          obtain ⟨E2, q1, q2⟩ := pvC 0 k3 (w32p.oi_done i p o x l wo L.length (k * 3) g.length j0 (k : Nat) ((k + 1 : Nat) : Int) y.when y.state y.at' 0 0 0 0 0 0 ((L.length : Int) - 1) false up true w'.given [] g g)
            ⟨p1, p2, p3, rfl, p4, ld rfl, x3, x1, x2, eqT e1, am, neF (by omega), ldn, stl, ar, trivial⟩
          refine fin E2 (.trans (by rw [e3, e4]; exact (.add (.add (.add (.add (.add (.add (.add (.add (.add (.add (.add (.add (.add (.add (.nil _) rfl) rfl) rfl) rfl) rfl) rfl) rfl) rfl) rfl) rfl) rfl) rfl) rfl) rfl)) q1) ?_
          rw [eA]; exact q2)
    L.length [(60, .int .i64 ((0 : Nat) : Int)), (59, .int .i64 (Int.ofNat L.length)), (58, .slice (some ⟨wo, 0, none⟩) L.length 3), (14, .pointer (some ⟨l, 0, none⟩)), (13, .bool w'.given), (12, .bool (overOf w')), (11, .slice (some ⟨wo, 0, none⟩) L.length 3), (10, .bool up), (9, .bool over), (8, .pointer (some ⟨x, 0, none⟩)), (40, .int .i64 j0), (39, .int .i64 (Int.ofNat p)), (38, .slice (some ⟨o, 0, none⟩) p 5), (5, .pointer (some ⟨i, 0, none⟩))] h ⟨0, by omega, rfl, EnvLe.refl _, .refl _ _, hl⟩
  exact ⟨E1, h1, q1, hl1, q2, q3⟩

end Go.Proofs.Ytkkhokgpcifckaa.wd

namespace Go.Proofs.Ytkkhokgpcifckaa.wd
open Go Go.Ev
set_option maxRecDepth 100000
set_option linter.constructorNameAsVariable false
set_option linter.unusedVariables false

set_option maxHeartbeats 2000000 in
theorem orders_loop {B i j : Nat} {w0 : WS} {h0 g0 : Hp} {vs : Value} {m l : List OpV} (hm : m.length ≤ 100) (hml : ∀ (k : Nat) x, m[k]? = some x → l[k]? = some x) (hvs : m = [] ∨ ∃ o rw, vs = .slice (some ⟨o, 0, none⟩) m.length 5 ∧ h0[o]? = some (.cells (opC l) rw) ∧ ¬ fpB i j B o)
    (I : In B i j w0 h0 g0) (hw : WOk w0) (ht : w0.times = []) (hs0 : ∀ x ∈ w0.svs, 1 ≤ x.state ∧ x.state ≤ 5) :
    ∃ E1 g1, LRun Try.prog 203 false (loopN Try.f4 0) [(40, .int .i64 0), (39, .int .i64 (Int.ofNat m.length)), (38, vs), (5, .pointer (some ⟨i, 0, none⟩))] g0 (.exit 0) E1 g1 := by
  obtain ⟨x', E1, g1, hl1, rfl⟩ := loop_inv (P := Try.prog) (n := 203) (rd := false) (b := loopN Try.f4 0)
    (Q := fun x' E1 g1 => x' = .exit 0)
    (fun mm E g => ∃ k : Nat, k ≤ m.length ∧ mm = m.length - k ∧ EnvLe [(40, .int .i64 (k : Nat)), (39, .int .i64 (Int.ofNat m.length)), (38, vs), (5, .pointer (some ⟨i, 0, none⟩))] E ∧ In B i j (foldW w0 (m.take k)) h0 g)
    (fun mm E g ⟨k, k1, k2, k3, k4⟩ => by
      by_cases e : k = m.length
      · right
        subst e
        obtain ⟨E2, q1, q2⟩ := pvC 0 k3 (w32p.ol_out i m.length (m.length : Nat) vs g) ⟨by simp [Asm.holds, cmpB], trivial⟩
        exact ⟨_, E2, _, by simp, q2, rfl⟩
      · left
        obtain ⟨x, hx⟩ : ∃ x, m[k]? = some x := ⟨_, List.getElem?_eq_getElem (by omega)⟩
        rcases hvs with hnil | ⟨o, rw', rfl, ho, hoB⟩
        · rw [hnil] at hx; simp at hx
        · have hog := k4.keep.2 _ _ ho hoB
          have hlx := hml k x hx
          have hcl := opC_len l
          have hkl := get_lt' hlx
          have ak1 : IntKind.i64.wrap ((k : Int) + 1) = ((k + 1 : Nat) : Int) := add1 (by omega)
          have Gk := foldW_good hw ht (m.take k) (by simp; omega)
          have htk : (foldW w0 (m.take k)).times.length < 10000 := by have := Gk.times; simp at this; omega
          have hsk := each_st Gk.each hs0
          have next : ∀ E2 g5, CRun Try.prog 203 false (loopN Try.f4 0) E g .normal E2 g5 → EnvLe [(40, .int .i64 ((k + 1 : Nat) : Int)), (39, .int .i64 (Int.ofNat m.length)), (38, .slice (some ⟨o, 0, none⟩) m.length 5), (5, .pointer (some ⟨i, 0, none⟩))] E2 → In B i j (stepF (foldW w0 (m.take k)) x) h0 g5 →
              ∃ m' E1 h1, m' < mm ∧ CRun Try.prog 203 false (loopN Try.f4 0) E g .normal E1 h1 ∧ ∃ k : Nat, k ≤ m.length ∧ m' = m.length - k ∧ EnvLe [(40, .int .i64 (k : Nat)), (39, .int .i64 (Int.ofNat m.length)), (38, .slice (some ⟨o, 0, none⟩) m.length 5), (5, .pointer (some ⟨i, 0, none⟩))] E1 ∧ In B i j (foldW w0 (m.take k)) h0 h1 := fun E2 g5 z1 z2 z3 =>
            ⟨m.length - (k + 1), E2, g5, by omega, z1, k + 1, by omega, rfl, z2, by rw [take_snoc hx, foldW_snoc]; exact z3⟩
          obtain ⟨w, ew⟩ : ∃ w, w = foldW w0 (m.take k) := ⟨_, rfl⟩
          rw [← ew] at k4 Gk htk hsk next
          obtain ⟨R1, R2, R3⟩ := reply_ok (w := w) (o := x) Gk.ok hsk
          have hok' := (run_ok Gk.ok htk x).1
          obtain ⟨gx, egx⟩ : ∃ gx, gx = (g ++ [AObj.cells [.int .i64 0, .int .i64 0, .int .i64 0, .int .i64 0, .string ⟨⟨[]⟩⟩] true]).set g.length (.cells x.cells true) := ⟨_, rfl⟩
          have gxx : gx[g.length]? = some (.cells x.cells true) := by rw [egx]; exact get_set_eq (get_new g _)
          have I1 : In B i j w h0 gx := by rw [egx]; exact k4.tmp _ _
          have hgxl : gx.length = g.length + 1 := by rw [egx]; simp
          obtain ⟨t, a, hta⟩ := I1.at'
          have ag := k4.at'
          obtain ⟨tg, ag, _⟩ := ag
          have nxi : g.length ≠ i := fun e => by have := get_lt ag.obj; omega
          have nxj : g.length ≠ j := fun e => by have := get_lt ag.svs; omega
          obtain ⟨os, r16⟩ := over_run a Gk.ok
          have KO : Keep (fun _ => False) gx (gx ++ os) := Keep.app _ _ _
          have I2 := I1.grow KO
          have a2 := a.app os
          have x2 := KO.2 _ _ gxx id
          have nxt : t ≠ some g.length := fun e => by
            rcases a.tms with ⟨r, _⟩ | ⟨q, r1, r2, _⟩
            · rw [r] at e; cases e
            · rw [r1] at e; cases e
              rw [gxx] at r2
              simp only [Option.some.injEq, AObj.cells.injEq] at r2
              have h5 := congrArg (fun c => c[4]?) r2.1
              simp only [OpV.cells] at h5
              rcases hwt : w.times with _ | ⟨a1, _ | ⟨a2, _ | ⟨a3, _ | ⟨a4, _ | ⟨a5, rest⟩⟩⟩⟩⟩ <;> rw [hwt] at h5 <;> simp at h5
          obtain ⟨rv, g3, t', r1, r2, ⟨bo, b1, b2, hO⟩, r4, r5⟩ := run_run a2 Gk.ok htk x
          have I3 : In B i j (stepF w x) h0 g3 := I2.next hta r2 r4 r5
          have x3 := r4.2 _ _ x2 (fun e => by rcases e with e | e | e; exact nxi e; exact nxj e; exact nxt e)
          obtain ⟨os3, r16b0⟩ := over_run r2 hok'
          obtain ⟨g4, eg4⟩ : ∃ g4, g4 = g3 ++ os3 := ⟨_, rfl⟩
          have K4 : Keep (fun _ => False) g3 g4 := by rw [eg4]; exact Keep.app _ _ _
          rw [← eg4] at r16b0
          have I4 := I3.grow K4
          have a4 := r2.keep K4 (fun q _ e => e.elim)
          have x4 := K4.2 _ _ x3 id
          have hg34 := K4.1
          have hr4 := r4.1
          have p1 : (Asm.cmp .lss (k : Int) (Int.ofNat m.length) true).holds Try.prog := by simp [Asm.holds, cmpB]; omega
          have p2 : (Asm.off (k * 5) 0 (k : Int) m.length 5).holds Try.prog := ⟨by omega, by omega, by simp⟩
          have p3 : (Asm.ldn (.is g) o (k * 5) 5 x.cells).holds Try.prog := a_ldn hog (by omega) (opC_cut hlx)
          have p4 : (Asm.st (.push (.is g) (.cells [.int .i64 0, .int .i64 0, .int .i64 0, .int .i64 0, .string ⟨⟨[]⟩⟩] true)) g.length 0 x.cells x.cells).holds Try.prog := a_st (get_new g _) (by simp [OpV.cells]) (by simp [OpV.cells])
          have r16' : (Asm.call 16 [.pointer (some ⟨i, 0, none⟩)] (.set (.push (.is g) (.cells [.int .i64 0, .int .i64 0, .int .i64 0, .int .i64 0, .string ⟨⟨[]⟩⟩] true)) g.length (.cells x.cells true)) (.tuple #[.bool (overOf w), .bool w.given]) (.is (gx ++ os))).holds Try.prog := by
            show Run Try.prog 16 _ ((g ++ [AObj.cells [.int .i64 0, .int .i64 0, .int .i64 0, .int .i64 0, .string ⟨⟨[]⟩⟩] true]).set g.length (.cells x.cells true)) _ (gx ++ os)
            rw [← egx]; exact r16
          have ldx : (Asm.ldn (.is (gx ++ os)) g.length 0 5 x.cells).holds Try.prog := a_ldn x2 (by simp [OpV.cells]) rfl
          have r17' : (Asm.call 17 [.pointer (some ⟨i, 0, none⟩), .agg x.cells.toArray] (.is (gx ++ os)) rv (.is g3)).holds Try.prog := r1
          have r16b : (Asm.call 16 [.pointer (some ⟨i, 0, none⟩)] (.is g3) (.tuple #[.bool (overOf (stepF w x)), .bool (stepF w x).given]) (.is g4)).holds Try.prog := r16b0
          have stz : (Asm.st (.push (.is g4) (.cells [.int .i64 0, .int .i64 0, .int .i64 0] true)) g4.length 0 [.int .i64 0, .int .i64 0, .int .i64 0] [.int .i64 0, .int .i64 0, .int .i64 0]).holds Try.prog := a_st (get_new g4 _) (by simp) rfl
          have ar : (Asm.arith .add .i64 (k : Int) 1 ((k + 1 : Nat) : Int)).holds Try.prog := by simp only [Asm.holds, arithI, ak1]
          have pl1 : plainC (loopN Try.f4 1) = true := by kernel_rfl
          have I5 := I4.tmp (.cells [.int .i64 0, .int .i64 0, .int .i64 0] true) (.cells [.int .i64 0, .int .i64 0, .int .i64 0] true)
          have KL : Keep (fun _ => False) g4 ((g4 ++ [AObj.cells [.int .i64 0, .int .i64 0, .int .i64 0] true]).set g4.length (.cells [.int .i64 0, .int .i64 0, .int .i64 0] true)) :=
            (Keep.push (fun _ => False) g4 _).trans_new (Keep.set (fp := fun q => q = g4.length) rfl _) (fun q hq e => by omega)
          rcases hO with ⟨rfl, hnil⟩ | ⟨ob, rfl, hob, hbo, hne⟩
          · skip
            cases hover : overOf w with
            | true =>
              cases hup : w.given with
              | true =>
                cases hnow : overOf (stepF w x) with
                | true =>
                  cases hgiven : (stepF w x).given with
                  | true =>
                    rw [hover, hup] at r16'
                    rw [hnow, hgiven] at r16b
                    obtain ⟨E2, q1, q2⟩ := pvC 0 k3 (w32p.ob_ntttt i m.length o (k * 5) g.length g4.length k ((k + 1 : Nat) : Int) x.kind x.n x.at' x.fk x.ft true true true true g _ g3 g4 g4) ⟨p1, p2, p3, rfl, p4, r16', ldx, r17', r16b, rfl, stz, by simp [Asm.holds, cmpB], ar, trivial⟩
                    exact next E2 _ q2 (.trans (.add (.add (.add (.add (.nil _) rfl) rfl) rfl) rfl) q1) I5
                  | false =>
                    rw [hover, hup] at r16'
                    rw [hnow, hgiven] at r16b
                    obtain ⟨E2, q1, q2⟩ := pvC 0 k3 (w32p.ob_ntttf i m.length o (k * 5) g.length g4.length k ((k + 1 : Nat) : Int) x.kind x.n x.at' x.fk x.ft true true true false g _ g3 g4 g4) ⟨p1, p2, p3, rfl, p4, r16', ldx, r17', r16b, rfl, stz, by simp [Asm.holds, cmpB], ar, trivial⟩
                    exact next E2 _ q2 (.trans (.add (.add (.add (.add (.nil _) rfl) rfl) rfl) rfl) q1) I5
                | false =>
                  cases hgiven : (stepF w x).given with
                  | true =>
                    rw [hover, hup] at r16'
                    rw [hnow, hgiven] at r16b
                    obtain ⟨E2, q1, q2⟩ := pvC 0 k3 (w32p.ob_nttft i m.length o (k * 5) g.length g4.length k ((k + 1 : Nat) : Int) x.kind x.n x.at' x.fk x.ft true true false true g _ g3 g4 g4) ⟨p1, p2, p3, rfl, p4, r16', ldx, r17', r16b, rfl, stz, by simp [Asm.holds, cmpB], ar, trivial⟩
                    exact next E2 _ q2 (.trans (.add (.add (.add (.add (.nil _) rfl) rfl) rfl) rfl) q1) I5
                  | false =>
                    rw [hover, hup] at r16'
                    rw [hnow, hgiven] at r16b
                    obtain ⟨E2, q1, q2⟩ := pvC 0 k3 (w32p.ob_nttff i m.length o (k * 5) g.length g4.length k ((k + 1 : Nat) : Int) x.kind x.n x.at' x.fk x.ft true true false false g _ g3 g4 g4) ⟨p1, p2, p3, rfl, p4, r16', ldx, r17', r16b, rfl, stz, by simp [Asm.holds, cmpB], ar, trivial⟩
                    exact next E2 _ q2 (.trans (.add (.add (.add (.add (.nil _) rfl) rfl) rfl) rfl) q1) I5
              | false =>
                cases hnow : overOf (stepF w x) with
                | true =>
                  cases hgiven : (stepF w x).given with
                  | true =>
                    obtain ⟨y, y1, _⟩ := R3 hgiven hup
                    rw [hnil] at y1; simp at y1
                  | false =>
                    rw [hover, hup] at r16'
                    rw [hnow, hgiven] at r16b
                    obtain ⟨E2, q1, q2⟩ := pvC 0 k3 (w32p.ob_ntftf i m.length o (k * 5) g.length g4.length k ((k + 1 : Nat) : Int) x.kind x.n x.at' x.fk x.ft true false true false g _ g3 g4 g4) ⟨p1, p2, p3, rfl, p4, r16', ldx, r17', r16b, rfl, stz, by simp [Asm.holds, cmpB], ar, trivial⟩
                    exact next E2 _ q2 (.trans (.add (.add (.add (.add (.nil _) rfl) rfl) rfl) rfl) q1) I5
                | false =>
                  cases hgiven : (stepF w x).given with
                  | true =>
                    obtain ⟨y, y1, _⟩ := R3 hgiven hup
                    rw [hnil] at y1; simp at y1
                  | false =>
                    rw [hover, hup] at r16'
                    rw [hnow, hgiven] at r16b
                    obtain ⟨E2, q1, q2⟩ := pvC 0 k3 (w32p.ob_ntfff i m.length o (k * 5) g.length g4.length k ((k + 1 : Nat) : Int) x.kind x.n x.at' x.fk x.ft true false false false g _ g3 g4 g4) ⟨p1, p2, p3, rfl, p4, r16', ldx, r17', r16b, rfl, stz, by simp [Asm.holds, cmpB], ar, trivial⟩
                    exact next E2 _ q2 (.trans (.add (.add (.add (.add (.nil _) rfl) rfl) rfl) rfl) q1) I5
            | false =>
              cases hup : w.given with
              | true =>
                cases hnow : overOf (stepF w x) with
                | true =>
                  cases hgiven : (stepF w x).given with
                  | true =>
                    exact absurd (R2 hnow hover) (by rw [hnil]; simp [lastK])
                  | false =>
                    exact absurd (R2 hnow hover) (by rw [hnil]; simp [lastK])
                | false =>
                  cases hgiven : (stepF w x).given with
                  | true =>
                    rw [hover, hup] at r16'
                    rw [hnow, hgiven] at r16b
                    obtain ⟨E2, q1, q2⟩ := pvC 0 k3 (w32p.ob_nftft i m.length o (k * 5) g.length g4.length k ((k + 1 : Nat) : Int) x.kind x.n x.at' x.fk x.ft false true false true g _ g3 g4 g4) ⟨p1, p2, p3, rfl, p4, r16', ldx, r17', r16b, rfl, stz, by simp [Asm.holds, cmpB], ar, trivial⟩
                    exact next E2 _ q2 (.trans (.add (.add (.add (.add (.nil _) rfl) rfl) rfl) rfl) q1) I5
                  | false =>
                    rw [hover, hup] at r16'
                    rw [hnow, hgiven] at r16b
                    obtain ⟨E2, q1, q2⟩ := pvC 0 k3 (w32p.ob_nftff i m.length o (k * 5) g.length g4.length k ((k + 1 : Nat) : Int) x.kind x.n x.at' x.fk x.ft false true false false g _ g3 g4 g4) ⟨p1, p2, p3, rfl, p4, r16', ldx, r17', r16b, rfl, stz, by simp [Asm.holds, cmpB], ar, trivial⟩
                    exact next E2 _ q2 (.trans (.add (.add (.add (.add (.nil _) rfl) rfl) rfl) rfl) q1) I5
              | false =>
                cases hnow : overOf (stepF w x) with
                | true =>
                  cases hgiven : (stepF w x).given with
                  | true =>
                    exact absurd (R2 hnow hover) (by rw [hnil]; simp [lastK])
                  | false =>
                    exact absurd (R2 hnow hover) (by rw [hnil]; simp [lastK])
                | false =>
                  cases hgiven : (stepF w x).given with
                  | true =>
                    obtain ⟨y, y1, _⟩ := R3 hgiven hup
                    rw [hnil] at y1; simp at y1
                  | false =>
                    rw [hover, hup] at r16'
                    rw [hnow, hgiven] at r16b
                    obtain ⟨E2, q1, q2⟩ := pvC 0 k3 (w32p.ob_nffff i m.length o (k * 5) g.length g4.length k ((k + 1 : Nat) : Int) x.kind x.n x.at' x.fk x.ft false false false false g _ g3 g4 g4) ⟨p1, p2, p3, rfl, p4, r16', ldx, r17', r16b, rfl, stz, by simp [Asm.holds, cmpB], ar, trivial⟩
                    exact next E2 _ q2 (.trans (.add (.add (.add (.add (.nil _) rfl) rfl) rfl) rfl) q1) I5
          · have aL := a4.keep KL (fun q _ e => e.elim)
            have hobL := KL.2 _ _ (K4.2 _ _ hob id) id
            have xL := KL.2 _ _ x4 id
            have hobl := get_lt hob
            have hxl := get_lt x3
            have hgl := get_set_eq (x := AObj.cells [.int .i64 0, .int .i64 0, .int .i64 0] true) (get_new g4 (AObj.cells [.int .i64 0, .int .i64 0, .int .i64 0] true))
            obtain ⟨Ei, g5, i1, i2, i3, i4⟩ := orders_inner (i := i) (j := j) (p := m.length) (o := o) (l := g4.length) (x := g.length) (wo := ob) (j0 := (k : Int)) (op := x) (up := w.given) (over := overOf w) (w' := stepF w x) (L := (runF w x).2) aL hok' hobL hgl xL
              (fun e => by have := get_lt a4.obj; omega) (fun e => by have := get_lt a4.svs; omega) (fun e => by have := a4.lts _ (.inr (.inr e)); omega) (by omega) (by omega) (by have := run_len Gk.ok htk x; omega) R1
            have I6 : In B i j (stepF w x) h0 g5 := by
              obtain ⟨t5, a5, h5⟩ := I5.at'
              have hB := I4.base
              refine ⟨⟨t', aL.keep i3 (fun q _ e r => ?_), fun q e => by rcases r5 q e with e | e; exact hta q e; have := I2.base; omega⟩, I5.keep.trans (i3.mono fun q _ e => .inr (.inr (by omega))), Nat.le_trans I5.base i3.1⟩
              rcases r with r | r | r
              · have := get_lt a4.obj; omega
              · have := get_lt a4.svs; omega
              · have := a4.lts _ (.inr (.inr r)); omega
            have i3o := i3.2 _ _ hobL (show ¬ ob = g4.length by omega)
            cases hover : overOf w with
            | true =>
              cases hup : w.given with
              | true =>
                cases hnow : overOf (stepF w x) with
                | true =>
                  cases hgiven : (stepF w x).given with
                  | true =>
                    rw [hover, hup] at r16'
                    rw [hnow, hgiven] at r16b
                    rw [hover, hup, hnow, hgiven] at i1 i2
                    obtain ⟨E2, q1, q2⟩ := pvC 0 k3 (w32p.ob_stttt i m.length o (k * 5) g.length g4.length k ((k + 1 : Nat) : Int) x.kind x.n x.at' x.fk x.ft true true true true g _ g3 g4 g5 ob (runF w x).2.length 0 0) ⟨p1, p2, p3, rfl, p4, r16', ldx, r17', r16b, rfl, stz, a_loop pl1 (.add (.add (.add (.add (.add (.add (.add (.add (.add (.add (.add (.add (.add (.add (.nil _) rfl) rfl) rfl) rfl) rfl) rfl) rfl) rfl) rfl) rfl) rfl) rfl) rfl) rfl) i1 i2, ar, trivial⟩
                    exact next E2 _ q2 (.trans (.add (.add (.add (.add (.nil _) rfl) rfl) rfl) rfl) q1) I6
                  | false =>
                    rw [hover, hup] at r16'
                    rw [hnow, hgiven] at r16b
                    rw [hover, hup, hnow, hgiven] at i1 i2
                    obtain ⟨E2, q1, q2⟩ := pvC 0 k3 (w32p.ob_stttf i m.length o (k * 5) g.length g4.length k ((k + 1 : Nat) : Int) x.kind x.n x.at' x.fk x.ft true true true false g _ g3 g4 g5 ob (runF w x).2.length 0 0) ⟨p1, p2, p3, rfl, p4, r16', ldx, r17', r16b, rfl, stz, a_loop pl1 (.add (.add (.add (.add (.add (.add (.add (.add (.add (.add (.add (.add (.add (.add (.nil _) rfl) rfl) rfl) rfl) rfl) rfl) rfl) rfl) rfl) rfl) rfl) rfl) rfl) rfl) i1 i2, ar, trivial⟩
                    exact next E2 _ q2 (.trans (.add (.add (.add (.add (.nil _) rfl) rfl) rfl) rfl) q1) I6
                | false =>
                  cases hgiven : (stepF w x).given with
                  | true =>
                    rw [hover, hup] at r16'
                    rw [hnow, hgiven] at r16b
                    rw [hover, hup, hnow, hgiven] at i1 i2
                    obtain ⟨E2, q1, q2⟩ := pvC 0 k3 (w32p.ob_sttft i m.length o (k * 5) g.length g4.length k ((k + 1 : Nat) : Int) x.kind x.n x.at' x.fk x.ft true true false true g _ g3 g4 g5 ob (runF w x).2.length 0 0) ⟨p1, p2, p3, rfl, p4, r16', ldx, r17', r16b, rfl, stz, a_loop pl1 (.add (.add (.add (.add (.add (.add (.add (.add (.add (.add (.add (.add (.add (.add (.nil _) rfl) rfl) rfl) rfl) rfl) rfl) rfl) rfl) rfl) rfl) rfl) rfl) rfl) rfl) i1 i2, ar, trivial⟩
                    exact next E2 _ q2 (.trans (.add (.add (.add (.add (.nil _) rfl) rfl) rfl) rfl) q1) I6
                  | false =>
                    rw [hover, hup] at r16'
                    rw [hnow, hgiven] at r16b
                    rw [hover, hup, hnow, hgiven] at i1 i2
                    obtain ⟨E2, q1, q2⟩ := pvC 0 k3 (w32p.ob_sttff i m.length o (k * 5) g.length g4.length k ((k + 1 : Nat) : Int) x.kind x.n x.at' x.fk x.ft true true false false g _ g3 g4 g5 ob (runF w x).2.length 0 0) ⟨p1, p2, p3, rfl, p4, r16', ldx, r17', r16b, rfl, stz, a_loop pl1 (.add (.add (.add (.add (.add (.add (.add (.add (.add (.add (.add (.add (.add (.add (.nil _) rfl) rfl) rfl) rfl) rfl) rfl) rfl) rfl) rfl) rfl) rfl) rfl) rfl) rfl) i1 i2, ar, trivial⟩
                    exact next E2 _ q2 (.trans (.add (.add (.add (.add (.nil _) rfl) rfl) rfl) rfl) q1) I6
              | false =>
                cases hnow : overOf (stepF w x) with
                | true =>
                  cases hgiven : (stepF w x).given with
                  | true =>
                    rw [hover, hup] at r16'
                    rw [hnow, hgiven] at r16b
                    rw [hover, hup, hnow, hgiven] at i1 i2
                    obtain ⟨y, y1, y2⟩ := R3 hgiven hup
                    have hw0 : (Asm.ld1 (.is g5) ob 0 (.int .i64 y.when)).holds Try.prog := a_ld1 i3o (by have := (svC_get y1).1; simpa using this)
                    have hlen0 : (runF w x).2.length ≠ 0 := fun e => by rw [List.length_eq_zero_iff.1 e] at y1; simp at y1
                    obtain ⟨E2, q1, q2⟩ := pvC 0 k3 (w32p.ob_stftt i m.length o (k * 5) g.length g4.length k ((k + 1 : Nat) : Int) x.kind x.n x.at' x.fk x.ft true false true true g _ g3 g4 g5 ob (runF w x).2.length 0 y.when) ⟨p1, p2, p3, rfl, p4, r16', ldx, r17', r16b, rfl, stz, a_loop pl1 (.add (.add (.add (.add (.add (.add (.add (.add (.add (.add (.add (.add (.add (.add (.nil _) rfl) rfl) rfl) rfl) rfl) rfl) rfl) rfl) rfl) rfl) rfl) rfl) rfl) rfl) i1 i2, eqF (by simp only [Int.ofNat_eq_natCast]; omega), ⟨by omega, by omega, by simp⟩, hw0, neF y2, ar, trivial⟩
                    exact next E2 _ q2 (.trans (.add (.add (.add (.add (.nil _) rfl) rfl) rfl) rfl) q1) I6
                  | false =>
                    rw [hover, hup] at r16'
                    rw [hnow, hgiven] at r16b
                    rw [hover, hup, hnow, hgiven] at i1 i2
                    obtain ⟨E2, q1, q2⟩ := pvC 0 k3 (w32p.ob_stftf i m.length o (k * 5) g.length g4.length k ((k + 1 : Nat) : Int) x.kind x.n x.at' x.fk x.ft true false true false g _ g3 g4 g5 ob (runF w x).2.length 0 0) ⟨p1, p2, p3, rfl, p4, r16', ldx, r17', r16b, rfl, stz, a_loop pl1 (.add (.add (.add (.add (.add (.add (.add (.add (.add (.add (.add (.add (.add (.add (.nil _) rfl) rfl) rfl) rfl) rfl) rfl) rfl) rfl) rfl) rfl) rfl) rfl) rfl) rfl) i1 i2, ar, trivial⟩
                    exact next E2 _ q2 (.trans (.add (.add (.add (.add (.nil _) rfl) rfl) rfl) rfl) q1) I6
                | false =>
                  cases hgiven : (stepF w x).given with
                  | true =>
                    rw [hover, hup] at r16'
                    rw [hnow, hgiven] at r16b
                    rw [hover, hup, hnow, hgiven] at i1 i2
                    obtain ⟨y, y1, y2⟩ := R3 hgiven hup
                    have hw0 : (Asm.ld1 (.is g5) ob 0 (.int .i64 y.when)).holds Try.prog := a_ld1 i3o (by have := (svC_get y1).1; simpa using this)
                    have hlen0 : (runF w x).2.length ≠ 0 := fun e => by rw [List.length_eq_zero_iff.1 e] at y1; simp at y1
                    obtain ⟨E2, q1, q2⟩ := pvC 0 k3 (w32p.ob_stfft i m.length o (k * 5) g.length g4.length k ((k + 1 : Nat) : Int) x.kind x.n x.at' x.fk x.ft true false false true g _ g3 g4 g5 ob (runF w x).2.length 0 y.when) ⟨p1, p2, p3, rfl, p4, r16', ldx, r17', r16b, rfl, stz, a_loop pl1 (.add (.add (.add (.add (.add (.add (.add (.add (.add (.add (.add (.add (.add (.add (.nil _) rfl) rfl) rfl) rfl) rfl) rfl) rfl) rfl) rfl) rfl) rfl) rfl) rfl) rfl) i1 i2, eqF (by simp only [Int.ofNat_eq_natCast]; omega), ⟨by omega, by omega, by simp⟩, hw0, neF y2, ar, trivial⟩
                    exact next E2 _ q2 (.trans (.add (.add (.add (.add (.nil _) rfl) rfl) rfl) rfl) q1) I6
                  | false =>
                    rw [hover, hup] at r16'
                    rw [hnow, hgiven] at r16b
                    rw [hover, hup, hnow, hgiven] at i1 i2
                    obtain ⟨E2, q1, q2⟩ := pvC 0 k3 (w32p.ob_stfff i m.length o (k * 5) g.length g4.length k ((k + 1 : Nat) : Int) x.kind x.n x.at' x.fk x.ft true false false false g _ g3 g4 g5 ob (runF w x).2.length 0 0) ⟨p1, p2, p3, rfl, p4, r16', ldx, r17', r16b, rfl, stz, a_loop pl1 (.add (.add (.add (.add (.add (.add (.add (.add (.add (.add (.add (.add (.add (.add (.nil _) rfl) rfl) rfl) rfl) rfl) rfl) rfl) rfl) rfl) rfl) rfl) rfl) rfl) rfl) i1 i2, ar, trivial⟩
                    exact next E2 _ q2 (.trans (.add (.add (.add (.add (.nil _) rfl) rfl) rfl) rfl) q1) I6
            | false =>
              cases hup : w.given with
              | true =>
                cases hnow : overOf (stepF w x) with
                | true =>
                  cases hgiven : (stepF w x).given with
                  | true =>
                    rw [hover, hup] at r16'
                    rw [hnow, hgiven] at r16b
                    rw [hover, hup, hnow, hgiven] at i1 i2
                    obtain ⟨E2, q1, q2⟩ := pvC 0 k3 (w32p.ob_sfttt i m.length o (k * 5) g.length g4.length k ((k + 1 : Nat) : Int) x.kind x.n x.at' x.fk x.ft false true true true g _ g3 g4 g5 ob (runF w x).2.length (lastK (runF w x).2 (runF w x).2.length).when 0) ⟨p1, p2, p3, rfl, p4, r16', ldx, r17', r16b, rfl, stz, a_loop pl1 (.add (.add (.add (.add (.add (.add (.add (.add (.add (.add (.add (.add (.add (.add (.nil _) rfl) rfl) rfl) rfl) rfl) rfl) rfl) rfl) rfl) rfl) rfl) rfl) rfl) rfl) i1 i2, a_ld1 i4 rfl, neF (R2 hnow hover), ar, trivial⟩
                    exact next E2 _ q2 (.trans (.add (.add (.add (.add (.nil _) rfl) rfl) rfl) rfl) q1) I6
                  | false =>
                    rw [hover, hup] at r16'
                    rw [hnow, hgiven] at r16b
                    rw [hover, hup, hnow, hgiven] at i1 i2
                    obtain ⟨E2, q1, q2⟩ := pvC 0 k3 (w32p.ob_sfttf i m.length o (k * 5) g.length g4.length k ((k + 1 : Nat) : Int) x.kind x.n x.at' x.fk x.ft false true true false g _ g3 g4 g5 ob (runF w x).2.length (lastK (runF w x).2 (runF w x).2.length).when 0) ⟨p1, p2, p3, rfl, p4, r16', ldx, r17', r16b, rfl, stz, a_loop pl1 (.add (.add (.add (.add (.add (.add (.add (.add (.add (.add (.add (.add (.add (.add (.nil _) rfl) rfl) rfl) rfl) rfl) rfl) rfl) rfl) rfl) rfl) rfl) rfl) rfl) rfl) i1 i2, a_ld1 i4 rfl, neF (R2 hnow hover), ar, trivial⟩
                    exact next E2 _ q2 (.trans (.add (.add (.add (.add (.nil _) rfl) rfl) rfl) rfl) q1) I6
                | false =>
                  cases hgiven : (stepF w x).given with
                  | true =>
                    rw [hover, hup] at r16'
                    rw [hnow, hgiven] at r16b
                    rw [hover, hup, hnow, hgiven] at i1 i2
                    obtain ⟨E2, q1, q2⟩ := pvC 0 k3 (w32p.ob_sftft i m.length o (k * 5) g.length g4.length k ((k + 1 : Nat) : Int) x.kind x.n x.at' x.fk x.ft false true false true g _ g3 g4 g5 ob (runF w x).2.length 0 0) ⟨p1, p2, p3, rfl, p4, r16', ldx, r17', r16b, rfl, stz, a_loop pl1 (.add (.add (.add (.add (.add (.add (.add (.add (.add (.add (.add (.add (.add (.add (.nil _) rfl) rfl) rfl) rfl) rfl) rfl) rfl) rfl) rfl) rfl) rfl) rfl) rfl) rfl) i1 i2, ar, trivial⟩
                    exact next E2 _ q2 (.trans (.add (.add (.add (.add (.nil _) rfl) rfl) rfl) rfl) q1) I6
                  | false =>
                    rw [hover, hup] at r16'
                    rw [hnow, hgiven] at r16b
                    rw [hover, hup, hnow, hgiven] at i1 i2
                    obtain ⟨E2, q1, q2⟩ := pvC 0 k3 (w32p.ob_sftff i m.length o (k * 5) g.length g4.length k ((k + 1 : Nat) : Int) x.kind x.n x.at' x.fk x.ft false true false false g _ g3 g4 g5 ob (runF w x).2.length 0 0) ⟨p1, p2, p3, rfl, p4, r16', ldx, r17', r16b, rfl, stz, a_loop pl1 (.add (.add (.add (.add (.add (.add (.add (.add (.add (.add (.add (.add (.add (.add (.nil _) rfl) rfl) rfl) rfl) rfl) rfl) rfl) rfl) rfl) rfl) rfl) rfl) rfl) rfl) i1 i2, ar, trivial⟩
                    exact next E2 _ q2 (.trans (.add (.add (.add (.add (.nil _) rfl) rfl) rfl) rfl) q1) I6
              | false =>
                cases hnow : overOf (stepF w x) with
                | true =>
                  cases hgiven : (stepF w x).given with
                  | true =>
                    rw [hover, hup] at r16'
                    rw [hnow, hgiven] at r16b
                    rw [hover, hup, hnow, hgiven] at i1 i2
                    obtain ⟨y, y1, y2⟩ := R3 hgiven hup
                    have hw0 : (Asm.ld1 (.is g5) ob 0 (.int .i64 y.when)).holds Try.prog := a_ld1 i3o (by have := (svC_get y1).1; simpa using this)
                    have hlen0 : (runF w x).2.length ≠ 0 := fun e => by rw [List.length_eq_zero_iff.1 e] at y1; simp at y1
                    obtain ⟨E2, q1, q2⟩ := pvC 0 k3 (w32p.ob_sfftt i m.length o (k * 5) g.length g4.length k ((k + 1 : Nat) : Int) x.kind x.n x.at' x.fk x.ft false false true true g _ g3 g4 g5 ob (runF w x).2.length (lastK (runF w x).2 (runF w x).2.length).when y.when) ⟨p1, p2, p3, rfl, p4, r16', ldx, r17', r16b, rfl, stz, a_loop pl1 (.add (.add (.add (.add (.add (.add (.add (.add (.add (.add (.add (.add (.add (.add (.nil _) rfl) rfl) rfl) rfl) rfl) rfl) rfl) rfl) rfl) rfl) rfl) rfl) rfl) rfl) i1 i2, a_ld1 i4 rfl, neF (R2 hnow hover), eqF (by simp only [Int.ofNat_eq_natCast]; omega), ⟨by omega, by omega, by simp⟩, hw0, neF y2, ar, trivial⟩
                    exact next E2 _ q2 (.trans (.add (.add (.add (.add (.nil _) rfl) rfl) rfl) rfl) q1) I6
                  | false =>
                    rw [hover, hup] at r16'
                    rw [hnow, hgiven] at r16b
                    rw [hover, hup, hnow, hgiven] at i1 i2
                    obtain ⟨E2, q1, q2⟩ := pvC 0 k3 (w32p.ob_sfftf i m.length o (k * 5) g.length g4.length k ((k + 1 : Nat) : Int) x.kind x.n x.at' x.fk x.ft false false true false g _ g3 g4 g5 ob (runF w x).2.length (lastK (runF w x).2 (runF w x).2.length).when 0) ⟨p1, p2, p3, rfl, p4, r16', ldx, r17', r16b, rfl, stz, a_loop pl1 (.add (.add (.add (.add (.add (.add (.add (.add (.add (.add (.add (.add (.add (.add (.nil _) rfl) rfl) rfl) rfl) rfl) rfl) rfl) rfl) rfl) rfl) rfl) rfl) rfl) rfl) i1 i2, a_ld1 i4 rfl, neF (R2 hnow hover), ar, trivial⟩
                    exact next E2 _ q2 (.trans (.add (.add (.add (.add (.nil _) rfl) rfl) rfl) rfl) q1) I6
                | false =>
                  cases hgiven : (stepF w x).given with
                  | true =>
                    rw [hover, hup] at r16'
                    rw [hnow, hgiven] at r16b
                    rw [hover, hup, hnow, hgiven] at i1 i2
                    obtain ⟨y, y1, y2⟩ := R3 hgiven hup
                    have hw0 : (Asm.ld1 (.is g5) ob 0 (.int .i64 y.when)).holds Try.prog := a_ld1 i3o (by have := (svC_get y1).1; simpa using this)
                    have hlen0 : (runF w x).2.length ≠ 0 := fun e => by rw [List.length_eq_zero_iff.1 e] at y1; simp at y1
                    obtain ⟨E2, q1, q2⟩ := pvC 0 k3 (w32p.ob_sffft i m.length o (k * 5) g.length g4.length k ((k + 1 : Nat) : Int) x.kind x.n x.at' x.fk x.ft false false false true g _ g3 g4 g5 ob (runF w x).2.length 0 y.when) ⟨p1, p2, p3, rfl, p4, r16', ldx, r17', r16b, rfl, stz, a_loop pl1 (.add (.add (.add (.add (.add (.add (.add (.add (.add (.add (.add (.add (.add (.add (.nil _) rfl) rfl) rfl) rfl) rfl) rfl) rfl) rfl) rfl) rfl) rfl) rfl) rfl) rfl) i1 i2, eqF (by simp only [Int.ofNat_eq_natCast]; omega), ⟨by omega, by omega, by simp⟩, hw0, neF y2, ar, trivial⟩
                    exact next E2 _ q2 (.trans (.add (.add (.add (.add (.nil _) rfl) rfl) rfl) rfl) q1) I6
                  | false =>
                    rw [hover, hup] at r16'
                    rw [hnow, hgiven] at r16b
                    rw [hover, hup, hnow, hgiven] at i1 i2
                    obtain ⟨E2, q1, q2⟩ := pvC 0 k3 (w32p.ob_sffff i m.length o (k * 5) g.length g4.length k ((k + 1 : Nat) : Int) x.kind x.n x.at' x.fk x.ft false false false false g _ g3 g4 g5 ob (runF w x).2.length 0 0) ⟨p1, p2, p3, rfl, p4, r16', ldx, r17', r16b, rfl, stz, a_loop pl1 (.add (.add (.add (.add (.add (.add (.add (.add (.add (.add (.add (.add (.add (.add (.nil _) rfl) rfl) rfl) rfl) rfl) rfl) rfl) rfl) rfl) rfl) rfl) rfl) rfl) rfl) i1 i2, ar, trivial⟩
                    exact next E2 _ q2 (.trans (.add (.add (.add (.add (.nil _) rfl) rfl) rfl) rfl) q1) I6)
    m.length [(40, .int .i64 ((0 : Nat) : Int)), (39, .int .i64 (Int.ofNat m.length)), (38, vs), (5, .pointer (some ⟨i, 0, none⟩))] g0 ⟨0, by omega, rfl, EnvLe.refl _, I⟩
  exact ⟨E1, g1, hl1⟩

theorem orders_run {h : Hp} {v vl : Value} {l : List SvV} {ops : List OpV} (s : SpecV) (hS : SlAt h v l) (hO : OpsAt h vl ops) : ∃ h', Run Try.prog 4 [.agg (s.cells v).toArray, vl] h (.bool true) h' := by
  obtain ⟨r, m, wi, ba, ca⟩ := s
  let S : Value → List Value := fun v => SpecV.cells ⟨r, m, wi, ba, ca⟩ v
  let hA : Hp := h ++ [AObj.cells (S v) true]
  have KA : Keep (fun _ => False) h hA := Keep.push _ _ _
  have gb : hA[h.length]? = some (.cells (S v) true) := get_new h _
  have ld0 : (Asm.ldn (.push (.is h) (.cells (S v) true)) h.length 0 6 (S v)).holds Try.prog := a_ldn gb (by simp [S, SpecV.cells]) rfl
  obtain ⟨v', hB, r1, SB, KB⟩ := clipped_run ⟨r, m, wi, ba, ca⟩ (hS.keep KA)
  have hBl := KB.1
  simp [hA] at hBl
  rcases new_run ⟨r, m, wi, ba, ca⟩ SB with ⟨e, hD, rN, KN⟩ | ⟨e, i, j, hD, rN, KN, W, hi, hj⟩
  · exact ⟨hD, pvF 0 Try.func4 (w32p.or_bad h.length r m wi ba ca _ v v' vl h hB hD) ⟨rfl, ld0, r1, rN, neT e, awake_run _, trivial⟩⟩
  · obtain ⟨hw0, hwl, hh, hall⟩ := newW_ok e
    let w0 := newW ⟨r, m, wi, ba, ca⟩ (clipF l)
    have I0 : In hD.length i j w0 hD hD := ⟨⟨none, W, fun q e => by cases e⟩, .refl _ _, Nat.le_refl _⟩
    have hDl := KN.1
    have nf : ∀ q, q < hB.length → ¬ fpB i j hD.length q := fun q hq e => by rcases e with e | e | e <;> omega
    have pl : plainC (loopN Try.f4 0) = true := by kernel_rfl
    have hstates : ∀ x ∈ w0.svs, 1 ≤ x.state ∧ x.state ≤ 5 := fun x hx => by
      simp only [w0, newW, List.mem_map] at hx
      obtain ⟨y, _, rfl⟩ := hx
      simp [sv0]
    rcases hO with ⟨rfl, _⟩ | ⟨o, rwo, rfl, ho⟩
    · exact ⟨hD, pvF 0 Try.func4 (w32p.or_nil h.length i r m wi ba ca v v' h hB hD hD) ⟨rfl, ld0, r1, rN, neF rfl, by simp [Asm.holds], by simp [Asm.holds, cmpB], awake_run _, trivial⟩⟩
    · have hol := get_lt ho
      have hoD := KN.2 _ _ (KB.2 _ _ (KA.2 _ _ ho id) id) id
      have htl : (ops.take 100).length = min ops.length 100 := by simp [Nat.min_comm]
      obtain ⟨E1, g1, hl1⟩ := orders_loop (m := ops.take 100) (l := ops) (vs := .slice (some ⟨o, 0, none⟩) (ops.take 100).length 5) (by omega) (fun q x hx => by
        rw [List.getElem?_take] at hx
        split at hx
        · exact hx
        · cases hx) (.inr ⟨o, rwo, rfl, hoD, nf o (by omega)⟩) I0 hw0 rfl hstates
      rw [htl] at hl1
      exact ⟨g1, pvF 0 Try.func4 (w32p.or_all h.length i r m wi ba ca v v' h hB hD g1 o ops.length (min ops.length 100))
        ⟨rfl, ld0, r1, rN, neF rfl, .inr ⟨rfl, by simp only [Int.ofNat_eq_natCast]; split <;> omega⟩, a_cut (by omega), a_loop pl (.add (.add (.add (.add (.nil _) rfl) rfl) rfl) rfl) (.nil _) hl1, awake_run _, trivial⟩⟩

end Go.Proofs.Ytkkhokgpcifckaa.wd
