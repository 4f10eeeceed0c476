import Derived.Test.YtalfgifleahabaaGreatDoorSbEvDrawB
namespace Go.Ev
open Go.RowKit

variable {P : Program} {C : CallF}
variable {B : Bs} {w0 : World} {m : Pl} {h h' : Hp} {w : World} {E E' : Env} {a : Act} {n nn : Nat} {rd : Option Nat} {ops : Array Oper}

/-! ### Which operations come ahead -/
inductive AncP (ops : Array Oper) : Nat → Nat → Prop
  | one {i j : Nat} {o : Oper} (ho : ops[j]? = some o) {e : Edge} (he : e ∈ o.after) (hb : Region.binds .any e = true) (hi : e.on = i) : AncP ops i j
  | more {i k j : Nat} (h1 : AncP ops i k) (h2 : AncP ops k j) : AncP ops i j

theorem testBit_or {x y i : Nat} : Nat.testBit (x ||| y) i = (Nat.testBit x i || Nat.testBit y i) := Nat.testBit_or x y i

theorem foldl_anc (acc : List Nat) (i : Nat) : ∀ (l : List Edge) (s : Nat), Nat.testBit (l.foldl (fun s e => match Region.binds .any e with
    | true => s ||| 2 ^ e.on ||| acc.getD e.on 0
    | false => s) s) i = true → Nat.testBit s i = true ∨ ∃ e ∈ l, Region.binds .any e = true ∧ (e.on = i ∨ Nat.testBit (acc.getD e.on 0) i = true)
  | [], s, hb => .inl hb
  | e :: l, s, hb => by
    simp only [List.foldl_cons] at hb
    rcases foldl_anc acc i l _ hb with h1 | ⟨e', he', h2⟩
    · cases hbd : Region.binds .any e with
      | true =>
        simp only [hbd, testBit_or, Bool.or_eq_true] at h1
        rcases h1 with (h1 | h1) | h1
        · exact .inl h1
        · refine .inr ⟨e, by simp, hbd, .inl ?_⟩
          simpa [Nat.testBit_two_pow] using h1
        · exact .inr ⟨e, by simp, hbd, .inr h1⟩
      | false => simp only [hbd] at h1; exact .inl h1
    · exact .inr ⟨e', by simp [he'], h2⟩

theorem ancs_spec : ∀ (l : List Oper) (acc : List Nat), (∀ k, k < l.length → l[k]? = ops[acc.length + k]?) → (∀ j i, Nat.testBit (acc.getD j 0) i = true → AncP ops i j) →
    ∀ j i, Nat.testBit ((ancs l acc).getD j 0) i = true → AncP ops i j
  | [], acc, _, hacc => hacc
  | o :: l, acc, hl, hacc => by
    simp only [ancs]
    refine ancs_spec l _ (fun k hk => ?_) fun j i hb => ?_
    · have := hl (k + 1) (by simp; omega)
      simp only [List.getElem?_cons_succ] at this
      rw [this]; congr 1; simp; omega
    · rcases Nat.lt_trichotomy j acc.length with hj | hj | hj
      · refine hacc j i ?_
        simpa [List.getD_eq_getElem?_getD, List.getElem?_append_left hj] using hb
      · subst hj
        have ho : ops[acc.length]? = some o := by have := hl 0 (by simp); simpa using this.symm
        simp only [List.getD_eq_getElem?_getD, List.getElem?_append_right (Nat.le_refl _), Nat.sub_self, List.getElem?_cons_zero, Option.getD_some] at hb
        rcases foldl_anc acc i _ 0 hb with h1 | ⟨e, he, hbd, h2⟩
        · simp at h1
        · rcases h2 with h2 | h2
          · exact .one ho (by simpa using he) hbd h2
          · exact .more (hacc _ _ h2) (.one ho (by simpa using he) hbd rfl)
      · rw [List.getD_eq_getElem?_getD, List.getElem?_eq_none (by simp; omega)] at hb
        simp at hb

theorem anc_spec {i j : Nat} (ha : anc (ancs ops.toList []) i j = true) : AncP ops i j := by
  refine ancs_spec ops.toList [] (fun k hk => by simp) (fun j i hb => ?_) j i ha
  simp at hb

def Closed (ops : Array Oper) (L : Array Bool) : Prop := ∀ j oj, ops[j]? = some oj → L.getD j false = true → ∀ e ∈ oj.after, Region.binds .any e = true → L.getD e.on false = true

theorem AncP.closed {L : Array Bool} (hc : Closed ops L) {i j : Nat} (ha : AncP ops i j) : L.getD j false = true → L.getD i false = true := by
  induction ha with
  | one ho he hb hi => intro hj; subst hi; exact hc _ _ ho hj _ he hb
  | more _ _ ih1 ih2 => intro hj; exact ih1 (ih2 hj)

/-! ### What the static look gives -/
theorem memN_iff {d : Nat} : ∀ {l : List Nat}, memN d l = true ↔ d ∈ l
  | [] => by simp [memN]
  | x :: l => by
    simp only [memN]
    by_cases hx : x = d
    · subst hx; simp
    · have : Nat.beq x d = false := by
        cases hb : Nat.beq x d with
        | false => rfl
        | true => exact absurd (Nat.eq_of_beq_eq_true hb) hx
      rw [this]
      simp only [memN_iff, List.mem_cons]
      exact ⟨.inr, fun h => h.resolve_left (fun e => hx e.symm)⟩

theorem writes_iff {o : Oper} {d : Nat} : writes o d = true ↔ o.dst = some d := by
  unfold writes
  cases h : o.dst with
  | none => simp
  | some x => simp

structure StatOk (ops : Array Oper) : Prop where
  sel : ∀ (j : Nat) (o : Oper) cs b, ops[j]? = some o → o.op ≠ .select cs b
  edge : ∀ (j : Nat) (o : Oper), ops[j]? = some o → ∀ e ∈ o.after, Region.binds .any e = true → e.on < j
  pair : ∀ (i j : Nat) (x y : Oper), ops[i]? = some x → ops[j]? = some y → i < j → bound ops x y = true → AncP ops i j

theorem mem_zipIdx {j : Nat} {o : Oper} (ho : ops[j]? = some o) : (o, j) ∈ ops.toList.zipIdx := by
  rw [List.mem_zipIdx_iff_getElem?]
  simpa using ho

theorem statOk_spec (hs : statOk ops = true) : StatOk ops := by
  unfold statOk at hs
  simp only [List.all_eq_true] at hs
  refine ⟨fun j o cs b ho hsel => ?_, fun j o ho e he hb => ?_, fun i j x y hx hy hij hbd => ?_⟩
  · have := hs _ (mem_zipIdx ho)
    simp only [hsel, Bool.and_false, Bool.false_and, Bool.false_eq_true] at this
  · have := hs _ (mem_zipIdx ho)
    simp only [Bool.and_eq_true] at this
    have h1 := this.1.1
    unfold edgesOk at h1
    have h2 := List.all_eq_true.1 h1 e (by simpa using he)
    rw [hb] at h2
    exact Nat.le_of_ble_eq_true (show Nat.ble (e.on + 1) j = true from h2)
  · have := hs _ (mem_zipIdx hy)
    simp only [Bool.and_eq_true, List.all_eq_true] at this
    have h1 := this.2 _ (mem_zipIdx hx)
    unfold pairOk at h1
    have hb : Nat.blt i j = true := Nat.ble_eq_true_of_le hij
    rw [hb, hbd] at h1
    exact anc_spec h1

theorem bound_spec {x y : Oper} (h : bound ops x y = false) : (∀ d, x.dst = some d → d ∉ readsOf ops y ∧ y.dst ≠ some d) ∧ (∀ d, y.dst = some d → d ∉ readsOf ops x) := by
  unfold bound at h
  simp only [Bool.or_eq_false_iff] at h
  refine ⟨fun d hd => ?_, fun d hd => ?_⟩
  · have h1 := h.1.1
    rw [hd] at h1
    simp only [Bool.or_eq_false_iff] at h1
    exact ⟨fun hm => by rw [memN_iff.2 hm] at h1; simp at h1, fun hw => by rw [writes_iff.2 hw] at h1; simp at h1⟩
  · have h1 := h.1.2
    rw [hd] at h1
    exact fun hm => by simp only [memN_iff.2 hm] at h1; cases h1

/-! ### The run in the order of the text -/
/-- The states ahead of each operation, and at the end. -/
structure Tr (P : Program) (C : CallF) (n : Nat) (ops : Array Oper) (st : Nat → Env × Hp) : Prop where
  step : ∀ i o, ops[i]? = some o → ∃ v, stepO P C ops o (st i).1 (st i).2 = some (v, (st (i + 1)).2) ∧ putE n (st i).1 o.dst v = some (st (i + 1)).1

theorem traceO_len : ∀ (l : List Oper) {E : Env} {h : Hp} {tr : List (Env × Hp)}, traceO P C n ops l E h = some tr → tr.length = l.length + 1 ∧ tr[0]? = some (E, h)
  | [], E, h, tr, ht => by simp only [traceO] at ht; cases ht; simp
  | o :: l, E, h, tr, ht => by
    simp only [traceO] at ht
    split at ht
    · split at ht
      · split at ht
        · rename_i tr' htr
          cases ht
          have := traceO_len l htr
          simp [this.1]
        · cases ht
      · cases ht
    · cases ht

theorem traceO_step : ∀ (l : List Oper) {E : Env} {h : Hp} {tr : List (Env × Hp)}, traceO P C n ops l E h = some tr → ∀ i o, l[i]? = some o →
    ∃ E1 h1 E2 h2 v, tr[i]? = some (E1, h1) ∧ tr[i + 1]? = some (E2, h2) ∧ stepO P C ops o E1 h1 = some (v, h2) ∧ putE n E1 o.dst v = some E2
  | [], _, _, _, _, i, o, ho => by simp at ho
  | x :: l, E, h, tr, ht, i, o, ho => by
    simp only [traceO] at ht
    split at ht
    · rename_i v h2 hst
      split at ht
      · rename_i E2 hput
        split at ht
        · rename_i tr' htr
          cases ht
          cases i with
          | zero =>
            simp at ho; subst ho
            exact ⟨E, h, E2, h2, v, rfl, by simpa using (traceO_len l htr).2, hst, hput⟩
          | succ i =>
            obtain ⟨E1, h1, E3, h3, u, k1, k2, k3, k4⟩ := traceO_step l htr i o (by simpa using ho)
            exact ⟨E1, h1, E3, h3, u, by simpa using k1, by simpa using k2, k3, k4⟩
        · cases ht
      · cases ht
    · cases ht

theorem traceO_Tr {E : Env} {h : Hp} {tr : List (Env × Hp)} (ht : traceO P C n ops ops.toList E h = some tr) : Tr P C n ops (fun i => tr.getD i ([], [])) := by
  refine ⟨fun i o ho => ?_⟩
  obtain ⟨E1, h1, E2, h2, v, k1, k2, k3, k4⟩ := traceO_step ops.toList ht i o (by simpa using ho)
  exact ⟨v, by simp [List.getD_eq_getElem?_getD, k1, k2, k3], by simp [List.getD_eq_getElem?_getD, k1, k2, k4]⟩

theorem evOps_trace : ∀ (l : List Oper) {E : Env} {h : Hp}, evOps P C n ops l E h = some (E', h') → ∃ tr, traceO P C n ops l E h = some tr ∧ tr[l.length]? = some (E', h')
  | [], E, h, ho => by simp only [evOps] at ho; cases ho; exact ⟨_, rfl, rfl⟩
  | o :: l, E, h, ho => by
    simp only [evOps] at ho
    have key : ∀ {v : Value} {h1 : Hp} {E1 : Env}, stepO P C ops o E h = some (v, h1) → putE n E o.dst v = some E1 → evOps P C n ops l E1 h1 = some (E', h') →
        ∃ tr, traceO P C n ops (o :: l) E h = some tr ∧ tr[(o :: l).length]? = some (E', h') := by
      intro v h1 E1 k1 k2 k3
      obtain ⟨tr, t1, t2⟩ := evOps_trace l k3
      exact ⟨(E, h) :: tr, by simp [traceO, k1, k2, t1], by simpa using t2⟩
    split at ho
    · rename_i hw
      split at ho
      · rename_i v h1 hst
        split at ho
        · rename_i E1 hput; exact key (by simp [stepO, hw, hst]) hput ho
        · cases ho
      · cases ho
    · rename_i hw
      split at ho
      · rename_i E1 hput; exact key (by simp [stepO, hw]) hput ho
      · cases ho
    · cases ho

/-- A slot that nobody writes between two places reads the same at both. -/
theorem Tr.keep {st : Nat → Env × Hp} (ht : Tr P C n ops st) {t : Nat} : ∀ (d p : Nat), (∀ i, p ≤ i → i < p + d → ∀ o, ops[i]? = some o → o.dst ≠ some t) → p + d ≤ ops.size → look (st (p + d)).1 t = look (st p).1 t
  | 0, p, _, _ => rfl
  | d + 1, p, hw, hle => by
    have ih := ht.keep d p (fun i h1 h2 => hw i h1 (by omega)) (by omega)
    rw [← ih]
    have hlt : p + d < ops.size := by omega
    obtain ⟨v, _, hput⟩ := ht.step (p + d) ops[p + d] (Array.getElem?_eq_getElem hlt)
    have hne := hw (p + d) (by omega) (by omega) _ (Array.getElem?_eq_getElem hlt)
    show look (st (p + d + 1)).1 t = _
    unfold putE at hput
    cases hd : ops[p + d].dst with
    | none => rw [hd] at hput; simp only [Option.some.injEq] at hput; rw [← hput]
    | some x =>
      rw [hd] at hput hne
      simp only at hput
      split at hput
      · simp only [Option.some.injEq] at hput
        rw [← hput, look_cons, if_neg (fun e => hne (by rw [e]))]
      · cases hput

/-- The slot that an operation writes, as long as nobody writes it again. -/
theorem Tr.wrote {st : Nat → Env × Hp} (ht : Tr P C n ops st) {j p t : Nat} {o : Oper} (hj : ops[j]? = some o) (hd : o.dst = some t) {v : Value} (hst : stepO P C ops o (st j).1 (st j).2 = some (v, (st (j + 1)).2))
    (hjp : j < p) (hp : p ≤ ops.size) (hw : ∀ i, j < i → i < p → ∀ o, ops[i]? = some o → o.dst ≠ some t) : look (st p).1 t = some v := by
  have := ht.keep (t := t) (p - (j + 1)) (j + 1) (fun i h1 h2 => hw i (by omega) (by omega)) (by omega)
  rw [show j + 1 + (p - (j + 1)) = p by omega] at this
  rw [this]
  obtain ⟨v', h1, hput⟩ := ht.step j o hj
  rw [hst] at h1
  cases h1
  unfold putE at hput
  rw [hd] at hput
  simp only at hput
  split at hput
  · simp only [Option.some.injEq] at hput
    rw [← hput, look_cons, if_pos rfl]
  · cases hput

theorem kind_alloc_ev {o : Oper} {out : Out} (hk : kindOf o = .alloc) (ho : evOp P h E o = some out) : ∃ v ob, out = .val v (h ++ [ob]) ∧ ob.ng = true := by
  unfold evOp at ho
  cases hop : o.op with
  | alloc t =>
    rw [hop] at ho
    obtain ⟨v, h', h1, rfl⟩ := newO_some ho
    unfold evAlloc at h1
    split at h1
    · split at h1
      · cases h1; exact ⟨_, _, rfl, rfl⟩
      · cases h1
    · cases h1
  | makeMap t r =>
    rw [hop] at ho
    cases r with
    | some r => cases ho
    | none =>
      obtain ⟨v, h', h1, rfl⟩ := newO_some ho
      cases h1
      exact ⟨_, _, rfl, rfl⟩
  | box t x =>
    rw [hop] at ho
    obtain ⟨v, h1, h2⟩ := v1_some ho
    obtain ⟨r, h', h3, rfl⟩ := newO_some h2
    cases h3
    exact ⟨_, _, rfl, rfl⟩
  | buildSlice t len ps =>
    rw [hop] at ho
    simp only [] at ho
    split at ho
    · obtain ⟨v, h', h1, rfl⟩ := newO_some ho
      unfold evBuildSlice at h1
      split at h1
      · split at h1
        · split at h1
          · split at h1
            · cases h1; exact ⟨_, _, rfl, rfl⟩
            · cases h1
          · cases h1
        · cases h1
      · cases h1
    · cases ho
  | makeSlice t x y =>
    rw [hop] at ho
    obtain ⟨a1, b1, h1, h2, h3⟩ := v2_some ho
    split at h3
    · obtain ⟨v, h', h4, rfl⟩ := newO_some h3
      unfold evMakeSlice at h4
      split at h4
      · split at h4
        · split at h4
          · split at h4
            · cases h4; exact ⟨_, _, rfl, rfl⟩
            · cases h4
          · cases h4
        · cases h4
      · cases h4
    · cases h3
  | call c => simp only [kindOf, hop] at hk; split at hk <;> cases hk
  | _ => simp only [kindOf, hop] at hk; cases hk

/-- What does not turn memory hands back a value, and makes one object at most. -/
theorem kind_minor {o : Oper} {out : Out} (hk : kindOf o ≠ .major) (ho : evOp P h E o = some out) : ∃ v os, out = .val v (h ++ os) ∧ ∀ o ∈ os, o.ng = true := by
  cases hkk : kindOf o with
  | major => exact absurd hkk hk
  | pure => obtain ⟨u, e, _⟩ := kind_pure hkk ho; exact ⟨u, [], by simpa using e, by simp⟩
  | read => obtain ⟨u, e, _⟩ := kind_read hkk ho; exact ⟨u, [], by simpa using e, by simp⟩
  | alloc => obtain ⟨u, ob, e, hng⟩ := kind_alloc_ev hkk ho; exact ⟨u, [ob], e, by simpa using hng⟩

theorem stepO_minor {o : Oper} {v : Value} (hk : kindOf o ≠ .major) (hs : stepO P C ops o E h = some (v, h')) : ∃ os, h' = h ++ os ∧ ∀ o ∈ os, o.ng = true := by
  unfold stepO at hs
  split at hs
  · unfold evStep at hs
    split at hs
    · rename_i v1 h1 hop
      obtain ⟨u, os, e, hng⟩ := kind_minor hk hop
      simp only [Option.some.injEq, Prod.mk.injEq] at hs
      cases e
      exact ⟨os, hs.2.symm, hng⟩
    · rename_i f args hop
      obtain ⟨u, os, e, _⟩ := kind_minor hk hop
      cases e
    · rename_i f args hop
      obtain ⟨u, os, e, _⟩ := kind_minor hk hop
      cases e
    · cases hs
  · simp only [Option.some.injEq, Prod.mk.injEq] at hs
    exact ⟨[], by simp [hs.2], by simp⟩
  · cases hs

/-- Between two places with nothing that turns memory in between, objects are only made. -/
theorem Tr.grow {st : Nat → Env × Hp} (ht : Tr P C n ops st) : ∀ (d p : Nat), (∀ i, p ≤ i → i < p + d → ∀ o, ops[i]? = some o → kindOf o ≠ .major) → p + d ≤ ops.size → ∃ os, (st (p + d)).2 = (st p).2 ++ os ∧ ∀ o ∈ os, o.ng = true
  | 0, p, _, _ => ⟨[], by simp, by simp⟩
  | d + 1, p, hw, hle => by
    obtain ⟨os, hos, hn1⟩ := ht.grow d p (fun i h1 h2 => hw i h1 (by omega)) (by omega)
    have hlt : p + d < ops.size := by omega
    obtain ⟨v, hst, _⟩ := ht.step (p + d) ops[p + d] (Array.getElem?_eq_getElem hlt)
    have hk := hw (p + d) (by omega) (by omega) _ (Array.getElem?_eq_getElem hlt)
    have key : ∃ os', (st (p + d + 1)).2 = (st (p + d)).2 ++ os' ∧ ∀ o ∈ os', o.ng = true := stepO_minor hk hst
    obtain ⟨os', hos', hn2⟩ := key
    exact ⟨os ++ os', by rw [show p + (d + 1) = p + d + 1 by omega, hos', hos, List.append_assoc], fun o ho => (List.mem_append.1 ho).elim (hn1 o) (hn2 o)⟩

end Go.Ev
