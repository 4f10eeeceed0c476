import Derived.Test.YtalfgifleahabaaGreatDoorSbEvDrawC
import Derived.Test.YtalfgifleahabaaGreatDoorSbEvDrawP
namespace Go.Ev
open Go.RowKit

variable {P : Program} {C : CallF}
variable {B : Bs} {w0 : World} {m m0 : Pl} {h h' : Hp} {w : World} {E E' : Env} {a : Act} {n nn : Nat} {rd : Option Nat} {ops : Array Oper} {st : Nat → Env × Hp} {ds : List Deferred}

def restrictE (E : Env) : List Nat → Env
  | [] => []
  | t :: l => match look E t with
    | some v => (t, v) :: restrictE E l
    | none => restrictE E l

theorem restrictE_look {t : Nat} : ∀ {l : List Nat} {v : Value}, look (restrictE E l) t = some v → t ∈ l ∧ look E t = some v
  | [], v, h => by simp [restrictE, look] at h
  | x :: l, v, h => by
    simp only [restrictE] at h
    split at h
    · rename_i u hu
      rw [look_cons] at h
      split at h
      · rename_i e; subst e; cases h; exact ⟨by simp, hu⟩
      · have := restrictE_look h; exact ⟨by simp [this.1], this.2⟩
    · have := restrictE_look h; exact ⟨by simp [this.1], this.2⟩

theorem restrictE_mem {t : Nat} : ∀ {l : List Nat}, t ∈ l → look (restrictE E l) t = look E t
  | x :: l, h => by
    simp only [restrictE]
    by_cases hx : x = t
    · subst hx
      split
      · rename_i u hu; rw [look_cons, if_pos rfl, hu]
      · rename_i hu
        rw [hu]
        cases hl : look (restrictE E l) x with
        | none => rfl
        | some v => rw [(restrictE_look hl).2] at hu; cases hu
    · have ht : t ∈ l := by
        rcases List.mem_cons.1 h with e | h
        · exact absurd e.symm hx
        · exact h
      split
      · rw [look_cons, if_neg hx]; exact restrictE_mem ht
      · exact restrictE_mem ht

theorem wantedO_congr {o : Oper} (ha : ∀ t ∈ readsOf ops o, look E t = look E' t) : wantedO ops E o = wantedO ops E' o := by
  unfold wantedO
  cases hg : o.guard with
  | none => rfl
  | some g =>
    obtain ⟨j, want⟩ := g
    simp only []
    cases hd : (ops[j]?).bind (·.dst) with
    | none => rfl
    | some d =>
      simp only []
      rw [ha d (by simp [readsOf, hg, hd])]

theorem evStep_congr {o : Oper} (ha : ∀ t ∈ readsOf ops o, look E t = look E' t) : evStep P C h E o = evStep P C h E' o := by
  unfold evStep
  rw [evOp_congr (P := P) (h := h) (E := E) (E' := E') fun t ht => ha t (by simp only [readsOf, List.mem_append]; exact .inr (mem_tmpsOf ht))]

theorem count_set {j : Nat} : ∀ {l : List Bool}, l[j]? = some false → (l.set j true).count false + 1 = l.count false := by
  induction j with
  | zero =>
    intro l h
    cases l with
    | nil => simp at h
    | cons x l => simp at h; subst h; simp
  | succ j ih =>
    intro l h
    cases l with
    | nil => simp at h
    | cons x l =>
      simp only [List.getElem?_cons_succ] at h
      simp only [List.set_cons_succ, List.count_cons]
      have := ih h
      omega

/-- What holds when the operations of 'L' have come up. -/
structure DInv (P : Program) (C : CallF) (B : Bs) (w0 : World) (m0 : Pl) (n : Nat) (ops : Array Oper) (st : Nat → Env × Hp) (ds : List Deferred) (L : Array Bool) (a : Act) (w : World) : Prop where
  size : L.size = ops.size
  closed : Closed ops L
  n : a.tmps.size = n
  ds : a.defers = ds
  ex : ∃ m q, (Stp m0 (st 0).2 m (st q).2 ∧ ∀ p, p < q → (st p).2.length ≤ (st (p + 1)).2.length) ∧ Sim B w0 m (st q).2 w ∧ q ≤ ops.size ∧ (∀ i o, i < q → ops[i]? = some o → kindOf o = .major → L.getD i false = true) ∧
    (∀ o, ops[q]? = some o → kindOf o = .major ∧ L.getD q false = false) ∧
    (∀ p t v, p ≤ ops.size → look (st p).1 t = some v → (∀ i o, i < p → ops[i]? = some o → o.dst = some t → L.getD i false = true) →
      (∀ i o, p ≤ i → ops[i]? = some o → o.dst = some t → L.getD i false = false) → ∃ u, a.tmps[t]? = some u ∧ VRel m v u) ∧
    (∀ j o, j < q → ops[j]? = some o → kindOf o = .alloc → L.getD j false = false → wantedO ops (st j).1 o = some true → m (st j).2.length = none)

/-- The next operation that may turn memory. -/
theorem next_major (ops : Array Oper) : ∀ (d p : Nat), p + d = ops.size → ∃ q, p ≤ q ∧ q ≤ ops.size ∧ (∀ i o, p ≤ i → i < q → ops[i]? = some o → kindOf o ≠ .major) ∧ (∀ o, ops[q]? = some o → kindOf o = .major)
  | 0, p, hp => ⟨p, Nat.le_refl _, by omega, fun i o h1 h2 => by omega, fun o ho => by have := (Array.getElem?_eq_some_iff.1 ho).1; omega⟩
  | d + 1, p, hp => by
    have hlt : p < ops.size := by omega
    cases hk : kindOf ops[p] with
    | major => exact ⟨p, Nat.le_refl _, by omega, fun i o h1 h2 => by omega, fun o ho => by rw [Array.getElem?_eq_getElem hlt] at ho; cases ho; exact hk⟩
    | _ =>
      obtain ⟨q, h1, h2, h3, h4⟩ := next_major ops d (p + 1) (by omega)
      refine ⟨q, by omega, h2, fun i o k1 k2 ho => ?_, h4⟩
      rcases Nat.lt_or_ge p i with hpi | hpi
      · exact h3 i o hpi k2 ho
      · have : i = p := by omega
        subst this
        rw [Array.getElem?_eq_getElem hlt] at ho
        cases ho
        rw [hk]; simp

theorem getD_set {L : Array Bool} {i j : Nat} (hj : j < L.size) : (L.setIfInBounds j true).getD i false = if i = j then true else L.getD i false := by
  by_cases e : i = j
  · subst e; simp [Array.getD_eq_getD_getElem?, hj]
  · simp [Array.getD_eq_getD_getElem?, e, Ne.symm e]

/-- The reader's value is the same wherever it comes up. -/
def PairsOk (P : Program) (ops : Array Oper) (st : Nat → Env × Hp) : Prop := ∀ i j x y, ops[i]? = some x → ops[j]? = some y → kindOf x = .read → kindOf y = .major → ¬ AncP ops i j → ¬ AncP ops j i →
  wantedO ops (st i).1 x = some true → ∀ v, evOp P (st i).2 (st i).1 x = some (.val v (st i).2) → evOp P (st j).2 (st i).1 x = some (.val v (st j).2) ∧ evOp P (st (j + 1)).2 (st i).1 x = some (.val v (st (j + 1)).2)

/-- What a maker makes is not turned by what may come up ahead of it though it stands behind. -/
def MadesOk (ops : Array Oper) (st : Nat → Env × Hp) : Prop := ∀ i j x y, ops[i]? = some x → ops[j]? = some y → kindOf x = .alloc → kindOf y = .major → i < j → ¬ AncP ops i j →
  wantedO ops (st i).1 x = some true → ∀ ob, (st j).2[(st i).2.length]? = some ob → (st (j + 1)).2[(st i).2.length]? = some ob

theorem mono_of {st : Nat → Env × Hp} {q : Nat} (h : ∀ p, p < q → (st p).2.length ≤ (st (p + 1)).2.length) : ∀ (d p : Nat), p + d ≤ q → (st p).2.length ≤ (st (p + d)).2.length
  | 0, p, _ => Nat.le_refl _
  | d + 1, p, hd => Nat.le_trans (mono_of h d p (by omega)) (h (p + d) (by omega))

/-- What is asked of operations that may turn memory. (E0: the frame at the start; what nobody writes is still there.) -/
def MajorSnd (P : Program) (C : CallF) (B : Bs) (w0 : World) (m0 : Pl) (h0 : Hp) (n : Nat) (ops : Array Oper) (E0 : Env) (ds : List Deferred) (rd : Option Nat) (nn : Nat) (Q : Exit → Act → World → Prop) : Prop :=
  ∀ {m : Pl} {h : Hp} {w : World} {E : Env} {a : Act} {o : Oper} {v : Value} {h' : Hp} {next : Act → World → Prop}, Stp m0 h0 m h → Sim B w0 m h w → EnvRel m E a.tmps → a.tmps.size = n → a.defers = ds →
    (∀ t v, look E0 t = some v → (∀ (i : Nat) o, ops[i]? = some o → o.dst ≠ some t) → ∃ u, a.tmps[t]? = some u ∧ VRel m v u) → evStep P C h E o = some (v, h') →
    (∀ m' u w', Stp m h m' h' → Sim B w0 m' h' w' → VRel m' v u → next (a.put o.dst u) w') → o.wpIn (Fr rd) nn P a w next Q
theorem CSnd.major (hC : CSnd P C) {h0 : Hp} {E0 : Env} {Q : Exit → Act → World → Prop} : MajorSnd P C B w0 m0 h0 n ops E0 ds rd nn Q :=
  fun _ s he _ _ _ ho hk => evStep_snd hC s he ho hk

theorem draw_step {Q : Exit → Act → World → Prop} (hC : MajorSnd P C B w0 m0 (st 0).2 n ops (st 0).1 ds rd nn Q) (hso : StatOk ops) (ht : Tr P C n ops st) (hpo : PairsOk P ops st) (hmo : MadesOk ops st) {L : Array Bool} (inv : DInv P C B w0 m0 n ops st ds L a w) {j : Nat}
    (hr : j ∈ Region.ready .any ops L) : wpOpIn (Fr rd) nn P ops Q j (DInv P C B w0 m0 n ops st ds (L.setIfInBounds j true)) a w := by
  obtain ⟨hun, o, ho, hall⟩ := mem_ready.1 hr
  have hjs : j < ops.size := (Array.getElem?_eq_some_iff.1 ho).1
  have hjL : j < L.size := by rw [inv.size]; exact hjs
  have hunf : L.getD j false = false := by
    simp [Array.getD_eq_getD_getElem?, hjL] at hun ⊢; exact hun
  obtain ⟨m, q, ⟨hm0, hlen⟩, hsim, hq, hmaj, hqm, hregs, hnews⟩ := inv.ex
  have hmono : ∀ p p', p ≤ p' → p' ≤ q → (st p).2.length ≤ (st p').2.length := fun p p' h1 h2 => by
    have := mono_of hlen (p' - p) p (by omega)
    rwa [show p + (p' - p) = p' by omega] at this
  obtain ⟨v, hst, hput⟩ := ht.step j o ho
  -- ahead of j all has come up that must; nothing has that must wait for it
  have hanc : ∀ i, AncP ops i j → L.getD i false = true := by
    intro i hi
    have hc' : Closed ops (L.setIfInBounds j true) := by
      intro k ok hk hl e he hb
      rw [getD_set hjL] at hl ⊢
      split at hl
      · rename_i e1; subst e1
        rw [ho] at hk; cases hk
        rw [hall e he hb]; split <;> rfl
      · rw [inv.closed k ok hk hl e he hb]; split <;> rfl
    have h1 := hi.closed hc' (by rw [getD_set hjL, if_pos rfl])
    rw [getD_set hjL] at h1
    split at h1
    · rename_i e; subst e
      -- an operation ahead of itself
      have hlt : ∀ {x y : Nat}, AncP ops x y → x < y := by
        intro x y hxy
        induction hxy with
        | one ho he hb hi => subst hi; exact hso.edge _ _ ho _ he hb
        | more _ _ ih1 ih2 => omega
      exact absurd (hlt hi) (Nat.lt_irrefl _)
    · exact h1
  have hlate : ∀ i, AncP ops j i → L.getD i false = false := by
    intro i hi
    cases hl : L.getD i false with
    | false => rfl
    | true => rw [hi.closed inv.closed hl] at hunf; cases hunf
  -- two operations out of place
  have hord : ∀ i y, ops[i]? = some y → i ≠ j → (if i < j then L.getD i false = false else L.getD i false = true) → bound ops (if i < j then y else o) (if i < j then o else y) = false := by
    intro i y hy hij hl
    by_cases hlt : i < j
    · rw [if_pos hlt] at hl ⊢
      rw [if_pos hlt]
      cases hb : bound ops y o with
      | false => rfl
      | true => rw [hanc i (hso.pair i j y o hy ho hlt hb)] at hl; cases hl
    · rw [if_neg hlt] at hl ⊢
      rw [if_neg hlt]
      cases hb : bound ops o y with
      | false => rfl
      | true => rw [hlate i (hso.pair j i o y ho hy (by omega) hb)] at hl; cases hl
  -- what j reads
  have hread : ∀ t ∈ readsOf ops o, ∀ v, look (st j).1 t = some v → ∃ u, a.tmps[t]? = some u ∧ VRel m v u := by
    intro t ht' v hv
    refine hregs j t v (by omega) hv (fun i y hi hy hd => ?_) (fun i y hi hy hd => ?_)
    · cases hl : L.getD i false with
      | true => rfl
      | false =>
        have := hord i y hy (by omega) (by rw [if_pos hi]; exact hl)
        rw [if_pos hi, if_pos hi] at this
        exact absurd ht' ((bound_spec this).1 t hd).1
    · by_cases hij : i = j
      · subst hij; exact hunf
      · cases hl : L.getD i false with
        | false => rfl
        | true =>
          have hnl : ¬ i < j := by omega
          have := hord i y hy hij (by rw [if_neg hnl]; exact hl)
          rw [if_neg hnl, if_neg hnl] at this
          exact absurd ht' ((bound_spec this).2 t hd)
  have heR : EnvRel m (restrictE (st j).1 (readsOf ops o)) a.tmps := fun t v hv => hread t (restrictE_look hv).1 v (restrictE_look hv).2
  have hagr : ∀ t ∈ readsOf ops o, look (restrictE (st j).1 (readsOf ops o)) t = look (st j).1 t := fun t ht' => restrictE_mem ht'
  have hwR : wantedO ops (restrictE (st j).1 (readsOf ops o)) o = wantedO ops (st j).1 o := wantedO_congr hagr
  -- the slot that j writes
  have hclosed' : Closed ops (L.setIfInBounds j true) := by
    intro k ok hk hl e he hb
    rw [getD_set hjL] at hl ⊢
    split at hl
    · rename_i e1; subst e1
      rw [ho] at hk; cases hk
      rw [hall e he hb]; split <;> rfl
    · rw [inv.closed k ok hk hl e he hb]; split <;> rfl
  have hregs' : ∀ (m' : Pl) (u : Value), m.le m' → VRel m' v u → ∀ p t x, p ≤ ops.size → look (st p).1 t = some x → (∀ i o, i < p → ops[i]? = some o → o.dst = some t → (L.setIfInBounds j true).getD i false = true) →
      (∀ i o, p ≤ i → ops[i]? = some o → o.dst = some t → (L.setIfInBounds j true).getD i false = false) → ∃ y, (a.put o.dst u).tmps[t]? = some y ∧ VRel m' x y := by
    intro m' u hm' hvu p t x hp hx h1 h2
    by_cases hd : o.dst = some t
    · -- written now
      have hjp : j < p := by
        rcases Nat.lt_or_ge j p with h | h
        · exact h
        · have := h2 j o h ho hd
          rw [getD_set hjL, if_pos rfl] at this; cases this
      have hw := ht.wrote ho hd hst hjp hp (fun i hi1 hi2 y hy hyd => by
        have hli := h1 i y hi2 hy hyd
        rw [getD_set hjL, if_neg (by omega)] at hli
        have hnl : ¬ i < j := by omega
        have := hord i y hy (by omega) (by rw [if_neg hnl]; exact hli)
        rw [if_neg hnl, if_neg hnl] at this
        exact ((bound_spec this).1 t hd).2 hyd)
      rw [hw] at hx; cases hx
      have hlt : t < a.tmps.size := by
        unfold putE at hput
        rw [hd] at hput
        simp only at hput
        split at hput
        · rename_i hb; rw [inv.n]; exact Nat.le_of_ble_eq_true (show Nat.ble (t + 1) n = true from hb)
        · cases hput
      exact ⟨u, by simp [hd, Act.put, hlt], hvu⟩
    · obtain ⟨y, hy, hyr⟩ := hregs p t x hp hx (fun i y hi hy hyd => by
          have hne : i ≠ j := fun e => by subst e; rw [ho] at hy; cases hy; exact hd hyd
          have := h1 i y hi hy hyd
          rwa [getD_set hjL, if_neg hne] at this) (fun i y hi hy hyd => by
          have hne : i ≠ j := fun e => by subst e; rw [ho] at hy; cases hy; exact hd hyd
          have := h2 i y hi hy hyd
          rwa [getD_set hjL, if_neg hne] at this)
      refine ⟨y, ?_, hyr.mono hm'⟩
      cases hdd : o.dst with
      | none => exact hy
      | some d =>
        have : d ≠ t := fun e => hd (by rw [hdd, e])
        simp [Act.put, this, hy]
  have hn' : ∀ u, (a.put o.dst u).tmps.size = n := fun u => by
    cases o.dst with
    | none => exact inv.n
    | some d => simp [Act.put, inv.n]
  have hds' : ∀ u, (a.put o.dst u).defers = ds := fun u => by cases o.dst <;> exact inv.ds
  -- a maker makes one object
  have made : ∀ (i : Nat) (y : Oper), ops[i]? = some y → kindOf y = .alloc → wantedO ops (st i).1 y = some true → ∃ ob, (st (i + 1)).2 = (st i).2 ++ [ob] := by
    intro i y hy hky hwy
    obtain ⟨vv, hs1, _⟩ := ht.step i y hy
    unfold stepO at hs1
    rw [hwy] at hs1
    simp only at hs1
    unfold evStep at hs1
    split at hs1
    · rename_i v2 h2 hop2
      obtain ⟨z1, ob1, e, _⟩ := kind_alloc_ev hky hop2
      simp only [Option.some.injEq, Prod.mk.injEq] at hs1
      cases e
      exact ⟨ob1, hs1.2.symm⟩
    · rename_i f args hop2; obtain ⟨z1, ob1, e, _⟩ := kind_alloc_ev hky hop2; cases e
    · rename_i f args hop2; obtain ⟨z1, ob1, e, _⟩ := kind_alloc_ev hky hop2; cases e
    · cases hs1
  -- the stage is the same: what is owed
  have same : ∀ (m' : Pl) (u : Value) (w' : World), m.le m' → (∀ i, i < (st 0).2.length → m' i = m i) → VRel m' v u → Sim B w0 m' (st q).2 w' → j ≠ q →
      (∀ k y, k < q → ops[k]? = some y → kindOf y = .alloc → k ≠ j → L.getD k false = false → wantedO ops (st k).1 y = some true → m' (st k).2.length = none) →
      DInv P C B w0 m0 n ops st ds (L.setIfInBounds j true) (a.put o.dst u) w' := by
    intro m' u w' h1 hold h2 h3 hjq h4
    refine ⟨by simp [inv.size], hclosed', hn' u, hds' u, m', q, ⟨⟨Pl.le_trans hm0.le h1, fun i hi => by rw [hold i hi, hm0.old i hi], hm0.len⟩, hlen⟩, h3, hq, fun i y hi hy hk => ?_, fun y hy => ?_, hregs' m' u h1 h2, fun k y hk hy hka hl hw => ?_⟩
    · rw [getD_set hjL, hmaj i y hi hy hk]; split <;> rfl
    · refine ⟨(hqm y hy).1, ?_⟩
      rw [getD_set hjL, if_neg (fun e => hjq e.symm)]; exact (hqm y hy).2
    · rw [getD_set hjL] at hl
      split at hl
      · cases hl
      · rename_i hkj; exact h4 k y hk hy hka hkj hl hw
  -- the stage moves on
  have move : ∀ (m' : Pl) (u : Value) (w' : World), Stp m (st j).2 m' (st (j + 1)).2 → VRel m' v u → Sim B w0 m' (st (j + 1)).2 w' → j = q → DInv P C B w0 m0 n ops st ds (L.setIfInBounds j true) (a.put o.dst u) w' := by
    intro m' u w' h1 h2 h3 hjq
    subst hjq
    obtain ⟨q', k1, k2, k3, k4⟩ := next_major ops (ops.size - (j + 1)) (j + 1) (by omega)
    obtain ⟨os, hos, hng⟩ := ht.grow (q' - (j + 1)) (j + 1) (fun i i1 i2 y hy => k3 i y i1 (by omega) hy) (by omega)
    rw [show j + 1 + (q' - (j + 1)) = q' by omega] at hos
    have hs' : Sim B w0 m' (st q').2 w' := by rw [hos]; exact h3.ext os hng
    have hkj := (hqm o ho).1
    have hlen' : ∀ p, p < q' → (st p).2.length ≤ (st (p + 1)).2.length := fun p hp => by
      rcases Nat.lt_trichotomy p j with hpj | hpj | hpj
      · exact hlen p hpj
      · subst hpj; exact h1.len
      · obtain ⟨os', hos', _⟩ := ht.grow 1 p (fun i i1 i2 y hy => k3 i y (by omega) (by omega) hy) (by omega)
        rw [hos']; simp
    refine ⟨by simp [inv.size], hclosed', hn' u, hds' u, m', q', ⟨hm0.trans (h1.at rfl rfl |>.trans (Stp.same (by rw [hos]; simp))), hlen'⟩, hs', k2, fun i y hi hy hk => ?_, fun y hy => ⟨k4 y hy, ?_⟩, hregs' m' u h1.le h2, fun k y hk hy hka hl hw => ?_⟩
    · rw [getD_set hjL]
      split
      · rfl
      · rcases Nat.lt_or_ge i j with hij | hij
        · exact hmaj i y hij hy hk
        · exact absurd hk (k3 i y (by omega) hi hy)
    · rw [getD_set hjL, if_neg (by omega)]
      refine hlate q' (hso.pair j q' o y ho hy (by omega) ?_)
      unfold bound
      rw [hkj, k4 y hy]
      simp
    · rw [getD_set hjL] at hl
      split at hl
      · cases hl
      · rename_i hkne
        rcases Nat.lt_or_ge k j with hkj' | hkj'
        · obtain ⟨ob1, hob1⟩ := made k y hy hka hw
          have h5 := hmono (k + 1) j (by omega) (Nat.le_refl _)
          rw [hob1, List.length_append, List.length_singleton] at h5
          rw [h1.old _ (by omega)]
          exact hnews k y hkj' hy hka hl hw
        · obtain ⟨os', hos', _⟩ := ht.grow (k - (j + 1)) (j + 1) (fun i i1 i2 y hy => k3 i y i1 (by omega) hy) (by omega)
          rw [show j + 1 + (k - (j + 1)) = k by omega] at hos'
          refine h3.fresh ?_
          rw [hos']; simp
  -- now the operation itself
  unfold wpOpIn
  simp only [ho]
  unfold stepO at hst
  split at hst
  · -- wanted
    rename_i hw
    rw [if_pos (wantedO_rel heR (hwR.trans hw))]
    cases hk : kindOf o with
    | major =>
      have hjq : j = q := by
        rcases Nat.lt_trichotomy j q with h1 | h1 | h1
        · rw [hmaj j o h1 ho hk] at hunf; cases hunf
        · exact h1
        · have hqs : q < ops.size := by omega
          have hqq := hqm _ (Array.getElem?_eq_getElem hqs)
          have : bound ops ops[q] o = true := by unfold bound; rw [hk, hqq.1]; simp
          rw [hanc q (hso.pair q j _ o (Array.getElem?_eq_getElem hqs) ho h1 this)] at hqq
          cases hqq.2
      subst hjq
      refine hC hm0 hsim heR inv.n inv.ds (fun t v hv hw => hregs 0 t v (by omega) hv (fun i o hi => absurd hi (Nat.not_lt_zero i)) (fun i o _ ho hd => absurd hd (hw i o ho))) ((evStep_congr hagr).trans hst) fun m' u w' h1 h2 h3 => move m' u w' h1 h3 h2 rfl
    | pure =>
      have hne : j ≠ q := fun e => by subst e; rw [(hqm o ho).1] at hk; cases hk
      unfold evStep at hst
      split at hst
      · rename_i v1 h1 hop
        simp only [Option.some.injEq, Prod.mk.injEq] at hst
        obtain ⟨y, e1, e2⟩ := kind_pure hk hop
        cases e1
        rw [hst.1] at e2
        have hop' : evOp P (st q).2 (restrictE (st j).1 (readsOf ops o)) o = some (.val v (st q).2) := by
          rw [evOp_congr (E' := (st j).1) fun t ht' => hagr t (by simp only [readsOf, List.mem_append]; exact .inr (mem_tmpsOf ht'))]
          exact e2 _
        obtain ⟨m', u, w', k1, k2, k3, k4, k5⟩ := evOp_snd hsim heR hop'
        have := k5 rfl
        subst this
        refine ⟨fun _ _ => trivial, ?_⟩
        rw [Oper.semAt_eq _ _ _ (no_defer hop')]
        rcases k4 with k4 | ⟨k4, rfl⟩
        · rw [k4, Oper.uponIn_value]; exact same m' u w' m'.le_refl (fun _ _ => rfl) k3 k2 hne fun k y h1 h2 h3 h4 h5 h6 => hnews k y h1 h2 h3 h5 h6
        · rw [k4, Oper.uponIn_skip]; exact same m' undef w' m'.le_refl (fun _ _ => rfl) k3 k2 hne fun k y h1 h2 h3 h4 h5 h6 => hnews k y h1 h2 h3 h5 h6
      · rename_i f args hop; obtain ⟨y, e1, _⟩ := kind_pure hk hop; cases e1
      · rename_i f args hop; obtain ⟨y, e1, _⟩ := kind_pure hk hop; cases e1
      · cases hst
    | read =>
      have hne : j ≠ q := fun e => by subst e; rw [(hqm o ho).1] at hk; cases hk
      unfold evStep at hst
      split at hst
      · rename_i v1 h1 hop
        simp only [Option.some.injEq, Prod.mk.injEq] at hst
        obtain ⟨y, e1, e2⟩ := kind_read hk hop
        cases e1
        have hv1 := hst.1
        subst hv1
        have hop' : evOp P (st q).2 (st j).1 o = some (.val v1 (st q).2) := by
          rcases Nat.lt_or_ge j q with hjq | hjq
          · -- the last major between
            have last : ∀ (d : Nat), j + 1 + d ≤ q → evOp P (st (j + 1 + d)).2 (st j).1 o = some (.val v1 (st (j + 1 + d)).2) := by
              intro d
              induction d with
              | zero =>
                intro _
                have := hst.2
                simp only [Nat.add_zero]
                rw [← this]
                have := e2 []
                simpa using this
              | succ d ih =>
                intro hd
                have ih' := ih (by omega)
                have hlt : j + 1 + d < ops.size := by omega
                obtain ⟨vv, hstt, _⟩ := ht.step (j + 1 + d) _ (Array.getElem?_eq_getElem hlt)
                by_cases hkm : kindOf ops[j + 1 + d] = .major
                · have hli := hmaj (j + 1 + d) _ (by omega) (Array.getElem?_eq_getElem hlt) hkm
                  have hna : ¬ AncP ops j (j + 1 + d) := fun ha => by rw [hlate _ ha] at hli; cases hli
                  have hnb : ¬ AncP ops (j + 1 + d) j := fun ha => by
                    have hlt' : ∀ {x y : Nat}, AncP ops x y → x < y := by
                      intro x y hxy
                      induction hxy with
                      | one ho he hb hi => subst hi; exact hso.edge _ _ ho _ he hb
                      | more _ _ ih1 ih2 => omega
                    have := hlt' ha
                    omega
                  exact (hpo j (j + 1 + d) o _ ho (Array.getElem?_eq_getElem hlt) hk hkm hna hnb hw v1 hop).2
                · obtain ⟨os, hos, hng⟩ := stepO_minor hkm hstt
                  obtain ⟨y', e1', e2'⟩ := kind_read hk ih'
                  cases e1'
                  show evOp P (st (j + 1 + d + 1)).2 (st j).1 o = some (.val v1 (st (j + 1 + d + 1)).2)
                  rw [hos]
                  exact e2' os
            have := last (q - (j + 1)) (by omega)
            rwa [show j + 1 + (q - (j + 1)) = q by omega] at this
          · have hqs : q < ops.size := by omega
            have hqq := hqm _ (Array.getElem?_eq_getElem hqs)
            have hna : ¬ AncP ops q j := fun ha => by rw [hanc q ha] at hqq; cases hqq.2
            have hnb : ¬ AncP ops j q := fun ha => by
              have hlt' : ∀ {x y : Nat}, AncP ops x y → x < y := by
                intro x y hxy
                induction hxy with
                | one ho he hb hi => subst hi; exact hso.edge _ _ ho _ he hb
                | more _ _ ih1 ih2 => omega
              have := hlt' ha
              omega
            exact (hpo j q o _ ho (Array.getElem?_eq_getElem hqs) hk hqq.1 hnb hna hw v1 hop).1
        have hop2 : evOp P (st q).2 (restrictE (st j).1 (readsOf ops o)) o = some (.val v1 (st q).2) := by
          rw [evOp_congr (E' := (st j).1) fun t ht' => hagr t (by simp only [readsOf, List.mem_append]; exact .inr (mem_tmpsOf ht'))]
          exact hop'
        obtain ⟨m', u, w', k1, k2, k3, k4, k5⟩ := evOp_snd hsim heR hop2
        have := k5 rfl
        subst this
        refine ⟨fun _ _ => trivial, ?_⟩
        rw [Oper.semAt_eq _ _ _ (no_defer hop2)]
        rcases k4 with k4 | ⟨k4, rfl⟩
        · rw [k4, Oper.uponIn_value]; exact same m' u w' m'.le_refl (fun _ _ => rfl) k3 k2 hne fun k y h1 h2 h3 h4 h5 h6 => hnews k y h1 h2 h3 h5 h6
        · rw [k4, Oper.uponIn_skip]; exact same m' undef w' m'.le_refl (fun _ _ => rfl) k3 k2 hne fun k y h1 h2 h3 h4 h5 h6 => hnews k y h1 h2 h3 h5 h6
      · rename_i f args hop; obtain ⟨y, e1, _⟩ := kind_read hk hop; cases e1
      · rename_i f args hop; obtain ⟨y, e1, _⟩ := kind_read hk hop; cases e1
      · cases hst
    | alloc =>
      have hne : j ≠ q := fun e => by subst e; rw [(hqm o ho).1] at hk; cases hk
      have hjq : j < q := by
        rcases Nat.lt_or_ge j q with h1 | h1
        · exact h1
        · have hqs : q < ops.size := by omega
          have hqq := hqm _ (Array.getElem?_eq_getElem hqs)
          have : bound ops ops[q] o = true := by unfold bound; rw [hk, hqq.1]; simp
          rw [hanc q (hso.pair q j _ o (Array.getElem?_eq_getElem hqs) ho (by omega) this)] at hqq
          cases hqq.2
      unfold evStep at hst
      split at hst
      · rename_i v1 h1 hop
        simp only [Option.some.injEq, Prod.mk.injEq] at hst
        have hopR : evOp P (st j).2 (restrictE (st j).1 (readsOf ops o)) o = some (.val v1 h1) := by
          rw [evOp_congr (E' := (st j).1) fun t ht' => hagr t (by simp only [readsOf, List.mem_append]; exact .inr (mem_tmpsOf ht'))]
          exact hop
        obtain ⟨y, ob, x, ext, u, e1, e2, e3, e4⟩ := kind_alloc hsim.size heR hk hopR
        cases e1
        have hid : m (st j).2.length = none := hnews j o hjq ho hk hunf hw
        have hobj : (st q).2[(st j).2.length]? = some ob := by
          have go : ∀ d, j + 1 + d ≤ q → (st (j + 1 + d)).2[(st j).2.length]? = some ob := by
            intro d
            induction d with
            | zero => intro _; simp only [Nat.add_zero]; rw [← hst.2]; simp
            | succ d ih =>
              intro hd
              have ih' := ih (by omega)
              have hlt : j + 1 + d < ops.size := by omega
              obtain ⟨vv, hstt, _⟩ := ht.step (j + 1 + d) _ (Array.getElem?_eq_getElem hlt)
              by_cases hkm : kindOf ops[j + 1 + d] = .major
              · have hli := hmaj (j + 1 + d) _ (by omega) (Array.getElem?_eq_getElem hlt) hkm
                exact hmo j (j + 1 + d) o _ ho (Array.getElem?_eq_getElem hlt) hk hkm (by omega) (fun ha => by rw [hlate _ ha] at hli; cases hli) hw ob ih'
              · obtain ⟨os, hos, hng⟩ := stepO_minor hkm hstt
                show (st (j + 1 + d + 1)).2[(st j).2.length]? = some ob
                rw [hos, List.getElem?_append_left (List.getElem?_eq_some_iff.1 ih').1]
                exact ih'
          have := go (q - (j + 1)) (by omega)
          rwa [show j + 1 + (q - (j + 1)) = q by omega] at this
        have hle := Pl.put_le (p := (⟨w.heap.size, 0, ext⟩ : Place)) hid
        obtain ⟨f1, f2⟩ := e4 _ hle (Pl.put_same _ _ _)
        have hs' := hsim.newAt x ob ⟨w.heap.size, 0, ext⟩ hid hobj rfl f2
        rw [hst.1] at f1
        refine ⟨fun _ _ => trivial, ?_⟩
        rw [Oper.semAt_eq _ _ _ (no_defer hopR), e3, Oper.uponIn_value]
        have h0j := hmono 0 j (by omega) (by omega)
        refine same _ u _ hle (fun i hi => by unfold Pl.put; rw [if_neg (by omega)]) f1 hs' hne fun k z k1 k2 k3 k4 k5 k6 => ?_
        have hk0 := hnews k z k1 k2 k3 k5 k6
        -- its number is another one
        have hnum : (st k).2.length ≠ (st j).2.length := by
          rcases Nat.lt_trichotomy k j with hkj | hkj | hkj
          · obtain ⟨ob1, hob1⟩ := made k z k2 k3 k6
            have h5 := hmono (k + 1) j (by omega) (by omega)
            rw [hob1, List.length_append, List.length_singleton] at h5
            omega
          · exact absurd hkj k4
          · obtain ⟨ob1, hob1⟩ := made j o ho hk hw
            have h5 := hmono (j + 1) k (by omega) (by omega)
            rw [hob1, List.length_append, List.length_singleton] at h5
            omega
        simp [Pl.put, hnum, hk0]
      · rename_i f args hop; obtain ⟨y, ob, e1, _⟩ := kind_alloc_ev hk hop; cases e1
      · rename_i f args hop; obtain ⟨y, ob, e1, _⟩ := kind_alloc_ev hk hop; cases e1
      · cases hst
  · -- not wanted
    rename_i hw
    rw [if_neg (by rw [wantedO_rel heR (hwR.trans hw)]; simp)]
    simp only [Option.some.injEq, Prod.mk.injEq] at hst
    refine ⟨fun _ _ => trivial, ?_⟩
    have hv : VRel m v undef := by rw [← hst.1]; exact VRel.refl m undef rfl
    by_cases hjq : j = q
    · exact move m undef w (by rw [hst.2]; exact .refl _ _) hv (by rw [← hst.2, hjq]; exact hsim) hjq
    · exact same m undef w m.le_refl (fun _ _ => rfl) hv hsim hjq fun k y h1 h2 h3 h4 h5 h6 => hnews k y h1 h2 h3 h5 h6
  · cases hst

theorem draw_all {Q : Exit → Act → World → Prop} (hC : MajorSnd P C B w0 m0 (st 0).2 n ops (st 0).1 ds rd nn Q) (hso : StatOk ops) (ht : Tr P C n ops st) (hpo : PairsOk P ops st) (hmo : MadesOk ops st)
    (hk : ∀ m' a' w', Stp m0 (st 0).2 m' (st ops.size).2 → Sim B w0 m' (st ops.size).2 w' → EnvRel m' (st ops.size).1 a'.tmps → a'.tmps.size = n → a'.defers = ds → Q .normal a' w') :
    ∀ (fuel : Nat) (L : Array Bool) (a : Act) (w : World), L.toList.count false ≤ fuel → DInv P C B w0 m0 n ops st ds L a w → wpAnyIn (Fr rd) nn P .any ops Q fuel L a w := by
  have done : ∀ (L : Array Bool) (a : Act) (w : World), Region.ready .any ops L = [] → DInv P C B w0 m0 n ops st ds L a w → Q .normal a w := by
    intro L a w hr inv
    have hall : ∀ j, j < ops.size → L.getD j false = true := by
      intro j
      induction j using Nat.strongRecOn with
      | _ j ih =>
        intro hj
        cases hl : L.getD j false with
        | true => rfl
        | false =>
          have hjL : j < L.size := by rw [inv.size]; exact hj
          have : j ∈ Region.ready .any ops L := mem_ready.2 ⟨by simp [Array.getD_eq_getD_getElem?, hjL] at hl ⊢; exact hl, ops[j], Array.getElem?_eq_getElem hj, fun e he hb =>
            have := hso.edge j _ (Array.getElem?_eq_getElem hj) e he hb
            ih e.on this (by omega)⟩
          rw [hr] at this; cases this
    obtain ⟨m, q, h1, h2, h3, h4, h5, h6, h7⟩ := inv.ex
    have hq : q = ops.size := by
      rcases Nat.lt_or_ge q ops.size with hlt | hge
      · have := (h5 _ (Array.getElem?_eq_getElem hlt)).2
        rw [hall q hlt] at this; cases this
      · omega
    subst hq
    exact hk m a w h1.1 h2 (fun t v hv => h6 ops.size t v (Nat.le_refl _) hv (fun i o hi _ _ => hall i hi) (fun i o hi ho _ => by have := (Array.getElem?_eq_some_iff.1 ho).1; omega)) inv.n inv.ds
  intro fuel
  induction fuel with
  | zero =>
    intro L a w hc inv
    have hr : Region.ready .any ops L = [] := by
      cases hrr : Region.ready .any ops L with
      | nil => rfl
      | cons j l =>
        have hj : j ∈ Region.ready .any ops L := by rw [hrr]; simp
        obtain ⟨hun, o, ho, _⟩ := mem_ready.1 hj
        have hjL : j < L.size := by rw [inv.size]; exact (Array.getElem?_eq_some_iff.1 ho).1
        have : false ∈ L.toList := by
          simp [Array.getD_eq_getD_getElem?, hjL] at hun
          refine List.mem_iff_getElem?.2 ⟨j, ?_⟩
          rw [Array.getElem?_toList, Array.getElem?_eq_getElem hjL, hun]
        have := List.count_pos_iff.2 this
        omega
    exact ⟨hr, done L a w hr inv⟩
  | succ fuel ih =>
    intro L a w hc inv
    refine ⟨fun hr => done L a w hr inv, fun j hj => ?_⟩
    refine wpOpIn_mono (fun a' w' inv' => ih _ a' w' ?_ inv') (draw_step hC hso ht hpo hmo inv hj)
    obtain ⟨hun, o, ho, _⟩ := mem_ready.1 hj
    have hjL : j < L.size := by rw [inv.size]; exact (Array.getElem?_eq_some_iff.1 ho).1
    have := count_set (j := j) (l := L.toList) (by simp [Array.getD_eq_getD_getElem?, hjL] at hun; simp [hjL, hun])
    simp only [Array.toList_setIfInBounds]
    omega

theorem pairs_ok {tr : List (Env × Hp)} (hp : (pairsOf ops).all (pairSame P ops tr) = true) : PairsOk P ops (fun i => tr.getD i ([], [])) := by
  intro i j x y hx hy hkx hky hij hji hw v hv
  have hmem : (i, j) ∈ pairsOf ops := by
    unfold pairsOf
    refine List.mem_flatMap.2 ⟨(x, i), mem_zipIdx hx, ?_⟩
    simp only [hkx]
    refine List.mem_filterMap.2 ⟨(y, j), mem_zipIdx hy, ?_⟩
    simp only [hky]
    have h1 : anc (ancs ops.toList []) i j = false := by
      cases h : anc (ancs ops.toList []) i j with
      | false => rfl
      | true => exact absurd (anc_spec h) hij
    have h2 : anc (ancs ops.toList []) j i = false := by
      cases h : anc (ancs ops.toList []) j i with
      | false => rfl
      | true => exact absurd (anc_spec h) hji
    simp [h1, h2]
  have := List.all_eq_true.1 hp _ hmem
  unfold pairSame at this
  simp only [hx] at this
  split at this
  · rename_i o E h E1 h1 E2 h2 eo e1 e2 e3
    cases eo
    simp only [List.getD_eq_getElem?_getD, e1, e2, e3, Option.getD_some] at hw hv ⊢
    rw [hw, hkx] at this
    simp only at this
    split at this
    · rename_i v0 _ v1 _ v2 _ k0 k1 k2
      simp only [Bool.and_eq_true] at this
      rw [hv] at k0
      cases k0
      obtain ⟨y1, f1, _⟩ := kind_read hkx k1
      obtain ⟨y2, f2, _⟩ := kind_read hkx k2
      cases f1; cases f2
      rw [k1, k2, ← veq_eq this.1, ← veq_eq this.2]
      exact ⟨rfl, rfl⟩
    · cases this
  · cases this

theorem mades_ok {tr : List (Env × Hp)} (hp : (pairsOf ops).all (pairSame P ops tr) = true) : MadesOk ops (fun i => tr.getD i ([], [])) := by
  intro i j x y hx hy hkx hky hlt hij hw ob hob
  have hmem : (i, j) ∈ pairsOf ops := by
    unfold pairsOf
    refine List.mem_flatMap.2 ⟨(x, i), mem_zipIdx hx, ?_⟩
    simp only [hkx]
    refine List.mem_filterMap.2 ⟨(y, j), mem_zipIdx hy, ?_⟩
    have h0 : Nat.blt i j = true := Nat.ble_eq_true_of_le hlt
    have h1 : anc (ancs ops.toList []) i j = false := by
      cases h : anc (ancs ops.toList []) i j with
      | false => rfl
      | true => exact absurd (anc_spec h) hij
    simp [hky, h0, h1]
  have := List.all_eq_true.1 hp _ hmem
  unfold pairSame at this
  simp only [hx] at this
  split at this
  · rename_i o E h E1 h1 E2 h2 eo e1 e2 e3
    cases eo
    simp only [List.getD_eq_getElem?_getD, e1, e2, e3, Option.getD_some] at hw hob ⊢
    rw [hw, hkx] at this
    simp only at this
    unfold madeSame at this
    split at this
    · rename_i c d k1 k2
      rw [k1] at hob
      rw [k2, ← hob, veqL_eq this]
    · cases this
  · cases this

theorem evDraw_sndM (hm : P.follows .mixedOrders = true) {id : Nat} {Q : Exit → Act → World → Prop} (hC : MajorSnd P C B w0 m h n (drawOps ops) E a.defers rd nn Q) (ho : evDraw P C n (drawOps ops) E h = some (E', h')) (s : Sim B w0 m h w) (he : EnvRel m E a.tmps)
    (hs : a.tmps.size = n) (hk : ∀ m' a' w', Stp m h m' h' → Sim B w0 m' h' w' → EnvRel m' E' a'.tmps → a'.tmps.size = n → a'.defers = a.defers → Q .normal a' w') : (Code.region id ops true).wpIn (Fr rd) nn P Q a w := by
  suffices H : wpAnyIn (Fr rd) nn P .any (drawOps ops) Q (drawOps ops).size (Array.replicate (drawOps ops).size false) a { w with drawn := w.drawn + 1 } by
    refine wpIn_region_any hm ?_
    unfold drawOps at H
    split at H
    · exact H
    · split at H
      · rename_i hp
        have hp' := permOk_spec hp
        rw [permOps_size, hp'.len] at H
        refine wpAny_perm hp' _ ⟨by simp, by simp, fun j hj => ?_⟩ H
        obtain ⟨q1, _⟩ := hp'.pos j hj
        simp [Array.getD_eq_getD_getElem?, hj, q1]
      · exact H
  generalize drawOps ops = ops at ho hC ⊢
  have main : ∀ {tr : List (Env × Hp)}, statOk ops = true → traceO P C n ops ops.toList E h = some tr → (pairsOf ops).all (pairSame P ops tr) = true → tr[ops.size]? = some (E', h') → wpAnyIn (Fr rd) nn P .any ops Q ops.size (Array.replicate ops.size false) a { w with drawn := w.drawn + 1 } := by
    intro tr hst htr hpa hlast
    have hso := statOk_spec hst
    have ht := traceO_Tr (C := C) (n := n) htr
    have h0 := (traceO_len ops.toList htr).2
    have e0 : tr.getD 0 ([], []) = (E, h) := by simp [List.getD_eq_getElem?_getD, h0]
    have eN : tr.getD ops.size ([], []) = (E', h') := by simp [List.getD_eq_getElem?_getD, hlast]
    have s' : Sim B w0 m h { w with drawn := w.drawn + 1 } := s.drawn _
    refine draw_all (m0 := m) (n := n) (ds := a.defers) (by show MajorSnd P C B w0 m (tr.getD 0 ([], [])).2 n ops (tr.getD 0 ([], [])).1 _ rd nn Q; rw [e0]; exact @hC) hso ht (pairs_ok hpa) (mades_ok hpa) (fun m' a' w' h1 h2 h3 h4 h5 => hk m' a' w' (by simpa only [e0, eN] using h1) (by simpa only [eN] using h2) (by simpa only [eN] using h3) h4 h5) _ _ _ _ (by simp) ?_
    have hfalse : ∀ i, (Array.replicate ops.size false).getD i false = false := fun i => by
      rcases Nat.lt_or_ge i ops.size with h | h <;> simp [Array.getD_eq_getD_getElem?, h]
    obtain ⟨q, k1, k2, k3, k4⟩ := next_major ops ops.size 0 (by omega)
    obtain ⟨os, hos, hng⟩ := ht.grow q 0 (fun i i1 i2 y hy => k3 i y i1 (by omega) hy) (by omega)
    simp only [Nat.zero_add, e0] at hos
    refine ⟨by simp, fun j oj _ hl => (by rw [hfalse] at hl; cases hl), hs, rfl, m, q, ⟨Stp.same (by simp only [e0]; rw [hos]; simp), fun p hp => ?_⟩, by rw [hos]; exact s'.ext os hng, k2, fun i o hi hy hky => absurd hky (k3 i o (by omega) hi hy), fun o hy => ⟨k4 o hy, hfalse q⟩,
      fun p t v hp hv hb1 _ => ?_, fun j o hj hy hky _ _ => ?_⟩
    · obtain ⟨os', hos', _⟩ := ht.grow 1 p (fun i i1 i2 y hy => k3 i y (by omega) (by omega) hy) (by omega)
      simp only [hos', List.length_append]
      omega
    · have hkeep := ht.keep (t := t) p 0 (fun i _ hi o hy hd => by
        have := hb1 i o (by omega) hy hd
        rw [hfalse] at this; cases this) (by omega)
      simp only [Nat.zero_add, e0] at hkeep
      exact he t v (by rw [← hkeep]; exact hv)
    · obtain ⟨os', hos', _⟩ := ht.grow j 0 (fun i i1 i2 y hy => k3 i y i1 (by omega) hy) (by omega)
      simp only [Nat.zero_add, e0] at hos'
      refine s'.fresh ?_
      rw [hos']; simp
  unfold evDraw at ho
  split at ho
  · rename_i hst
    split at ho
    · rename_i hp0
      obtain ⟨tr, t1, t2⟩ := evOps_trace ops.toList ho
      exact main hst t1 (by rw [hp0]; rfl) (by simpa using t2)
    · split at ho
      · rename_i tr htr
        split at ho
        · rename_i hpa; exact main hst htr hpa ho
        · cases ho
      · cases ho
  · cases ho

theorem evDraw_snd (hC : CSnd P C) (hm : P.follows .mixedOrders = true) {id : Nat} {Q : Exit → Act → World → Prop} (ho : evDraw P C n (drawOps ops) E h = some (E', h')) (s : Sim B w0 m h w) (he : EnvRel m E a.tmps)
    (hs : a.tmps.size = n) (hk : ∀ m' a' w', Stp m h m' h' → Sim B w0 m' h' w' → EnvRel m' E' a'.tmps → a'.tmps.size = n → a'.defers = a.defers → Q .normal a' w') : (Code.region id ops true).wpIn (Fr rd) nn P Q a w :=
  evDraw_sndM hm hC.major ho s he hs hk

end Go.Ev
