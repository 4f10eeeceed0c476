import Derived.Test.YtalfgifleahabaaGreatDoorSbEvDraw
import Derived.Test.YtalfgifleahabaaGreatDoorSbEvRunSnd
import Derived.OrdersIn
namespace Go.Ev
open Go.RowKit

variable {P : Program} {C : CallF}
variable {B : Bs} {w0 : World} {m : Pl} {h h' : Hp} {w : World} {E E' : Env} {a : Act} {n nn : Nat} {rd : Option Nat}

mutual
theorem veq_eq : ∀ {a b : Value}, veq a b = true → a = b
  | .bool a, b, h => by cases b <;> simp [veq] at h; rw [h]
  | .int j a, b, h => by cases b <;> simp [veq] at h; rw [h.1, h.2]
  | .string a, b, h => by cases b <;> simp [veq] at h; rw [h]
  | .pointer a, b, h => by cases b <;> simp [veq] at h; rw [h]
  | .slice a n c, b, h => by cases b <;> simp [veq] at h; rw [h.1.1, h.1.2, h.2]
  | .map a, b, h => by cases b <;> simp [veq] at h; rw [h]
  | .nilFunc, b, h => by cases b <;> simp [veq] at h; rfl
  | .nilIface, b, h => by cases b <;> simp [veq] at h; rfl
  | .iface t v, b, h => by
    cases b <;> simp [veq] at h
    rw [h.1, veq_eq h.2]
  | .agg a, b, h => by
    cases b <;> simp [veq] at h
    rw [veqA_eq h]
  | .tuple a, b, h => by
    cases b <;> simp [veq] at h
    rw [veqA_eq h]
  | .func f a b, c, h => by
    cases c with
    | func g c d =>
      cases f <;> cases g <;> simp [veq] at h
      rw [h.1.1, veqA_eq h.1.2, veqA_eq h.2]
    | _ => cases f <;> simp [veq] at h
  | .float .., b, h => by cases b <;> simp [veq] at h
  | .complex .., b, h => by cases b <;> simp [veq] at h
theorem veqA_eq : ∀ {a b : Array Value}, veqA a b = true → a = b
  | ⟨a⟩, ⟨b⟩, h => by rw [veqL_eq (a := a) (b := b) (by simpa [veqA] using h)]
theorem veqL_eq : ∀ {a b : List Value}, veqL a b = true → a = b
  | [], [], _ => rfl
  | [], _ :: _, h => by simp [veqL] at h
  | _ :: _, [], h => by simp [veqL] at h
  | v :: a, w :: b, h => by
    simp [veqL] at h
    rw [veq_eq h.1, veqL_eq h.2]
end

/-! ### What an operation looks at -/
theorem mem_tmpsOf {t : Nat} : ∀ {l : List Operand}, Operand.tmp t ∈ l → t ∈ tmpsOf l
  | x :: l, h => by
    rcases List.mem_cons.1 h with rfl | h
    · simp [tmpsOf]
    · have := mem_tmpsOf h
      cases x <;> simp [tmpsOf, this]

def Agree (E E' : Env) (l : List Nat) : Prop := ∀ t ∈ l, look E t = look E' t

theorem evalO_congr {x : Operand} (h : ∀ t, x = .tmp t → look E t = look E' t) : evalO E x = evalO E' x := by
  cases x <;> simp [evalO]
  exact h _ rfl
theorem evalL_congr : ∀ {l : List Operand}, (∀ t, .tmp t ∈ l → look E t = look E' t) → evalL E l = evalL E' l
  | [], _ => rfl
  | x :: l, h => by
    simp only [evalL]
    rw [evalO_congr (fun t e => h t (by simp [e])), evalL_congr (fun t ht => h t (by simp [ht]))]
theorem partsO_congr : ∀ {l : List (Nat × Operand)}, (∀ t, .tmp t ∈ l.map (·.2) → look E t = look E' t) → partsO E l = partsO E' l
  | [], _ => rfl
  | (i, x) :: l, h => by
    simp only [partsO]
    rw [evalO_congr (fun t e => h t (by simp [e])), partsO_congr (fun t ht => h t (by simp only [List.map_cons, List.mem_cons]; exact .inr ht))]

theorem evGround_congr {o : Oper} (hs : ∀ cs b, o.op ≠ .select cs b) (ha : ∀ t, .tmp t ∈ o.op.operands.toList → look E t = look E' t) : evGround P h E o = evGround P h E' o := by
  unfold evGround
  rw [evalL_congr ha]
  have : execOp (fun x => (evalO E x).getD undef) o = execOp (fun x => (evalO E' x).getD undef) o :=
    execOp_congr o hs fun x hx => by rw [evalO_congr (fun t e => ha t (by subst e; simpa using hx))]
  rw [this]

theorem v1_congr {x : Operand} {k k' : Value → Option Out} (hx : ∀ t, x = .tmp t → look E t = look E' t) (hk : ∀ v, k v = k' v) : v1 E x k = v1 E' x k' := by
  unfold v1
  rw [evalO_congr hx]
  split <;> first | exact hk _ | rfl
theorem v2_congr {x y : Operand} {k k' : Value → Value → Option Out} (hx : ∀ t, x = .tmp t → look E t = look E' t) (hy : ∀ t, y = .tmp t → look E t = look E' t) (hk : ∀ v u, k v u = k' v u) : v2 E x y k = v2 E' x y k' := by
  unfold v2
  rw [evalO_congr hx, evalO_congr hy]
  split <;> first | exact hk _ _ | rfl

theorem evOp_congr {o : Oper} (ha : ∀ t, .tmp t ∈ o.op.operands.toList → look E t = look E' t) : evOp P h E o = evOp P h E' o := by
  have g : (∀ cs b, o.op ≠ .select cs b) → evGround P h E o = evGround P h E' o := fun hs => evGround_congr hs ha
  unfold evOp
  cases ho : o.op with
  | move x => exact v1_congr (fun t e => ha t (by rw [ho]; simp [Op.operands, e])) fun _ => rfl
  | assign x => exact v1_congr (fun t e => ha t (by rw [ho]; simp [Op.operands, e])) fun _ => rfl
  | pick c x y =>
    refine v1_congr (fun t e => ha t (by rw [ho]; simp [Op.operands, e])) fun v => ?_
    split
    · exact v1_congr (fun t e => ha t (by rw [ho]; simp [Op.operands, e])) fun _ => rfl
    · exact v1_congr (fun t e => ha t (by rw [ho]; simp [Op.operands, e])) fun _ => rfl
    · rfl
  | alloc t => rfl
  | box t x => exact v1_congr (fun t e => ha t (by rw [ho]; simp [Op.operands, e])) fun _ => rfl
  | build t ps => simp only []; rw [partsO_congr (fun t ht => ha t (by rw [ho]; simpa [Op.operands] using ht))]
  | buildSlice t k ps => simp only []; rw [partsO_congr (fun t ht => ha t (by rw [ho]; simpa [Op.operands] using ht))]
  | makeSlice t x y => exact v2_congr (fun t e => ha t (by rw [ho]; simp [Op.operands, e])) (fun t e => ha t (by rw [ho]; simp [Op.operands, e])) fun _ _ => rfl
  | makeMap t r => cases r <;> rfl
  | lookup t x k ok => exact v2_congr (fun t e => ha t (by rw [ho]; simp [Op.operands, e])) (fun t e => ha t (by rw [ho]; simp [Op.operands, e])) fun _ _ => rfl
  | mapUpdate t x k y =>
    exact v2_congr (fun t e => ha t (by rw [ho]; simp [Op.operands, e])) (fun t e => ha t (by rw [ho]; simp [Op.operands, e])) fun _ _ => v1_congr (fun t e => ha t (by rw [ho]; simp [Op.operands, e])) fun _ => rfl
  | insert t x k y =>
    exact v2_congr (fun t e => ha t (by rw [ho]; simp [Op.operands, e])) (fun t e => ha t (by rw [ho]; simp [Op.operands, e])) fun _ _ => v1_congr (fun t e => ha t (by rw [ho]; simp [Op.operands, e])) fun _ => rfl
  | load t x => exact v1_congr (fun t e => ha t (by rw [ho]; simp [Op.operands, e])) fun _ => rfl
  | store t x y => exact v2_congr (fun t e => ha t (by rw [ho]; simp [Op.operands, e])) (fun t e => ha t (by rw [ho]; simp [Op.operands, e])) fun _ _ => rfl
  | nilCheck x => exact v1_congr (fun t e => ha t (by rw [ho]; simp [Op.operands, e])) fun _ => rfl
  | makeInterface t x => exact v1_congr (fun t e => ha t (by rw [ho]; simp [Op.operands, e])) fun _ => rfl
  | makeFunc f first captured =>
    simp only []
    rw [evalL_congr (l := first.toList) (fun t e => ha t (by rw [ho]; simp [Op.operands] at e ⊢; exact .inl e)), evalL_congr (l := captured.toList) (fun t e => ha t (by rw [ho]; simp [Op.operands] at e ⊢; exact .inr e))]
  | fieldAddr t x f => exact v1_congr (fun t e => ha t (by rw [ho]; simp [Op.operands, e])) fun _ => rfl
  | field t x f => exact v1_congr (fun t e => ha t (by rw [ho]; simp [Op.operands, e])) fun _ => rfl
  | indexAddr t x y => exact v2_congr (fun t e => ha t (by rw [ho]; simp [Op.operands, e])) (fun t e => ha t (by rw [ho]; simp [Op.operands, e])) fun _ _ => rfl
  | index t x y =>
    refine v2_congr (fun t e => ha t (by rw [ho]; simp [Op.operands, e])) (fun t e => ha t (by rw [ho]; simp [Op.operands, e])) fun _ _ => ?_
    split
    · rfl
    · exact g (fun cs b => by rw [ho]; simp)
  | slice t x lo hi mx =>
    cases mx with
    | none =>
      have el : optO E lo = optO E' lo := by cases lo <;> simp [optO]; rw [evalO_congr (fun t e => ha t (by rw [ho]; simp [Op.operands, e]))]
      have eh : optO E hi = optO E' hi := by cases hi <;> simp [optO]; rw [evalO_congr (fun t e => ha t (by rw [ho]; simp [Op.operands, e]))]
      simp only []
      rw [el, eh]
      split
      · refine v1_congr (fun t e => ha t (by rw [ho]; simp [Op.operands, e])) fun _ => ?_
        split
        · rfl
        · exact g (fun cs b => by rw [ho]; simp)
      · rfl
    | some mx => rfl
  | extract x i => exact v1_congr (fun t e => ha t (by rw [ho]; simp [Op.operands, e])) fun _ => rfl
  | typeAssert x xt t ok => exact v1_congr (fun t e => ha t (by rw [ho]; simp [Op.operands, e])) fun _ => rfl
  | binOp op t x y yt =>
    refine v2_congr (fun t e => ha t (by rw [ho]; simp [Op.operands, e])) (fun t e => ha t (by rw [ho]; simp [Op.operands, e])) fun _ _ => ?_
    split
    · exact g (fun cs b => by rw [ho]; simp)
    · rfl
  | unOp op t x => exact g (fun cs b => by rw [ho]; simp)
  | convert s d x => exact g (fun cs b => by rw [ho]; simp)
  | call c =>
    simp only []
    cases hc : c.callee with
    | value f =>
      simp only []
      rw [evalL_congr (l := c.args.toList) (fun t e => ha t (by rw [ho]; simp [Op.operands, Call.operands] at e ⊢; exact .inr e))]
      split
      · exact v1_congr (fun t e => ha t (by rw [ho]; simp [Op.operands, Call.operands, hc, e])) fun _ => rfl
      · rfl
    | builtin b =>
      simp only []
      have hg := g (fun cs b => by rw [ho]; simp)
      have hargs : ∀ x ∈ c.args.toList, ∀ t, x = .tmp t → look E t = look E' t := fun x hx t e => ha t (by rw [ho]; subst e; simp [Op.operands, Call.operands] at hx ⊢; exact .inr hx)
      unfold evBuiltin
      split
      · split
        · rename_i x y hxy
          exact v2_congr (hargs x (by rw [hxy]; simp)) (hargs y (by rw [hxy]; simp)) fun _ _ => rfl
        · rfl
      · split
        · rename_i x t hx ht
          refine v1_congr (hargs x (by rw [hx]; simp)) fun _ => ?_
          split <;> first | rfl | exact hg
        · rfl
      · split
        · rename_i x y hxy
          exact v2_congr (hargs x (by rw [hxy]; simp)) (hargs y (by rw [hxy]; simp)) fun _ _ => rfl
        · rfl
      · split
        · rename_i x t hx ht
          exact v1_congr (hargs x (by rw [hx]; simp)) fun _ => rfl
        · rfl
      · exact hg
    | invoke r mname =>
      simp only []
      rw [evalL_congr (l := c.args.toList) (fun t e => ha t (by rw [ho]; simp [Op.operands, Call.operands] at e ⊢; exact .inr e))]
      split
      · exact v1_congr (fun t e => ha t (by rw [ho]; simp [Op.operands, Call.operands, hc, e])) fun _ => rfl
      · rfl
  | _ => rfl

/-! ### Kinds -/
theorem evGround_pure {o : Oper} {out : Out} (ho : evGround P h E o = some out) : ∃ v, out = .val v h ∧ ∀ h', evGround P h' E o = some (.val v h') := by
  unfold evGround at ho ⊢
  split at ho
  · rename_i vs hvs
    split at ho
    · rename_i hall
      split at ho
      · rename_i v hp
        split at ho
        · rename_i hg
          cases ho
          refine ⟨v, rfl, fun h' => ?_⟩
          simp_all
        · cases ho
      · cases ho
      · cases ho
    · cases ho
  · cases ho

theorem valO_pure {x : Option Value} {out : Out} (ho : valO h x = some out) : ∃ v, out = .val v h ∧ ∀ h', valO h' x = some (.val v h') := by
  obtain ⟨v, rfl, rfl⟩ := valO_some ho
  exact ⟨v, rfl, fun _ => rfl⟩

theorem v1_pure {x : Operand} {k : Hp → Value → Option Out} {out : Out} (ho : v1 E x (k h) = some out) (hk : ∀ v, k h v = some out → ∃ u, out = .val u h ∧ ∀ h', k h' v = some (.val u h')) :
    ∃ u, out = .val u h ∧ ∀ h', v1 E x (k h') = some (.val u h') := by
  obtain ⟨v, h1, h2⟩ := v1_some ho
  obtain ⟨u, e, hu⟩ := hk v h2
  exact ⟨u, e, fun h' => by simp [v1, h1, hu]⟩
theorem v2_pure {x y : Operand} {k : Hp → Value → Value → Option Out} {out : Out} (ho : v2 E x y (k h) = some out) (hk : ∀ v v', k h v v' = some out → ∃ u, out = .val u h ∧ ∀ h', k h' v v' = some (.val u h')) :
    ∃ u, out = .val u h ∧ ∀ h', v2 E x y (k h') = some (.val u h') := by
  obtain ⟨v, v', h1, h1', h2⟩ := v2_some ho
  obtain ⟨u, e, hu⟩ := hk v v' h2
  exact ⟨u, e, fun h' => by simp [v2, h1, h1', hu]⟩

end Go.Ev
