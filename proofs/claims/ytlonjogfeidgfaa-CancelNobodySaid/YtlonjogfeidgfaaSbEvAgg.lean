import Derived.Test.YtlonjogfeidgfaaSbEvMono
import Derived.Laws.StructEq
namespace Go.Ev

/-! ### '==' of structs of plain cells -/

def pureR {α : Type} (P : Program) : Sem α → Option α
  | .pure a => some a
  | .program k => pureR P (k P)
  | .mark _ k => pureR P k
  | _ => none

theorem pureRun_eq (P : Program) (s : Sem Next) : pureRun P s = pureR P s := by
  induction s with
  | program k ih => simp only [pureRun, pureR]; exact ih P
  | mark m k ih => simp only [pureRun, pureR]; exact ih
  | _ => rfl

theorem pureR_bind {α β : Type} (P : Program) (x : Sem α) (f : α → Sem β) : pureR P (x >>= f) = (pureR P x).bind fun a => pureR P (f a) := by
  induction x with
  | pure a => rfl
  | program k ih => exact ih P
  | mark m k ih => exact ih
  | _ => rfl

theorem pureR_pure {α : Type} (P : Program) (a : α) : pureR P (pure a : Sem α) = some a := rfl
theorem pureR_ite {α : Type} (P : Program) (c : Prop) [Decidable c] (x y : Sem α) : pureR P (if c then x else y) = if c then pureR P x else pureR P y := by split <;> rfl
theorem pureR_program (P : Program) : pureR P program = some P := rfl
theorem pureR_underlying {P : Program} {t : TypeId} {d : TypeDesc} (h : P.underlying t = some d) : pureR P (underlying t) = some d := by
  unfold underlying
  simp only [pureR_bind, pureR_program, Option.bind_some, h]
  rfl

/-- Two cells that are plain, held against each other. -/
def leafEq : TypeDesc → Value → Value → Option Bool
  | .int _, .int k a, .int k' b => if k = k' then some (a == b) else none
  | .bool, .bool a, .bool b => some (a == b)
  | .string, .string a, .string b => some (a.toList == b.toList)
  | _, _, _ => none

def plainT : TypeDesc → Bool
  | .int _ | .bool | .string => true
  | _ => false

/-- The plain cells of a struct: where each lies, and of which type. -/
def leavesF (rc : TypeId → Option (Nat × List (Nat × TypeDesc))) (P : Program) : List Field → Option (List (Nat × TypeDesc))
  | [] => some []
  | f :: fs => match f.name == "_", P.underlying f.type, leavesF rc P fs with
    | false, some d, some r => match plainT d, isAggD d with
      | true, _ => some ((f.offset, d) :: r)
      | false, true => match rc f.type with
        | some (n, l) => match l.all fun x => Nat.blt x.1 n with
          | true => some (l.map (fun x => (f.offset + x.1, x.2)) ++ r)
          | false => none
        | none => none
      | false, false => none
    | _, _, _ => none

def leaves (P : Program) : Nat → TypeId → Option (Nat × List (Nat × TypeDesc))
  | 0, _ => none
  | d + 1, t => match P.underlying t, P.info? t, P.stoodInHeld t with
    | some (.struct fs), some i, false => match leavesF (leaves P d) P fs.toList with
      | some l => some (i.size, l)
      | none => none
    | _, _, _ => none

def eqOffs (xs ys : Array Value) : List (Nat × TypeDesc) → Option Bool
  | [] => some true
  | (o, d) :: l => match xs[o]?, ys[o]? with
    | some x, some y => match leafEq d x y with
      | some true => eqOffs xs ys l
      | some false => some false
      | none => none
    | _, _ => none

theorem eqOffs_append (xs ys : Array Value) : ∀ (l m : List (Nat × TypeDesc)), eqOffs xs ys (l ++ m) = match eqOffs xs ys l with
    | some true => eqOffs xs ys m
    | some false => some false
    | none => none
  | [], m => rfl
  | (o, d) :: l, m => by
    simp only [List.cons_append, eqOffs]
    split
    · split
      · exact eqOffs_append xs ys l m
      · rfl
      · rfl
    · rfl

theorem eqOffs_extract (xs ys : Array Value) (o n : Nat) : ∀ (l : List (Nat × TypeDesc)) (r : Bool), (∀ x ∈ l, x.1 < n) → eqOffs xs ys (l.map fun x => (o + x.1, x.2)) = some r → eqOffs (xs.extract o (o + n)) (ys.extract o (o + n)) l = some r
  | [], r, _, h => h
  | (q, d) :: l, r, hl, h => by
    have hq : q < n := hl (q, d) (List.mem_cons_self ..)
    have key : ∀ (zs : Array Value) (z : Value), zs[o + q]? = some z → (zs.extract o (o + n))[q]? = some z := fun zs z hz => by
      obtain ⟨h1, h2⟩ := Array.getElem?_eq_some_iff.1 hz
      rw [Array.getElem?_extract]
      rw [if_pos (by omega), hz]
    simp only [List.map_cons, eqOffs] at h ⊢
    split at h
    · rename_i x y hx hy
      rw [key xs x hx, key ys y hy]
      cases hb : leafEq d x y with
      | none => rw [hb] at h; cases h
      | some c =>
        rw [hb] at h
        cases c with
        | true =>
          have := eqOffs_extract xs ys o n l r (fun x hx => hl x (List.mem_cons_of_mem _ hx)) h
          simpa only [hb] using this
        | false => simpa only [hb] using h
    · cases h

theorem isAgg_of {P : Program} {t : TypeId} {d : TypeDesc} (h : P.underlying t = some d) : pureR P (isAgg t) = some (isAggD d) := by
  unfold isAgg
  simp only [pureR_bind, pureR_underlying h, Option.bind_some]
  cases d <;> rfl

theorem part_plain {P : Program} {t : TypeId} {d : TypeDesc} {cs : Array Value} {o : Nat} {v : Value} (h : P.underlying t = some d) (hp : plainT d = true) (hv : cs[o]? = some v) : pureR P (part t cs o) = some v := by
  have ha : isAggD d = false := by cases d <;> first | rfl | cases hp
  unfold part
  simp only [pureR_bind, isAgg_of h, ha, Option.bind_some, Bool.false_eq_true, if_false, hv]
  rfl
theorem part_agg {P : Program} {t : TypeId} {d : TypeDesc} {i : TypeInfo} {cs : Array Value} {o : Nat} (h : P.underlying t = some d) (ha : isAggD d = true) (hi : P.info? t = some i) : pureR P (part t cs o) = some (.agg (cs.extract o (o + i.size))) := by
  have hs : pureR P (sizeOf t) = some i.size := by
    unfold sizeOf typeInfo
    simp only [pureR_bind, pureR_program, Option.bind_some, hi]
    rfl
  unfold part
  simp only [pureR_bind, isAgg_of h, ha, Option.bind_some, if_true, hs]
  rfl

theorem leaf_snd {P : Program} {t : TypeId} {d : TypeDesc} {x y : Value} {b : Bool} (h : P.underlying t = some d) (hb : leafEq d x y = some b) (k : Nat) : pureR P (Op.equalIn (k + 1) t x y) = some b := by
  unfold leafEq at hb
  split at hb
  · split at hb
    · rename_i hk
      subst hk
      cases hb
      simp [Op.equalIn, pureR_bind, pureR_underlying h, pureR_pure]
    · cases hb
  · cases hb
    simp [Op.equalIn, pureR_bind, pureR_underlying h, pureR_pure]
  · cases hb
    simp [Op.equalIn, pureR_bind, pureR_underlying h, pureR_pure, beq_toListBytes]
  · cases hb

theorem pureR_equalIn_struct {P : Program} (d : Nat) {t : TypeId} {fs : Array Field} (xs ys : Array Value) (ht : P.underlying t = some (.struct fs)) (hp : P.stoodInHeld t = false) :
    pureR P (Op.equalIn (d + 1) t (.agg xs) (.agg ys)) = pureR P (Op.eqFields d xs ys fs.toList) := by
  simp only [Op.equalIn, pureR_bind, pureR_underlying ht, Option.bind_some, pureR_program, hp, Bool.false_eq_true, if_false]
  rw [← Array.forIn_toList]
  generalize fs.toList = fl
  clear ht
  induction fl with
  | nil => simp [Op.eqFields, pureR_pure]
  | cons f fs ih =>
    simp only [List.forIn_cons, Op.eqFields, pureR_bind, pureR_ite]
    split
    · generalize pureR P (part f.type xs f.offset) = r1
      cases r1 with
      | none => rfl
      | some a =>
        simp only [Option.bind_some, pureR_bind]
        generalize pureR P (part f.type ys f.offset) = r2
        cases r2 with
        | none => rfl
        | some b =>
          simp only [Option.bind_some, pureR_bind]
          generalize pureR P (Op.equalIn d f.type a b) = r3
          cases r3 with
          | none => rfl
          | some r =>
            simp only [Option.bind_some]
            cases r
            · simp only [Bool.not_false, if_true, pureR_pure, Option.bind_some]
            · simp only [Bool.not_true, Bool.false_eq_true, if_false, pureR_pure, Option.bind_some]
              exact ih
    · simp only [pureR_pure, Option.bind_some]
      exact ih

theorem leaves_snd {P : Program} : ∀ (d : Nat) {t : TypeId} {n : Nat} {l : List (Nat × TypeDesc)} {xs ys : Array Value} {b : Bool} (k : Nat), leaves P d t = some (n, l) → d ≤ k → eqOffs xs ys l = some b → pureR P (Op.equalIn (k + 1) t (.agg xs) (.agg ys)) = some b ∧ ∃ i, P.info? t = some i ∧ i.size = n
  | 0, t, n, l, xs, ys, b, k, h, _, _ => by simp [leaves] at h
  | d + 1, t, n, l, xs, ys, b, k, h, hk, he => by
    unfold leaves at h
    split at h
    · rename_i fs i h1 h2 h3
      split at h
      · rename_i l' hl
        simp only [Option.some.injEq, Prod.mk.injEq] at h
        obtain ⟨rfl, rfl⟩ := h
        refine ⟨?_, i, h2, rfl⟩
        rw [pureR_equalIn_struct k xs ys h1 h3]
        obtain ⟨k', rfl⟩ : ∃ k', k = k' + 1 := ⟨k - 1, by omega⟩
        generalize fs.toList = fl at hl
        clear h1
        induction fl generalizing l' b with
        | nil =>
          simp only [leavesF, Option.some.injEq] at hl
          subst hl
          simp only [eqOffs, Option.some.injEq] at he
          subst he
          rfl
        | cons f fs ih =>
          simp only [leavesF] at hl
          split at hl
          · rename_i ty r hn hu hr
            have hne : f.name ≠ "_" := by intro e; rw [e] at hn; simp at hn
            simp only [Op.eqFields, if_pos hne, pureR_bind]
            split at hl
            · rename_i hp
              simp only [Option.some.injEq] at hl
              subst hl
              simp only [eqOffs] at he
              split at he
              · rename_i x y hx hy
                rw [part_plain hu hp hx, Option.bind_some, part_plain hu hp hy, Option.bind_some]
                split at he
                · rename_i hb
                  rw [leaf_snd hu hb, Option.bind_some]
                  simp only [Bool.not_true, Bool.false_eq_true, if_false]
                  first | exact ih he hr | exact ih _ he hr | exact ih _ hr he | exact ih _ _ he hr | exact ih _ _ hr he | exact ih _ he _ hr | exact ih _ hr _ he
                · rename_i hb
                  cases he
                  rw [leaf_snd hu hb, Option.bind_some]
                  rfl
                · cases he
              · cases he
            · rename_i hp ha
              split at hl
              · rename_i n' lf hlf
                split at hl
                · rename_i hall
                  simp only [Option.some.injEq] at hl
                  subst hl
                  rw [eqOffs_append] at he
                  have hlt : ∀ x ∈ lf, x.1 < n' := fun x hx => by have := List.all_eq_true.1 hall x hx; simpa [Nat.blt_eq] using this
                  have sub : ∀ c, eqOffs xs ys (lf.map fun x => (f.offset + x.1, x.2)) = some c → ∃ i', P.info? f.type = some i' ∧ pureR P (Op.equalIn (k' + 1) f.type (.agg (xs.extract f.offset (f.offset + i'.size))) (.agg (ys.extract f.offset (f.offset + i'.size)))) = some c := fun c hc => by
                    obtain ⟨_, i', q1, q2⟩ := leaves_snd d (xs := xs.extract f.offset (f.offset + n')) (ys := ys.extract f.offset (f.offset + n')) (b := c) k' hlf (by omega) (eqOffs_extract xs ys f.offset n' lf c hlt hc)
                    obtain ⟨q3, _⟩ := leaves_snd d (xs := xs.extract f.offset (f.offset + n')) (ys := ys.extract f.offset (f.offset + n')) (b := c) k' hlf (by omega) (eqOffs_extract xs ys f.offset n' lf c hlt hc)
                    exact ⟨i', q1, by rw [q2]; exact q3⟩
                  split at he
                  · rename_i hc
                    obtain ⟨i', q1, q2⟩ := sub true hc
                    rw [part_agg hu ha q1, Option.bind_some, part_agg hu ha q1, Option.bind_some, q2, Option.bind_some]
                    simp only [Bool.not_true, Bool.false_eq_true, if_false]
                    first | exact ih he hr | exact ih _ he hr | exact ih _ hr he | exact ih _ _ he hr | exact ih _ _ hr he | exact ih _ he _ hr | exact ih _ hr _ he
                  · rename_i hc
                    cases he
                    obtain ⟨i', q1, q2⟩ := sub false hc
                    rw [part_agg hu ha q1, Option.bind_some, part_agg hu ha q1, Option.bind_some, q2, Option.bind_some]
                    rfl
                  · cases he
                · cases hl
              · cases hl
            · cases hl
          · cases hl
      · cases h
    · cases h

/-- '==' of two structs: what it comes to. -/
def aggEq (P : Program) (t : TypeId) (xs ys : Array Value) : Option Bool := match leaves P 8 t with
  | some (_, l) => match P.eqGuardType P.depth t with
    | false => eqOffs xs ys l
    | true => none
  | none => none

theorem aggEq_snd {P : Program} {t : TypeId} {xs ys : Array Value} {b : Bool} (h : aggEq P t xs ys = some b) {op : BinOp} (hop : op = .eql ∨ op = .neq) (x y : Operand) :
    pureR P (do eqGuard op t x y (.agg xs) (.agg ys); binOp op t (.agg xs) (.agg ys)) = some (.bool (if op = .eql then b else !b)) := by
  unfold aggEq at h
  split at h
  · rename_i n l hl
    split at h
    · rename_i hg
      have he := (leaves_snd 8 9999 hl (by omega) h).1
      have g1 : pureR P (eqGuard op t x y (.agg xs) (.agg ys)) = some () := by
        rcases hop with rfl | rfl <;> simp [eqGuard, pureR_bind, pureR_program, hg, pureR_pure]
      rw [pureR_bind, g1, Option.bind_some]
      have e2 : pureR P (Op.equal t (.agg xs) (.agg ys)) = some b := he
      rcases hop with rfl | rfl
      · simp only [binOp, pureR_bind, e2, Option.bind_some, pureR_pure, if_true]
      · simp only [binOp, pureR_bind, e2, Option.bind_some, pureR_pure]
        rfl
    · cases h
  · cases h

end Go.Ev
