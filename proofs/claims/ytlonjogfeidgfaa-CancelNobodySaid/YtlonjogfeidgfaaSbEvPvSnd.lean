import Derived.Test.YtlonjogfeidgfaaSbEvPv
namespace Go.Ev

variable {P : Program} {E E0 : Env} {s s' : SH} {as r : List Ans} {a : List Asm} {n : Nat} {rd : Bool}

theorem evalO_le (hE : EnvLe E E0) {x : Operand} {v : Value} (h : evalO E x = some v) : evalO E0 x = some v := by
  cases x with
  | tmp t => exact hE t v h
  | const c => exact h
  | func f => exact h
  | global g => exact h

theorem evalL_le (hE : EnvLe E E0) : ∀ {l : List Operand} {vs : List Value}, evalL E l = some vs → evalL E0 l = some vs
  | [], vs, h => h
  | x :: l, vs, h => by
    simp only [evalL] at h ⊢
    split at h
    · rename_i v ws h1 h2
      rw [evalO_le hE h1, evalL_le hE h2]; exact h
    · cases h

theorem partsO_le (hE : EnvLe E E0) : ∀ {l : List (Nat × Operand)} {vs : List (Nat × Value)}, partsO E l = some vs → partsO E0 l = some vs
  | [], vs, h => h
  | (i, x) :: l, vs, h => by
    simp only [partsO] at h ⊢
    split at h
    · rename_i v ws h1 h2
      rw [evalO_le hE h1, partsO_le hE h2]; exact h
    · cases h

theorem optO_le (hE : EnvLe E E0) {x : Option Operand} {r : Option Value} (he : optO E x = some r) : optO E0 x = some r := by
  cases x with
  | none => exact he
  | some x =>
    simp only [optO] at he ⊢
    split at he
    · rename_i v hv; rw [evalO_le hE hv]; exact he
    · cases he

theorem definedO_le (hE : EnvLe E E0) : ∀ {l : List Nat}, definedO E l = true → ∀ t ∈ l, look E t = look E0 t
  | [], _, t, ht => by cases ht
  | x :: l, h, t, ht => by
    simp only [definedO] at h
    split at h
    · rename_i v hv
      rcases List.mem_cons.1 ht with rfl | ht
      · rw [hv, hE t v hv]
      · exact definedO_le hE h t ht
    · cases h

theorem pvPlain_snd (hE : EnvLe E E0) {o : Oper} {out : POut} (h : pvPlain P E o s as = some (out, r, a)) :
    ∃ v, out = .val v s ∧ r = as ∧ a = [] ∧ evOp P s.den E0 o = some (.val v s.den) := by
  unfold pvPlain at h
  split at h
  · rename_i hk hd
    split at h
    · rename_i v h1 hv
      simp only [Option.some.injEq, Prod.mk.injEq] at h
      obtain ⟨rfl, rfl, rfl⟩ := h
      refine ⟨v, rfl, rfl, rfl, ?_⟩
      rw [evOp_congr (E' := E0) fun t ht => definedO_le hE hd t (mem_tmpsOf ht)] at hv
      unfold plainK at hk
      cases hkk : kindOf o with
      | pure =>
        obtain ⟨v', e1, e2⟩ := kind_pure hkk hv
        cases e1; exact e2 _
      | read =>
        obtain ⟨v', e1, e2⟩ := kind_read hkk hv
        cases e1; simpa using e2 s.den
      | alloc => rw [hkk] at hk; cases hk
      | major => rw [hkk] at hk; cases hk
    · cases h
  · cases h

theorem pvLoad_snd {t : TypeId} {av v : Value} (h : pvLoad P s t av as = some (v, r, a)) (ha : AllA P a) : evLoad P s.den t av = some v := by
  unfold pvLoad at h
  split at h
  · split at h
    · rename_i i off h1
      simp only [Option.some.injEq, Prod.mk.injEq] at h
      obtain ⟨rfl, rfl, rfl⟩ := h
      obtain ⟨⟨c, e1, e2⟩, _⟩ := ha
      simp only [evLoad, e1, h1, e2]
    · cases h
  · split at h
    · rename_i i off k h1
      simp only [Option.some.injEq, Prod.mk.injEq] at h
      obtain ⟨rfl, rfl, rfl⟩ := h
      obtain ⟨⟨c, e1, e2, e3⟩, _⟩ := ha
      have : cut c off k = some ((c.drop off).take k) := by unfold cut; rw [Nat.ble_eq_true_of_le e2]
      simp only [evLoad, e1, h1, this, e3]
    · cases h
  · cases h

theorem cut_eq {c l : List Value} {d k : Nat} (h : d + k ≤ c.length) (e : (c.drop d).take k = l) : cut c d k = some l := by
  unfold cut; rw [Nat.ble_eq_true_of_le h, e]

theorem pvAppend_snd {ts : List TypeId} {x y : Value} {out : POut} (h : pvAppend P s ts x y as = some (out, r, a)) (ha : AllA P a) :
    ∃ v s', out = .val v s' ∧ evAppend P s.den ts x y = some (v, s'.den) := by
  unfold pvAppend at h
  split at h
  · rename_i st xt
    split at h
    · rename_i e e' hst hxt
      split at h
      · rename_i inf hinf
        split at h
        · -- nothing appended
          split at h
          · rename_i z hz
            simp only [Option.some.injEq, Prod.mk.injEq] at h
            obtain ⟨rfl, _⟩ := h
            exact ⟨_, _, rfl, by simp [evAppend, hst, hinf, evNews, hxt]⟩
          · rename_i q1 q2 q3 q4 q5 hz
            simp only [Option.some.injEq, Prod.mk.injEq] at h
            obtain ⟨rfl, _⟩ := h
            exact ⟨_, _, rfl, by simp [evAppend, hst, hinf, evNews, hxt]⟩
          · cases h
        · -- nothing of an object
          rename_i j o k z r'
          split at h
          · rename_i zv hzv hz
            simp only [Option.some.injEq, Prod.mk.injEq] at h
            obtain ⟨rfl, rfl, rfl⟩ := h
            obtain ⟨⟨rfl, cj, f1, f2⟩, _⟩ := ha
            have hsz : sizeO P e = some inf.size := by simp [sizeO, hinf]
            have hc : cut cj o (0 * inf.size) = some [] := cut_eq (by simpa using f2) (by simp)
            have hz' : z = inf.size := Nat.eq_of_beq_eq_true hz
            subst hz'
            exact ⟨_, _, rfl, by simp only [evAppend, hst, hinf, evNews, hxt, hsz, f1, hc, hz]⟩
          · rename_i q1 q2 q3 zv hzv hz
            simp only [Option.some.injEq, Prod.mk.injEq] at h
            obtain ⟨rfl, rfl, rfl⟩ := h
            obtain ⟨⟨rfl, cj, f1, f2⟩, _⟩ := ha
            have hsz : sizeO P e = some inf.size := by simp [sizeO, hinf]
            have hc : cut cj o (0 * inf.size) = some [] := cut_eq (by simpa using f2) (by simp)
            have hz' : z = inf.size := Nat.eq_of_beq_eq_true hz
            subst hz'
            exact ⟨_, _, rfl, by simp only [evAppend, hst, hinf, evNews, hxt, hsz, f1, hc, hz]⟩
          · cases h
        · rename_i j o k z c news k' i r'
          split at h
          · rename_i zv hzv
            split at h
            · rename_i g1 g2 g3 g4
              have g4' : z = inf.size := Nat.eq_of_beq_eq_true g4
              split at h
              · simp only [Option.some.injEq, Prod.mk.injEq] at h
                obtain ⟨rfl, rfl, rfl⟩ := h
                obtain ⟨⟨rfl, ⟨cj, f1, f2, f3⟩, f4, f5, f6, rfl⟩, _⟩ := ha
                refine ⟨_, _, rfl, ?_⟩
                have hsz : sizeO P e = some inf.size := by simp [sizeO, hinf]
                subst g4'
                simp only [evAppend, hst, hinf, evNews, hxt, hsz, f1, cut_eq f2 f3, g4, hzv, g1, g2, g3, f4, Nat.ble_eq_true_of_le f5, Nat.ble_eq_true_of_le f6, SH.den]
              · rename_i i0 off n z0
                split at h
                · rename_i g5
                  simp only [Option.some.injEq, Prod.mk.injEq] at h
                  obtain ⟨rfl, rfl, rfl⟩ := h
                  obtain ⟨⟨rfl, ⟨cj, f1, f2, f3⟩, f4, f5, f6, ⟨ci, f7, f8, f9⟩, rfl⟩, _⟩ := ha
                  refine ⟨_, _, rfl, ?_⟩
                  have hsz : sizeO P e = some inf.size := by simp [sizeO, hinf]
                  subst g4'
                  simp only [evAppend, hst, hinf, evNews, hxt, hsz, f1, cut_eq f2 f3, g4, hzv, g1, g2, g3, f4, Nat.ble_eq_true_of_le f5, Nat.ble_eq_true_of_le f6, f7, g5, cut_eq f8 rfl, f9, SH.den]
                · cases h
              · cases h
            · cases h
          · cases h
        · cases h
      · cases h
    · cases h
  · cases h

theorem ev_binInt {h : Hp} {o : Oper} {op : BinOp} {t : TypeId} {x y : Operand} {m : TypeId} {k : IntKind} {p q : Int} {v : Value} (ho : o.op = .binOp op t x y m) (hx : evalO E x = some (.int k p)) (hy : evalO E y = some (.int k q))
    (hs : isCmp op = true ∨ isArith op = true) (hv : (∃ z, cmpB op p q = some z ∧ v = .bool z) ∨ (∃ z, arithI op k p q = some z ∧ v = .int k z)) : evOp P h E o = some (.val v h) := by
  have hg : evGround P h E o = some (.val v h) := by
    have h1 : evalL E o.op.operands.toList = some [.int k p, .int k q] := by
      rw [ho]; simp [Op.operands, evalL, hx, hy]
    have h2 : pureRun P (execOp (fun x => (evalO E x).getD undef) o) = some (.value v) := by
      cases op <;> first | (simp [isCmp, isArith] at hs; done) | (rcases hv with ⟨z, e1, rfl⟩ | ⟨z, e1, rfl⟩ <;> simp [cmpB, arithI] at e1 <;> subst e1 <;> simp [execOp, ho, hx, hy, eqGuard, binOp, Op.intCmp, Op.intArith, pureRun, Bind.bind, Sem.bind, Pure.pure])
    have h3 : ground v = true := by rcases hv with ⟨z, _, rfl⟩ | ⟨z, _, rfl⟩ <;> rfl
    simp [evGround, h1, ground, h2, h3]
  unfold evOp
  rw [ho]
  simp [v2, hx, hy, ground, hg]

theorem ev_binStr {h : Hp} {o : Oper} {op : BinOp} {t : TypeId} {x y : Operand} {m : TypeId} {p q : ByteArray} {z : Bool} (ho : o.op = .binOp op t x y m) (hx : evalO E x = some (.string p)) (hy : evalO E y = some (.string q))
    (hv : (op = .eql ∧ (p.toList == q.toList) = z) ∨ (op = .neq ∧ (!(p.toList == q.toList)) = z)) : evOp P h E o = some (.val (.bool z) h) := by
  have hg : evGround P h E o = some (.val (.bool z) h) := by
    have h1 : evalL E o.op.operands.toList = some [.string p, .string q] := by
      rw [ho]; simp [Op.operands, evalL, hx, hy]
    have h2 : pureRun P (execOp (fun x => (evalO E x).getD undef) o) = some (.value (.bool z)) := by
      rcases hv with ⟨rfl, rfl⟩ | ⟨rfl, rfl⟩ <;> simp [execOp, ho, hx, hy, eqGuard, binOp, Op.stringOp, pureRun, Bind.bind, Sem.bind, Pure.pure]
    simp [evGround, h1, ground, h2]
  unfold evOp
  rw [ho]
  simp [v2, hx, hy, ground, hg]

theorem ev_binAgg {h : Hp} {o : Oper} {op : BinOp} {t : TypeId} {x y : Operand} {m : TypeId} {p q : Array Value} {z : Bool} (ho : o.op = .binOp op t x y m) (hx : evalO E x = some (.agg p)) (hy : evalO E y = some (.agg q))
    (hv : groundA p = true ∧ groundA q = true ∧ ((op = .eql ∧ aggEq P t p q = some z) ∨ (op = .neq ∧ aggEq P t p q = some (!z)))) : evOp P h E o = some (.val (.bool z) h) := by
  obtain ⟨g1, g2, hv⟩ := hv
  have hg : evGround P h E o = some (.val (.bool z) h) := by
    have h1 : evalL E o.op.operands.toList = some [.agg p, .agg q] := by
      rw [ho]; simp [Op.operands, evalL, hx, hy]
    have h2 : pureRun P (execOp (fun x => (evalO E x).getD undef) o) = some (.value (.bool z)) := by
      rw [pureRun_eq]
      have key : ∀ b, aggEq P t p q = some b → (op = .eql ∨ op = .neq) → pureR P (execOp (fun x => (evalO E x).getD undef) o) = some (.value (.bool (if op = .eql then b else !b))) := fun b hb hop => by
        have := aggEq_snd hb hop x y
        unfold execOp
        simp only [ho, hx, hy, Option.getD_some]
        rw [pureR_bind, this]
        rfl
      rcases hv with ⟨rfl, hb⟩ | ⟨rfl, hb⟩
      · simpa using key z hb (.inl rfl)
      · simpa using key (!z) hb (.inr rfl)
    simp [evGround, h1, ground, g1, g2, h2]
  unfold evOp
  rw [ho]
  simp [v2, hx, hy, ground, g1, g2, hg]

theorem ev_binPtr {h : Hp} {o : Oper} {op : BinOp} {t : TypeId} {x y : Operand} {m : TypeId} {i p j q : Nat} {z : Bool} (ho : o.op = .binOp op t x y m) (hx : evalO E x = some (.pointer (some ⟨i, p, none⟩))) (hy : evalO E y = some (.pointer (some ⟨j, q, none⟩)))
    (hv : ∃ e n c d, P.underlying t = some (.pointer e) ∧ sizeO P e = some (n + 1) ∧ ownAt h i = some c ∧ ownAt h j = some d ∧ ((op = .eql ∧ (decide (i = j) && decide (p = q)) = z) ∨ (op = .neq ∧ (!(decide (i = j) && decide (p = q))) = z))) : evOp P h E o = some (.val (.bool z) h) := by
  obtain ⟨e, n, c, d, hu, hs, hi, hj, hv⟩ := hv
  have he : evEq P h t (.pointer (some ⟨i, p, none⟩)) (.pointer (some ⟨j, q, none⟩)) = some (decide (i = j) && decide (p = q)) := by
    simp only [evEq, hu, hs, hi, hj]
    by_cases hij : i = j
    · subst hij
      simp only [Nat.beq_refl, decide_true, Bool.true_and]
      by_cases hpq : p = q
      · subst hpq; simp
      · have : Nat.beq p q = false := by cases hb : Nat.beq p q with | false => rfl | true => exact absurd (Nat.eq_of_beq_eq_true hb) hpq
        simp [this, hpq]
    · have : Nat.beq i j = false := by cases hb : Nat.beq i j with | false => rfl | true => exact absurd (Nat.eq_of_beq_eq_true hb) hij
      simp [this, hij]
  unfold evOp
  rw [ho]
  simp only [v2, hx, hy, ground, Bool.and_self, Bool.false_eq_true]
  rcases hv with ⟨rfl, hz⟩ | ⟨rfl, hz⟩
  · simp only [he, hz]
  · simp only [he, hz]

theorem ev_mm {h : Hp} {o : Oper} {c : Call} {mx : Bool} {x y : Operand} {k k' : IntKind} {p q z : Int} (ho : o.op = .call c) (hc : c.callee = .builtin (if mx = true then .max else .min)) (hl : c.args.toList = [x, y])
    (hx : evalO E x = some (.int k p)) (hy : evalO E y = some (.int k' q)) (hv : (mx = true ∧ (if q > p then q else p) = z) ∨ (mx = false ∧ (if q < p then q else p) = z)) : evOp P h E o = some (.val (.int k z) h) := by
  have hl' : c.args = #[x, y] := by cases h : c.args; simp [h] at hl; simp [hl]
  have hg : evGround P h E o = some (.val (.int k z) h) := by
    have h1 : evalL E o.op.operands.toList = some [.int k p, .int k' q] := by
      rw [ho]; rcases hv with ⟨rfl, _⟩ | ⟨rfl, _⟩ <;> simp [Op.operands, Call.operands, hc, hl', evalL, hx, hy]
    have h2 : pureRun P (execOp (fun x => (evalO E x).getD undef) o) = some (.value (.int k z)) := by
      rcases hv with ⟨rfl, rfl⟩ | ⟨rfl, rfl⟩ <;> simp [execOp, ho, hx, hy, resolve, hc, hl', invoke, builtin, Builtin.max_, Builtin.min_, Builtin.max2, Builtin.min2, pureRun, Bind.bind, Sem.bind, Pure.pure]
    simp [evGround, h1, ground, h2]
  unfold evOp
  rw [ho]
  rcases hv with ⟨rfl, _⟩ | ⟨rfl, _⟩ <;> simp [hc, evBuiltin, hg]

theorem ev_sidx {h : Hp} {o : Oper} {t : TypeId} {x ix : Operand} {b : ByteArray} {k : IntKind} {n z : Int} (ho : o.op = .index t x ix) (hx : evalO E x = some (.string b)) (hi : evalO E ix = some (.int k n)) (ht : P.underlying t = some .string)
    (h0 : 0 ≤ n) {c : UInt8} (hc : b[n.toNat]? = some c) (hz : (c.toNat : Int) = z) : evOp P h E o = some (.val (.int .u8 z) h) := by
  have hg : evGround P h E o = some (.val (.int .u8 z) h) := by
    have h1 : evalL E o.op.operands.toList = some [.string b, .int k n] := by
      rw [ho]; simp [Op.operands, evalL, hx, hi]
    have h2 : pureRun P (execOp (fun x => (evalO E x).getD undef) o) = some (.value (.int .u8 z)) := by
      subst hz
      simp [execOp, ho, hx, hi, Instr.index, asIntOf, underlying, program, pureRun, Bind.bind, Sem.bind, Pure.pure, ht, h0, hc]
    simp [evGround, h1, ground, h2]
  unfold evOp
  rw [ho]
  simp [v2, hx, hi, hg]

theorem pvOp0_snd (hE : EnvLe E E0) {o : Oper} {out : POut} (h : pvOp0 P E o s as = some (out, r, a)) (ha : AllA P a) : match out with
    | .val v s' => evOp P s.den E0 o = some (.val v s'.den)
    | .call f args => evOp P s.den E0 o = some (.call f args) ∧ r = as ∧ a = []
    | .yield i args => evOp P s.den E0 o = some (.yield i args) ∧ r = as ∧ a = [] := by
  have plain : pvPlain P E o s as = some (out, r, a) → match out with
    | .val v s' => evOp P s.den E0 o = some (.val v s'.den)
    | .call f args => evOp P s.den E0 o = some (.call f args) ∧ r = as ∧ a = []
    | .yield i args => evOp P s.den E0 o = some (.yield i args) ∧ r = as ∧ a = [] := fun hp => by
    obtain ⟨v, rfl, rfl, rfl, hv⟩ := pvPlain_snd hE hp
    exact hv
  unfold pvOp0 at h
  split at h
  · -- load
    rename_i t x ho
    split at h
    · rename_i av hav
      split at h
      · rename_i v r' asm hl
        simp only [Option.some.injEq, Prod.mk.injEq] at h
        obtain ⟨rfl, rfl, rfl⟩ := h
        have := pvLoad_snd hl ha
        simp [evOp, ho, v1, evalO_le hE hav, this, valO]
      · cases h
    · cases h
  · -- store
    rename_i t x y ho
    split at h
    · rename_i i off v k c r' h1 h2 h3 _
      split at h
      · rename_i h4 h5
        simp only [Option.some.injEq, Prod.mk.injEq] at h
        obtain ⟨rfl, rfl, rfl⟩ := h
        obtain ⟨⟨c0, e1, e2, rfl⟩, _⟩ := ha
        have hk : v.cells.toList.length = k := Nat.eq_of_beq_eq_true h4
        subst hk
        simp only [evOp, ho, v2, evalO_le hE h1, evalO_le hE h2, evStore, e1, h3, h4, Nat.ble_eq_true_of_le e2, h5, SH.den]
      · cases h
    · cases h
  · -- alloc
    rename_i t ho
    split at h
    · rename_i z i r' h1 _
      split at h
      · rename_i h2
        simp only [Option.some.injEq, Prod.mk.injEq] at h
        obtain ⟨rfl, rfl, rfl⟩ := h
        obtain ⟨rfl, _⟩ := ha
        simp [evOp, ho, evAlloc, h1, h2, newO, evNew, SH.den]
      · cases h
    · cases h
  · -- box
    rename_i t x ho
    split at h
    · rename_i v i r' h1 _
      simp only [Option.some.injEq, Prod.mk.injEq] at h
      obtain ⟨rfl, rfl, rfl⟩ := h
      obtain ⟨rfl, _⟩ := ha
      simp [evOp, ho, v1, evalO_le hE h1, newO, evNew, SH.den]
    · cases h
  · -- buildSlice
    rename_i t len ps ho
    split at h
    · rename_i parts e i r' h1 h2 _
      split at h
      · rename_i z k h3 h4
        split at h
        · rename_i h5 h6 h7
          split at h
          · rename_i cs h8
            simp only [Option.some.injEq, Prod.mk.injEq] at h
            obtain ⟨rfl, rfl, rfl⟩ := h
            obtain ⟨rfl, _⟩ := ha
            simp only [evOp, ho, partsO_le hE h1, evBuildSlice, h2, h3, h4, h5, h6, h7, h8, newO, SH.den]
          · cases h
        · cases h
      · cases h
    · cases h
  · -- makeSlice
    rename_i t x y ho
    split at h
    · rename_i kd n kd' k v c r' h1 h2 _
      simp only [Option.some.injEq, Prod.mk.injEq] at h
      obtain ⟨rfl, rfl, rfl⟩ := h
      obtain ⟨e, _⟩ := ha
      have e : evMakeSlice P s.den t n k = some (v, s.den ++ [.cells c true]) := e
      simp only [evOp, ho, v2, evalO_le hE h1, evalO_le hE h2, e, newO, SH.den]
    · cases h
  · -- indexAddr
    rename_i t x ix ho
    split at h
    · rename_i i off len z k n e q r' h1 h2 h3 _
      split at h
      · rename_i sz h4
        simp only [Option.some.injEq, Prod.mk.injEq] at h
        obtain ⟨rfl, rfl, rfl⟩ := h
        obtain ⟨⟨g1, g2, rfl⟩, _⟩ := ha
        simp only [evOp, ho, v2, evalO_le hE h1, evalO_le hE h2, evIndexAddr, h3, h4, decide_eq_true g1, decide_eq_true g2, valO]
      · cases h
    · rename_i i off k n len e q r' h1 h2 h3 _
      split at h
      · rename_i sz h4
        simp only [Option.some.injEq, Prod.mk.injEq] at h
        obtain ⟨rfl, rfl, rfl⟩ := h
        obtain ⟨⟨g1, g2, rfl⟩, _⟩ := ha
        simp only [evOp, ho, v2, evalO_le hE h1, evalO_le hE h2, evIndexAddr, h3, h4, decide_eq_true g1, decide_eq_true g2, valO]
      · cases h
    · cases h
  · -- index
    rename_i t x ix ho
    split at h
    · rename_i z r' _
      split at h
      · rename_i b k n h1 h2 h3
        simp only [Option.some.injEq, Prod.mk.injEq] at h
        obtain ⟨rfl, rfl, rfl⟩ := h
        obtain ⟨⟨g1, c, g2, g3⟩, _⟩ := ha
        exact ev_sidx ho (evalO_le hE h1) (evalO_le hE h2) h3 g1 g2 g3
      · exact plain h
    · exact plain h
  · -- slice
    rename_i t x lo hi ho
    split at h
    · rename_i a b r' _
      split at h
      · rename_i i off len z lv hv e h1 h2 h3 h4
        split at h
        · rename_i sz h5
          split at h
          · rename_i h6
            simp only [Option.some.injEq, Prod.mk.injEq] at h
            obtain ⟨rfl, rfl, rfl⟩ := h
            obtain ⟨⟨g1, g2⟩, _⟩ := ha
            simp only [evOp, ho, v1, evalO_le hE h1, optO_le hE h2, optO_le hE h3, evSlice, h4, g1, g2, h5, h6, valO]
          · cases h
        · cases h
      · cases h
    · exact plain h
  · -- binOp
    rename_i op t x y m ho
    split at h
    · rename_i z r' _
      split at h
      · rename_i k p k' q h1 h2
        split at h
        · rename_i h3 h4
          simp only [Option.some.injEq, Prod.mk.injEq] at h
          obtain ⟨rfl, rfl, rfl⟩ := h
          obtain ⟨h5, _⟩ := ha
          have h4' : k = k' := of_decide_eq_true h4
          subst h4'
          exact ev_binInt ho (evalO_le hE h1) (evalO_le hE h2) (.inl h3) (.inl ⟨z, h5, rfl⟩)
        · cases h
      · rename_i p q h1 h2
        simp only [Option.some.injEq, Prod.mk.injEq] at h
        obtain ⟨rfl, rfl, rfl⟩ := h
        obtain ⟨h5, _⟩ := ha
        exact ev_binStr ho (evalO_le hE h1) (evalO_le hE h2) h5
      · rename_i p q h1 h2
        simp only [Option.some.injEq, Prod.mk.injEq] at h
        obtain ⟨rfl, rfl, rfl⟩ := h
        obtain ⟨h5, _⟩ := ha
        exact ev_binAgg ho (evalO_le hE h1) (evalO_le hE h2) h5
      · rename_i i o1 j o2 h1 h2
        simp only [Option.some.injEq, Prod.mk.injEq] at h
        obtain ⟨rfl, rfl, rfl⟩ := h
        obtain ⟨h5, _⟩ := ha
        exact ev_binPtr ho (evalO_le hE h1) (evalO_le hE h2) h5
      · exact plain h
    · rename_i z r' _
      split at h
      · rename_i k p k' q h1 h2
        split at h
        · rename_i h3 h4
          simp only [Option.some.injEq, Prod.mk.injEq] at h
          obtain ⟨rfl, rfl, rfl⟩ := h
          obtain ⟨h5, _⟩ := ha
          have h4' : k = k' := of_decide_eq_true h4
          subst h4'
          exact ev_binInt ho (evalO_le hE h1) (evalO_le hE h2) (.inr h3) (.inr ⟨z, h5, rfl⟩)
        · cases h
      · exact plain h
    · exact plain h
  · -- call
    rename_i c ho
    split at h
    · rename_i f hc
      split at h
      · rename_i l fv h1 h2
        split at h
        · rename_i g b h3
          simp only [Option.some.injEq, Prod.mk.injEq] at h
          obtain ⟨rfl, rfl, rfl⟩ := h
          refine ⟨?_, rfl, rfl⟩
          simp only [evOp, ho, hc, evalL_le hE h1, v1, evalO_le hE h2, h3]
        · rename_i i b h3
          simp only [Option.some.injEq, Prod.mk.injEq] at h
          obtain ⟨rfl, rfl, rfl⟩ := h
          refine ⟨?_, rfl, rfl⟩
          simp only [evOp, ho, hc, evalL_le hE h1, v1, evalO_le hE h2, h3]
        · cases h
      · cases h
    · rename_i hc
      split at h
      · rename_i x y hl
        split at h
        · rename_i xv yv h1 h2
          obtain ⟨v, s1, rfl, hv⟩ := pvAppend_snd h ha
          simp only [evOp, ho, hc, evBuiltin, hl, v2, evalO_le hE h1, evalO_le hE h2, hv, newO]
        · cases h
      · cases h
    · rename_i hc
      split at h
      · rename_i x y z r' hl _
        split at h
        · rename_i k p k' q h1 h2
          simp only [Option.some.injEq, Prod.mk.injEq] at h
          obtain ⟨rfl, rfl, rfl⟩ := h
          exact ev_mm (mx := true) ho hc hl (evalO_le hE h1) (evalO_le hE h2) ha.1
        · cases h
      · cases h
    · rename_i hc
      split at h
      · rename_i x y z r' hl _
        split at h
        · rename_i k p k' q h1 h2
          simp only [Option.some.injEq, Prod.mk.injEq] at h
          obtain ⟨rfl, rfl, rfl⟩ := h
          exact ev_mm (mx := false) ho hc hl (evalO_le hE h1) (evalO_le hE h2) ha.1
        · cases h
      · cases h
    · exact plain h
    · cases h
  · exact plain h

/-- What an operation's walk must come to. -/
def POut.ok (P : Program) (E0 : Env) (o : Oper) (s : SH) (as r : List Ans) (a : List Asm) : POut → Prop
  | .val v s' => evOp P s.den E0 o = some (.val v s'.den)
  | .call f args => evOp P s.den E0 o = some (.call f args) ∧ r = as ∧ a = []
  | .yield i args => evOp P s.den E0 o = some (.yield i args) ∧ r = as ∧ a = []

theorem pvOp_snd (hE : EnvLe E E0) {o : Oper} {out : POut} (h : pvOp P E o s as = some (out, r, a)) (ha : AllA P a) : out.ok P E0 o s as r a := by
  unfold pvOp at h
  split at h
  · split at h
    · split at h
      · rename_i hd
        split at h
        · rename_i v h' he
          simp only [Option.some.injEq, Prod.mk.injEq] at h
          obtain ⟨rfl, rfl, rfl⟩ := h
          rw [evOp_congr (E' := E0) fun t ht => definedO_le hE hd t (mem_tmpsOf ht)] at he
          exact he
        · cases h
      · cases h
    · have := pvOp0_snd hE h ha
      cases out <;> exact this
  · have := pvOp0_snd hE h ha
    cases out <;> exact this

/-! ### Steps, regions, code -/

/-- A callee's walk is sound. -/
def PCSnd (P : Program) (C : PC) : Prop := ∀ {f args s as v s' r a}, C f args s as = some (v, s', r, a) → AllA P a → Run P f args s.den v s'.den

theorem pvStep_snd {C : PC} (hC : PCSnd P C) (hE : EnvLe E E0) {o : Oper} {v : Value} (h : pvStep P C E o s as = some (v, s', r, a)) (ha : AllA P a) :
    Evt fun k => evStep P (evCall P k) s.den E0 o = some (v, s'.den) := by
  unfold pvStep at h
  split at h
  · rename_i v' s1 r1 a1 ho
    simp only [Option.some.injEq, Prod.mk.injEq] at h
    obtain ⟨rfl, rfl, rfl, rfl⟩ := h
    have : evOp P s.den E0 o = some (.val v' s1.den) := pvOp_snd hE ho ha
    exact .of fun k => by simp only [evStep, this]
  · rename_i f args v' s1 r1 a1 ho
    simp only [Option.some.injEq, Prod.mk.injEq] at h
    obtain ⟨rfl, rfl, rfl, rfl⟩ := h
    have := (pvOp_snd hE ho ha.2).1
    have hr : Run P f args s.den v' s1.den := ha.1
    exact hr.mono fun k hk => by simp only [evStep, this, hk]
  · rename_i f args r1 a1 ho
    split at h
    · rename_i v' s1 r2 b hc
      simp only [Option.some.injEq, Prod.mk.injEq] at h
      obtain ⟨rfl, rfl, rfl, rfl⟩ := h
      have := (pvOp_snd hE ho ha.app.2).1
      exact (hC hc ha.app.1).mono fun k hk => by simp only [evStep, this, hk]
    · cases h
  · rename_i f args k r1 a1 ho
    split at h
    · rename_i v' h1 hc
      simp only [Option.some.injEq, Prod.mk.injEq] at h
      obtain ⟨rfl, rfl, rfl, rfl⟩ := h
      have := (pvOp_snd hE ho ha).1
      exact (Run.of_ev hc).mono fun k hk => by simp only [evStep, this, hk, SH.den]
    · cases h
  · rename_i i args v' s1 r1 a1 ho
    simp only [Option.some.injEq, Prod.mk.injEq] at h
    obtain ⟨rfl, rfl, rfl, rfl⟩ := h
    have := (pvOp_snd hE ho ha.2).1
    have hr : RunR P i args s.den v' s1.den := ha.1
    exact hr.mono fun k hk => by simp only [evStep, this, hk]
  · cases h

theorem wantedO_le (hE : EnvLe E E0) {ops : Array Oper} {o : Oper} {b : Bool} (h : wantedO ops E o = some b) : wantedO ops E0 o = some b := by
  unfold wantedO at h ⊢
  split
  · rename_i hg; simpa [hg] using h
  · rename_i j w hg
    simp only [hg] at h
    split at h
    · rename_i d hd
      split at h
      · rename_i x hx; rw [hE _ _ hx]; exact h
      · rename_i hx; rw [hE _ _ hx]; exact h
      · cases h
    · cases h

theorem putE_le (hE : EnvLe E E0) {d : Option Tmp} {v : Value} {E1 : Env} (h : putE n E d v = some E1) : ∃ E2, putE n E0 d v = some E2 ∧ EnvLe E1 E2 := by
  unfold putE at h ⊢
  split at h
  · simp at h; subst h; exact ⟨E0, rfl, hE⟩
  · rename_i t
    split at h
    · rename_i hlt
      simp only [Option.some.injEq] at h
      subst h
      exact ⟨_, rfl, hE.cons t v⟩
    · cases h

theorem pvOps_snd {C : PC} (hC : PCSnd P C) {ops : Array Oper} : ∀ {l : List Oper} {E E0 : Env} {s s' : SH} {as r : List Ans} {a : List Asm} {E1 : Env}, EnvLe E E0 → pvOps P C n ops l E s as = some (E1, s', r, a) → AllA P a →
    ∃ E2, EnvLe E1 E2 ∧ Evt fun k => evOps P (evCall P k) n ops l E0 s.den = some (E2, s'.den)
  | [], E, E0, s, s', as, r, a, E1, hE, h, _ => by
    simp only [pvOps, Option.some.injEq, Prod.mk.injEq] at h
    obtain ⟨rfl, rfl, rfl, rfl⟩ := h
    exact ⟨E0, hE, .of fun k => rfl⟩
  | o :: l, E, E0, s, s', as, r, a, E1, hE, h, ha => by
    unfold pvOps at h
    split at h
    · rename_i hw
      split at h
      · rename_i v s1 r1 a1 hs
        split at h
        · rename_i E' hp
          split at h
          · rename_i E2 s2 r2 b hr
            simp only [Option.some.injEq, Prod.mk.injEq] at h
            obtain ⟨rfl, rfl, rfl, rfl⟩ := h
            obtain ⟨E3, hp', hE'⟩ := putE_le hE hp
            obtain ⟨E4, hE4, hrun⟩ := pvOps_snd hC hE' hr ha.app.2
            refine ⟨E4, hE4, (pvStep_snd hC hE hs ha.app.1).map2 hrun fun k h1 h2 => ?_⟩
            simp only [evOps, wantedO_le hE hw, h1, hp', h2]
          · cases h
        · cases h
      · cases h
    · rename_i hw
      split at h
      · rename_i E' hp
        obtain ⟨E3, hp', hE'⟩ := putE_le hE hp
        obtain ⟨E4, hE4, hrun⟩ := pvOps_snd hC hE' h ha
        refine ⟨E4, hE4, hrun.mono fun k h2 => ?_⟩
        simp only [evOps, wantedO_le hE hw, hp', h2]
      · cases h
    · cases h

theorem CRun.of_loop {b : Code} {h h' : Hp} {x : Ex} {E' : Env} (hl : LRun P n rd b E h x E' h') : CRun P n rd (.loop b) E h x E' h' := by
  obtain ⟨k0, hk⟩ := hl
  exact ⟨k0, fun k hkk => by simp only [evCode]; exact hk k k hkk hkk⟩

theorem LRun.last {b : Code} {h h' : Hp} {x : Ex} {E' : Env} (hb : CRun P n rd b E h x E' h') (hx : x ≠ .normal) : LRun P n rd b E h x E' h' := by
  obtain ⟨k0, hk⟩ := hb
  refine ⟨k0 + 1, fun j i hj hi => ?_⟩
  obtain ⟨i, rfl⟩ : ∃ q, i = q + 1 := ⟨i - 1, by omega⟩
  simp only [evLoop, hk j (by omega)]
  cases x <;> first | rfl | exact absurd rfl hx

theorem LRun.step {b : Code} {h h1 h' : Hp} {x : Ex} {E1 E' : Env} (hb : CRun P n rd b E h .normal E1 h1) (hl : LRun P n rd b E1 h1 x E' h') : LRun P n rd b E h x E' h' := by
  obtain ⟨k0, hk⟩ := hb
  obtain ⟨k1, hk1⟩ := hl
  refine ⟨k0 + k1 + 1, fun j i hj hi => ?_⟩
  obtain ⟨i, rfl⟩ : ∃ q, i = q + 1 := ⟨i - 1, by omega⟩
  simp only [evLoop, hk j (by omega)]
  exact hk1 j i (by omega) (by omega)

/-- A trace told and a trace run. -/
def TrRel : List (Env × SH) → List (Env × Hp) → Prop
  | [], [] => True
  | (E, s) :: l, (E0, h) :: l' => EnvLe E E0 ∧ h = s.den ∧ TrRel l l'
  | _, _ => False

theorem TrRel.get : ∀ {l : List (Env × SH)} {l' : List (Env × Hp)} {q : Nat} {E : Env} {s : SH}, TrRel l l' → l[q]? = some (E, s) → ∃ E0, l'[q]? = some (E0, s.den) ∧ EnvLe E E0
  | [], [], q, E, s, _, h => by simp at h
  | (E1, s1) :: l, (E2, h2) :: l', 0, E, s, hr, h => by
    simp at h; obtain ⟨rfl, rfl⟩ := h
    exact ⟨E2, by rw [hr.2.1]; rfl, hr.1⟩
  | (E1, s1) :: l, (E2, h2) :: l', q + 1, E, s, hr, h => by
    simpa using TrRel.get hr.2.2 (by simpa using h)

theorem pvTrace_snd {C : PC} (hC : PCSnd P C) {ops : Array Oper} : ∀ {l : List Oper} {E E0 : Env} {s : SH} {as r : List Ans} {a : List Asm} {tr : List (Env × SH)}, EnvLe E E0 → pvTrace P C n ops l E s as = some (tr, r, a) → AllA P a →
    ∃ tr', TrRel tr tr' ∧ Evt fun k => traceO P (evCall P k) n ops l E0 s.den = some tr'
  | [], E, E0, s, as, r, a, tr, hE, h, _ => by
    simp only [pvTrace, Option.some.injEq, Prod.mk.injEq] at h
    obtain ⟨rfl, rfl, rfl⟩ := h
    exact ⟨[(E0, s.den)], ⟨hE, rfl, trivial⟩, .of fun k => rfl⟩
  | o :: l, E, E0, s, as, r, a, tr, hE, h, ha => by
    unfold pvTrace at h
    split at h
    · rename_i hw
      split at h
      · rename_i v s1 r1 a1 hs
        split at h
        · rename_i E' hp
          split at h
          · rename_i tr2 r2 b hr
            simp only [Option.some.injEq, Prod.mk.injEq] at h
            obtain ⟨rfl, rfl, rfl⟩ := h
            obtain ⟨E3, hp', hE'⟩ := putE_le hE hp
            obtain ⟨tr4, ht, hrun⟩ := pvTrace_snd hC hE' hr ha.app.2
            refine ⟨(E0, s.den) :: tr4, ⟨hE, rfl, ht⟩, (pvStep_snd hC hE hs ha.app.1).map2 hrun fun k h1 h2 => ?_⟩
            simp only [traceO, stepO, wantedO_le hE hw, h1, hp', h2]
          · cases h
        · cases h
      · cases h
    · rename_i hw
      split at h
      · rename_i E' hp
        split at h
        · rename_i tr2 r2 b hr
          simp only [Option.some.injEq, Prod.mk.injEq] at h
          obtain ⟨rfl, rfl, rfl⟩ := h
          obtain ⟨E3, hp', hE'⟩ := putE_le hE hp
          obtain ⟨tr4, ht, hrun⟩ := pvTrace_snd hC hE' hr ha
          refine ⟨(E0, s.den) :: tr4, ⟨hE, rfl, ht⟩, hrun.mono fun k h2 => ?_⟩
          simp only [traceO, stepO, wantedO_le hE hw, hp', h2]
        · cases h
      · cases h
    · cases h

theorem veqB (z : Bool) : veq (.bool z) (.bool z) = true := by simp [veq]

theorem pairAsm_snd {ops : Array Oper} {tr : List (Env × SH)} {tr' : List (Env × Hp)} (ht : TrRel tr tr') {ij : Nat × Nat} {b : List Asm} (h : pairAsm P ops tr ij = some b) (hb : AllA P b) : pairSame P ops tr' ij = true := by
  unfold pairAsm at h
  split at h
  · rename_i o E s E' s' E1 s1 E2 s2 h1 h2 h3 h4 h5
    obtain ⟨F, f1, f2⟩ := ht.get h2
    obtain ⟨F1, f3, _⟩ := ht.get h4
    obtain ⟨F2, f4, _⟩ := ht.get h5
    have fin : ∀ v, kindOf o = .read → wantedO ops E o = some true → veq v v = true → evOp P s.den F o = some (.val v s.den) → evOp P s1.den F o = some (.val v s1.den) → evOp P s2.den F o = some (.val v s2.den) → pairSame P ops tr' ij = true := by
      intro v hkr hw hv g1 g2 g3
      simp only [pairSame, h1, f1, f3, f4, wantedO_le f2 hw, hkr, g1, g2, g3, hv, Bool.and_self]
    split at h
    · rename_i hw
      simp only [pairSame, h1, f1, f3, f4, wantedO_le f2 hw]
    · rename_i hw
      split at h
      · rename_i hka
        have fk : ∀ c, AllA P [Asm.kept s s1 s2 c] → pairSame P ops tr' ij = true := by
          intro c hc
          obtain ⟨⟨k1, k2, k3⟩, _⟩ := hc
          simp only [pairSame, h1, f1, f3, f4, wantedO_le f2 hw, hka, madeSame, ownAt_some k1, ownAt_some k2, k3]
        split at h
        · simp only [Option.some.injEq] at h; subst h; exact fk _ hb
        · split at h
          · simp only [Option.some.injEq] at h; subst h; exact fk _ hb
          · cases h
        · cases h
      rename_i hkr
      split at h
      · rename_i t x d ho _
        split at h
        · rename_i av v hav hv
          simp only [Option.some.injEq] at h
          subst h
          obtain ⟨⟨a1, a2⟩, ⟨a3, _⟩, ⟨a4, _⟩, _⟩ := hb
          have ld : ∀ s : SH, evLoad P s.den t av = some v → evOp P s.den F o = some (.val v s.den) := fun s hs => by
            simp [evOp, ho, v1, evalO_le f2 hav, hs, valO]
          exact fin v hkr hw a2 (ld _ a1) (ld _ a3) (ld _ a4)
        · cases h
      · rename_i op t x y m d ho _
        split at h
        · rename_i k p k' q z e1 e2 e3
          split at h
          · rename_i g1 g2
            have g2' : k = k' := of_decide_eq_true g2
            subst g2'
            simp only [Option.some.injEq] at h
            subst h
            have := fun s : SH => ev_binInt (P := P) (h := s.den) ho (evalO_le f2 e1) (evalO_le f2 e2) (.inl g1) (.inl ⟨z, hb.1, rfl⟩)
            exact fin _ hkr hw (veqB z) (this _) (this _) (this _)
          · cases h
        · rename_i k p k' q k2 z e1 e2 e3
          split at h
          · rename_i g1 g2
            have g2' : k = k' := of_decide_eq_true g2
            subst g2'
            simp only [Option.some.injEq] at h
            subst h
            have := fun s : SH => ev_binInt (P := P) (h := s.den) ho (evalO_le f2 e1) (evalO_le f2 e2) (.inr g1) (.inr ⟨z, hb.1, rfl⟩)
            exact fin _ hkr hw hb.2.1 (this _) (this _) (this _)
          · cases h
        · split at h
          · rename_i v s3 r3 a3 hp
            simp only [Option.some.injEq] at h
            subst h
            have mv : ∀ s' : SH, evOp P s'.den F o = some (.val v s'.den) := fun s' => by
              have : pvPlain P E o s' [] = some (.val v s', [], []) := by
                unfold pvPlain at hp ⊢
                split at hp
                · rename_i w1 w2
                  split at hp
                  · rename_i v0 hh he
                    simp only [Option.some.injEq, Prod.mk.injEq, POut.val.injEq] at hp
                    rw [← hp.1.1]
                  · cases hp
                · cases hp
              obtain ⟨v', q1, _, _, q2⟩ := pvPlain_snd f2 this
              cases q1; exact q2
            exact fin v hkr hw hb.1 (mv _) (mv _) (mv _)
          · cases h
      · cases h
      · cases h
    · cases h
  · cases h

theorem pairAsms_snd {ops : Array Oper} {tr : List (Env × SH)} {tr' : List (Env × Hp)} (ht : TrRel tr tr') : ∀ {l : List (Nat × Nat)} {b : List Asm}, pairAsms P ops tr l = some b → AllA P b → l.all (pairSame P ops tr') = true
  | [], b, h, _ => rfl
  | p :: l, b, h, hb => by
    simp only [pairAsms] at h
    split at h
    · rename_i a1 a2 h1 h2
      simp only [Option.some.injEq] at h
      subst h
      simp only [List.all_cons, pairAsm_snd ht h1 hb.app.1, pairAsms_snd ht h2 hb.app.2, Bool.and_self]
    · cases h

theorem pvDraw_snd {C : PC} (hC : PCSnd P C) {ops : Array Oper} {E1 : Env} (hE : EnvLe E E0) (h : pvDraw P C n ops E s as = some (E1, s', r, a)) (ha : AllA P a) :
    ∃ E2, EnvLe E1 E2 ∧ Evt fun k => evDraw P (evCall P k) n ops E0 s.den = some (E2, s'.den) := by
  unfold pvDraw at h
  split at h
  · rename_i hp
    split at h
    · rename_i E' s1 r1 a1 h1
      simp only [Option.some.injEq, Prod.mk.injEq] at h
      obtain ⟨rfl, rfl, rfl, rfl⟩ := h
      obtain ⟨E2, hE2, c1⟩ := pvOps_snd hC hE h1 ha.2
      have st : statOk ops = true := ha.1
      exact ⟨E2, hE2, c1.mono fun k e1 => by simp only [evDraw, st, hp, e1]⟩
    · cases h
  · rename_i p ps hp
    split at h
    · rename_i tr r1 a1 h1
      split at h
      · rename_i b E' s1 h2 h3
        simp only [Option.some.injEq, Prod.mk.injEq] at h
        obtain ⟨rfl, rfl, rfl, rfl⟩ := h
        obtain ⟨tr', ht, c1⟩ := pvTrace_snd hC hE h1 ha.2.app.2
        have st : statOk ops = true := ha.1
        have hps := pairAsms_snd ht h2 ha.2.app.1
        obtain ⟨E2, e2, hE2⟩ := ht.get h3
        exact ⟨E2, hE2, c1.mono fun k e1 => by simp only [evDraw, st, hp, e1, hps, e2]⟩
      · cases h
    · cases h

theorem pvLoop_snd {body : Env → SH → List Ans → Option (Ex × Env × SH × List Ans × List Asm)} {b : Code}
    (hb : ∀ {E E0 : Env} {s s' : SH} {as r : List Ans} {a : List Asm} {E1 : Env} {x : Ex}, EnvLe E E0 → body E s as = some (x, E1, s', r, a) → AllA P a → ∃ E2, EnvLe E1 E2 ∧ CRun P n rd b E0 s.den x E2 s'.den) :
    ∀ {m : Nat} {E E0 : Env} {s s' : SH} {as r : List Ans} {a : List Asm} {E1 : Env} {x : Ex}, EnvLe E E0 → pvLoop body m E s as = some (x, E1, s', r, a) → AllA P a → ∃ E2, EnvLe E1 E2 ∧ LRun P n rd b E0 s.den x E2 s'.den
  | 0, E, E0, s, s', as, r, a, E1, x, hE, h, ha => by simp [pvLoop] at h
  | m + 1, E, E0, s, s', as, r, a, E1, x, hE, h, ha => by
    unfold pvLoop at h
    split at h
    · rename_i E' s1 r1 a1 h1
      split at h
      · rename_i y E2 s2 r2 b h2
        simp only [Option.some.injEq, Prod.mk.injEq] at h
        obtain ⟨rfl, rfl, rfl, rfl, rfl⟩ := h
        obtain ⟨E3, hE3, c1⟩ := hb hE h1 ha.app.1
        obtain ⟨E4, hE4, c2⟩ := pvLoop_snd hb hE3 h2 ha.app.2
        exact ⟨E4, hE4, .step c1 c2⟩
      · cases h
    · rename_i hx
      obtain ⟨E3, hE3, c1⟩ := hb hE h ha
      refine ⟨E3, hE3, .last c1 fun e => ?_⟩
      subst e
      exact hx _ _ _ _ h

theorem pvCode_snd {C : PC} (hC : PCSnd P C) : ∀ {c : Code} {E E0 : Env} {s s' : SH} {as r : List Ans} {a : List Asm} {E1 : Env} {x : Ex}, EnvLe E E0 → pvCode P C n rd c E s as = some (x, E1, s', r, a) → AllA P a →
    ∃ E2, EnvLe E1 E2 ∧ CRun P n rd c E0 s.den x E2 s'.den := by
  intro c
  induction c with
  | skip =>
    intro E E0 s s' as r a E1 x hE h ha
    simp only [pvCode, Option.some.injEq, Prod.mk.injEq] at h
    obtain ⟨rfl, rfl, rfl, rfl, rfl⟩ := h
    exact ⟨E0, hE, .of fun k => rfl⟩
  | label l =>
    intro E E0 s s' as r a E1 x hE h ha
    simp only [pvCode, Option.some.injEq, Prod.mk.injEq] at h
    obtain ⟨rfl, rfl, rfl, rfl, rfl⟩ := h
    exact ⟨E0, hE, .of fun k => rfl⟩
  | ret =>
    intro E E0 s s' as r a E1 x hE h ha
    simp only [pvCode, Option.some.injEq, Prod.mk.injEq] at h
    obtain ⟨rfl, rfl, rfl, rfl, rfl⟩ := h
    exact ⟨E0, hE, .of fun k => rfl⟩
  | exit id =>
    intro E E0 s s' as r a E1 x hE h ha
    simp only [pvCode, Option.some.injEq, Prod.mk.injEq] at h
    obtain ⟨rfl, rfl, rfl, rfl, rfl⟩ := h
    exact ⟨E0, hE, .of fun k => rfl⟩
  | seq c d ihc ihd =>
    intro E E0 s s' as r a E1 x hE h ha
    simp only [pvCode] at h
    split at h
    · rename_i E' s1 r1 a1 h1
      split at h
      · rename_i y E2 s2 r2 b h2
        simp only [Option.some.injEq, Prod.mk.injEq] at h
        obtain ⟨rfl, rfl, rfl, rfl, rfl⟩ := h
        obtain ⟨E3, hE3, c1⟩ := ihc hE h1 ha.app.1
        obtain ⟨E4, hE4, c2⟩ := ihd hE3 h2 ha.app.2
        exact ⟨E4, hE4, c1.map2 c2 fun k e1 e2 => by simp only [evCode, e1, e2]⟩
      · cases h
    · rename_i y E' s1 r1 a1 hx h1
      simp only [Option.some.injEq, Prod.mk.injEq] at h
      obtain ⟨rfl, rfl, rfl, rfl, rfl⟩ := h
      obtain ⟨E3, hE3, c1⟩ := ihc hE h1 ha
      refine ⟨E3, hE3, c1.mono fun k e1 => ?_⟩
      simp only [evCode, e1]
      cases y with
      | normal => exact (hx rfl).elim
      | ret => rfl
      | exit j => rfl
    · cases h
  | cond c y z ihy ihz =>
    intro E E0 s s' as r a E1 x hE h ha
    simp only [pvCode] at h
    split at h
    · rename_i hc
      obtain ⟨E3, hE3, c1⟩ := ihy hE h ha
      exact ⟨E3, hE3, c1.mono fun k e1 => by simp only [evCode, evalO_le hE hc, e1]⟩
    · rename_i hc
      obtain ⟨E3, hE3, c1⟩ := ihz hE h ha
      exact ⟨E3, hE3, c1.mono fun k e1 => by simp only [evCode, evalO_le hE hc, e1]⟩
    · cases h
  | block id b ih =>
    intro E E0 s s' as r a E1 x hE h ha
    simp only [pvCode] at h
    split at h
    · rename_i j E' s1 r1 a1 h1
      obtain ⟨E3, hE3, c1⟩ := ih hE h1 (by split at h <;> (simp only [Option.some.injEq, Prod.mk.injEq] at h; obtain ⟨_, _, _, _, rfl⟩ := h; exact ha))
      split at h
      · rename_i hj
        simp only [Option.some.injEq, Prod.mk.injEq] at h
        obtain ⟨rfl, rfl, rfl, rfl, rfl⟩ := h
        exact ⟨E3, hE3, c1.mono fun k e1 => by simp only [evCode, e1, hj]⟩
      · rename_i hj
        simp only [Option.some.injEq, Prod.mk.injEq] at h
        obtain ⟨rfl, rfl, rfl, rfl, rfl⟩ := h
        exact ⟨E3, hE3, c1.mono fun k e1 => by simp only [evCode, e1, hj]⟩
    · rename_i hx
      obtain ⟨E3, hE3, c1⟩ := ih hE h ha
      refine ⟨E3, hE3, c1.mono fun k e1 => ?_⟩
      simp only [evCode, e1]
      cases x with
      | exit j => exact absurd h (hx _ _ _ _ _)
      | normal => rfl
      | ret => rfl
  | loop b ih =>
    intro E E0 s s' as r a E1 x hE h ha
    simp only [pvCode] at h
    split at h
    · simp only [Option.some.injEq, Prod.mk.injEq] at h
      obtain ⟨rfl, rfl, rfl, rfl, rfl⟩ := h
      obtain ⟨E2, hE2, hl⟩ := ha.1 E0 hE
      exact ⟨E2, hE2, .of_loop hl⟩
    · obtain ⟨E2, hE2, hl⟩ := pvLoop_snd ih hE h ha
      exact ⟨E2, hE2, .of_loop hl⟩
    · cases h
  | region id ops d =>
    intro E E0 s s' as r a E1 x hE h ha
    cases d with
    | false =>
      simp only [pvCode] at h
      split at h
      · rename_i E' s1 r1 a1 h1
        simp only [Option.some.injEq, Prod.mk.injEq] at h
        obtain ⟨rfl, rfl, rfl, rfl, rfl⟩ := h
        obtain ⟨E2, hE2, c1⟩ := pvOps_snd hC hE h1 ha
        exact ⟨E2, hE2, c1.mono fun k e1 => by simp only [evCode, e1]⟩
      · cases h
    | true =>
      simp only [pvCode] at h
      split at h
      · rename_i E' s1 r1 a1 h1
        simp only [Option.some.injEq, Prod.mk.injEq] at h
        obtain ⟨rfl, rfl, rfl, rfl, rfl⟩ := h
        obtain ⟨E2, hE2, c1⟩ := pvDraw_snd hC hE h1 ha
        exact ⟨E2, hE2, c1.mono fun k e1 => by simp only [evCode, e1]⟩
      · cases h
  | _ =>
    intro E E0 s s' as r a E1 x hE h ha
    simp only [pvCode] at h
    cases h

theorem pvResult_snd (hE : EnvLe E E0) {rv : ResultVar} {v : Value} (h : pvResult P E s as rv = some (v, r, a)) (ha : AllA P a) : evResult P E0 s.den rv = some v := by
  unfold pvResult at h
  split at h
  · split at h
    · rename_i u hu
      simp only [Option.some.injEq, Prod.mk.injEq] at h
      obtain ⟨rfl, rfl, rfl⟩ := h
      simp only [evResult, hE _ _ hu]
    · cases h
  · split at h
    · rename_i u hu
      simp only [evResult, hE _ _ hu, pvLoad_snd h ha]
    · cases h

theorem pvResultL_snd (hE : EnvLe E E0) : ∀ {l : List ResultVar} {vs : List Value} {as r : List Ans} {a : List Asm}, pvResultL P E s l as = some (vs, r, a) → AllA P a → evResultL P E0 s.den l = some vs
  | [], vs, as, r, a, h, ha => by
    simp only [pvResultL, Option.some.injEq, Prod.mk.injEq] at h
    obtain ⟨rfl, rfl, rfl⟩ := h
    rfl
  | x :: l, vs, as, r, a, h, ha => by
    simp only [pvResultL] at h
    split at h
    · rename_i v q a1 h1
      split at h
      · rename_i ws q' b h2
        simp only [Option.some.injEq, Prod.mk.injEq] at h
        obtain ⟨rfl, rfl, rfl⟩ := h
        simp only [evResultL, pvResult_snd hE h1 ha.app.1, pvResultL_snd hE h2 ha.app.2]
      · cases h
    · cases h

theorem pvResults_snd (hE : EnvLe E E0) {fn : Func} {v : Value} (h : pvResults P fn E s as = some (v, r, a)) (ha : AllA P a) : evResults P fn E0 s.den = some v := by
  unfold pvResults at h
  split at h
  · rename_i u q b h1
    simp only [Option.some.injEq, Prod.mk.injEq] at h
    obtain ⟨rfl, rfl, rfl⟩ := h
    simp only [evResults, pvResultL_snd hE h1 ha]
  · rename_i vs q b hx h1
    simp only [Option.some.injEq, Prod.mk.injEq] at h
    obtain ⟨rfl, rfl, rfl⟩ := h
    simp only [evResults, pvResultL_snd hE h1 ha]
  · cases h

theorem Run.of_body {f : FuncId} {args : List Value} {h h' : Hp} {v : Value} (ha : args ≠ []) (hb : Evt fun k => evBody P (evCall P k) k f args h = some (v, h')) : Run P f args h v h' :=
  hb.succ.mono fun k ⟨j, hj, e⟩ => by
    subst hj
    have : args.isEmpty = false := by cases args; exact absurd rfl ha; rfl
    simp only [evCall, this, Bool.false_and]; exact e

theorem pvFn_snd {C : PC} (hC : PCSnd P C) {f : FuncId} {fn : Func} (hf : P.funcs[f]? = some fn) {args : List Value} {v : Value} (h : pvFn P C fn args s as = some (v, s', r, a)) (ha : AllA P a) : Run P f args s.den v s'.den := by
  unfold pvFn at h
  split at h
  · cases h
  · split at h
    rotate_left
    · cases h
    rename_i c hc
    refine .of_body (by simp) ?_
    split at h
    · rename_i E s1 r1 a1 h1
      split at h
      · rename_i u r2 b h2
        simp only [Option.some.injEq, Prod.mk.injEq] at h
        obtain ⟨rfl, rfl, rfl, rfl⟩ := h
        obtain ⟨E2, hE2, c1⟩ := pvCode_snd hC (EnvLe.refl _) h1 ha.app.1
        have := pvResults_snd hE2 h2 ha.app.2
        exact c1.mono fun k e1 => by simp only [evBody, hf, hc, e1, this]
      · cases h
    · rename_i E s1 r1 a1 h1
      split at h
      · rename_i u r2 b h2
        simp only [Option.some.injEq, Prod.mk.injEq] at h
        obtain ⟨rfl, rfl, rfl, rfl⟩ := h
        obtain ⟨E2, hE2, c1⟩ := pvCode_snd hC (EnvLe.refl _) h1 ha.app.1
        have := pvResults_snd hE2 h2 ha.app.2
        exact c1.mono fun k e1 => by simp only [evBody, hf, hc, e1, this]
      · cases h
    · cases h

theorem pvCall_snd : ∀ k, PCSnd P (pvCall P k)
  | 0 => fun h _ => by simp [pvCall] at h
  | k + 1 => fun h ha => by
    simp only [pvCall] at h
    split at h
    · rename_i fn hf
      exact pvFn_snd (pvCall_snd k) hf h ha
    · cases h

end Go.Ev
