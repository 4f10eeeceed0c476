import Derived.Test.YtalfgifleahabaaGreatDoorSbEvMap
namespace Go.Ev
open Go.RowKit

variable {P : Program} {B : Bs} {w0 : World} {m : Pl} {h : Hp} {w : World} {E : Env} {a : Act}

/-- What the soundness of an operation says. -/
def OutSnd (P : Program) (B : Bs) (w0 : World) (m : Pl) (h : Hp) (w : World) (r : Result Next) : Out → Prop
  | .val v h' => ∃ m' u w', Stp m h m' h' ∧ Sim B w0 m' h' w' ∧ VRel m' v u ∧ (r = .ok (.value u) w' ∨ (r = .ok .skip w' ∧ u = undef)) ∧ (h' = h → m' = m)
  | .call f args => ∃ us, VRels m args us ∧ r = (callFunc f us.toArray).run P w
  | .yield i args => ∃ us p, VRels m args us ∧ m i = some p ∧ r = (Instr.yield p.block us.toArray).run P w

theorem OutSnd.of_good {v : Value} {h' : Hp} {x : Sem Value} (hg : Good B w0 m h v h' (x.run P w)) :
    OutSnd P B w0 m h w ((do let u ← x; pure (Next.value u) : Sem Next).run P w) (.val v h') := by
  obtain ⟨m', u, w', h1, h2, h3, h4, h5⟩ := hg
  exact ⟨m', u, w', h1, h2, h3, .inl (by simp [h4]), h5⟩
theorem OutSnd.of_run (s : Sim B w0 m h w) {v : Value} {x : Sem Value} (hg : ∃ r, x.run P w = .ok r w ∧ VRel m v r) :
    OutSnd P B w0 m h w ((do let u ← x; pure (Next.value u) : Sem Next).run P w) (.val v h) := by
  obtain ⟨r, h1, h2⟩ := hg
  exact OutSnd.of_good ⟨m, r, w, Stp.refl m h, s, h2, h1, fun _ => rfl⟩
theorem OutSnd.of_val (s : Sim B w0 m h w) {v u : Value} (hr : VRel m v u) : OutSnd P B w0 m h w ((pure (Next.value u) : Sem Next).run P w) (.val v h) :=
  ⟨m, u, w, Stp.refl m h, s, hr, .inl rfl, fun _ => rfl⟩

theorem v1_some {x : Operand} {k : Value → Option Out} {out : Out} (hv : v1 E x k = some out) : ∃ v, evalO E x = some v ∧ k v = some out := by
  unfold v1 at hv
  split at hv
  · rename_i v h1; exact ⟨v, h1, hv⟩
  · cases hv
theorem v2_some {x y : Operand} {k : Value → Value → Option Out} {out : Out} (hv : v2 E x y k = some out) : ∃ v u, evalO E x = some v ∧ evalO E y = some u ∧ k v u = some out := by
  unfold v2 at hv
  split at hv
  · rename_i v u h1 h2; exact ⟨v, u, h1, h2, hv⟩
  · cases hv
theorem valO_some {o : Option Value} {out : Out} (hv : valO h o = some out) : ∃ v, o = some v ∧ out = .val v h := by
  unfold valO at hv
  split at hv
  · cases hv; exact ⟨_, rfl, rfl⟩
  · cases hv
theorem newO_some {o : Option (Value × Hp)} {out : Out} (hv : newO o = some out) : ∃ v h', o = some (v, h') ∧ out = .val v h' := by
  unfold newO at hv
  split at hv
  · cases hv; exact ⟨_, _, rfl, rfl⟩
  · cases hv

theorem evalL_get : ∀ {xs : List Operand} {vs : List Value}, evalL E xs = some vs → ∀ x ∈ xs, ∃ v ∈ vs, evalO E x = some v
  | [], vs, _, x, hx => by cases hx
  | y :: xs, vs, hv, x, hx => by
    simp only [evalL] at hv
    split at hv
    · rename_i v vs' h1 h2
      cases hv
      rcases List.mem_cons.1 hx with rfl | hx
      · exact ⟨v, by simp, h1⟩
      · obtain ⟨u, hu, he⟩ := evalL_get h2 x hx
        exact ⟨u, by simp [hu], he⟩
    · cases hv

theorem evGround_snd (s : Sim B w0 m h w) (he : EnvRel m E a.tmps) {o : Oper} {out : Out} (hsel : ∀ cs b, o.op ≠ .select cs b) (hl : evGround P h E o = some out) :
    OutSnd P B w0 m h w ((execOp a.eval o).run P w) out := by
  unfold evGround at hl
  split at hl
  · rename_i vs hvs
    split at hl
    · rename_i hall
      split at hl
      · rename_i v hp
        split at hl
        · rename_i hg
          cases hl
          have hc : execOp a.eval o = execOp (fun x => (evalO E x).getD undef) o := by
            refine execOp_congr o hsel fun x hx => ?_
            obtain ⟨u, hu, hxu⟩ := evalL_get hvs x (by simpa using hx)
            have := (evalO_rel he hxu).ground (List.all_eq_true.1 hall u hu)
            rw [hxu, Option.getD_some, this]
          rw [hc, pureRun_run _ hp w]
          exact ⟨m, v, w, Stp.refl m h, s, VRel.refl m v hg, .inl rfl, fun _ => rfl⟩
        · cases hl
      · cases hl
      · cases hl
    · cases hl
  · cases hl

theorem optO_rel (he : EnvRel m E a.tmps) {x : Option Operand} {v : Option Value} (hv : optO E x = some v) : ORel m v (x.map a.eval) := by
  unfold optO at hv
  split at hv
  · cases hv; trivial
  · split at hv
    · rename_i h1; cases hv; exact evalO_rel he h1
    · cases hv

theorem evNil_snd {v r u : Value} (hl : evNil v = some r) (hr : VRel m v u) : r = v ∧ ((∃ b, u = .pointer (some b)) ∨ (∃ t x, u = .iface t x) ∨ (∃ f x y, u = .func (.func f) x y)) := by
  unfold evNil at hl
  split at hl
  · cases hl
    refine ⟨rfl, .inl ?_⟩
    obtain ⟨b', rfl, hb⟩ := hr.ptr_any_inv
    cases b' with
    | none => simp at hb
    | some b' => exact ⟨_, rfl⟩
  · cases hl
    obtain ⟨x, rfl, _⟩ := hr.iface_inv
    exact ⟨rfl, .inr (.inl ⟨_, _, rfl⟩)⟩
  · cases hl
    cases hr with
    | func f a b c d h1 h2 hf e1 e2 => exact ⟨rfl, .inr (.inr ⟨_, _, _, rfl⟩)⟩
  · cases hl

theorem evAssert_snd {v u r : Value} {xt t : TypeId} {ok : Bool} (hl : evAssert P v t ok = some r) (hr : VRel m v u) (w : World) : ∃ y, (Instr.typeAssert u xt t ok).run P w = .ok y w ∧ VRel m r y := by
  unfold evAssert at hl
  split at hl
  · cases hl
  · rename_i d tt x hni hu
    obtain ⟨y, rfl, hy⟩ := hr.iface_inv
    have hd : ∀ q, d ≠ .interface q := fun q e => hni q e
    by_cases hut : tt = t
    · subst hut
      have hb : Nat.beq tt tt = true := Nat.beq_refl _
      simp only [hb] at hl
      cases ok with
      | true =>
        simp only at hl; cases hl
        refine ⟨.tuple #[y, .bool true], ?_, VRel.tuple_l (.cons hy (.cons (.bool _) (.nil m)))⟩
        cases d <;> first | exact absurd rfl (hd _) | simp [Instr.typeAssert, run_underlying hu]
      | false =>
        simp only at hl; cases hl
        refine ⟨y, ?_, hy⟩
        cases d <;> first | exact absurd rfl (hd _) | simp [Instr.typeAssert, run_underlying hu]
    · have hb : Nat.beq tt t = false := by
        cases hb : Nat.beq tt t with
        | false => rfl
        | true => exact absurd (Nat.eq_of_beq_eq_true hb) hut
      simp only [hb] at hl
      cases ok with
      | true =>
        simp only at hl
        split at hl
        · rename_i z hz
          split at hl
          · rename_i hg
            cases hl
            refine ⟨.tuple #[z, .bool false], ?_, VRel.tuple_l (.cons (VRel.refl m z hg) (.cons (.bool _) (.nil m)))⟩
            cases d <;> first | exact absurd rfl (hd _) | simp [Instr.typeAssert, run_underlying hu, hut, run_zeroO hz]
          · cases hl
        · cases hl
      | false => cases hl
  · rename_i d hni hu
    have := hr.nilIface_inv; subst this
    have hd : ∀ q, d ≠ .interface q := fun q e => hni q e
    split at hl
    · rename_i z hz
      split at hl
      · rename_i hg
        cases hl
        refine ⟨.tuple #[z, .bool false], ?_, VRel.tuple_l (.cons (VRel.refl m z hg) (.cons (.bool _) (.nil m)))⟩
        cases d <;> first | exact absurd rfl (hd _) | simp [Instr.typeAssert, run_underlying hu, run_zeroO hz]
      · cases hl
    · cases hl
  · cases hl

theorem VRel.func_inv {g : FuncId} {x y : Array Value} {u : Value} (hr : VRel m (.func (.func g) x y) u) : ∃ x' y', u = .func (.func g) x' y' ∧ VRels m x.toList x'.toList ∧ VRels m y.toList y'.toList := by
  cases hr with
  | func f a b c d h1 h2 hf e1 e2 => exact ⟨_, _, rfl, VRels.of_arr h1 e1, VRels.of_arr h2 e2⟩

theorem evCallV_snd {f u : Value} {args us : List Value} {out : Out} (hl : evCallV f args = some out) (hr : VRel m f u) (ha : VRels m args us) :
    OutSnd P B w0 m h w ((do let d ← Deferred.ofValue u us.toArray; invoke d.target d.args : Sem Next).run P w) out := by
  unfold evCallV at hl
  split at hl
  · cases hl
    obtain ⟨x', y', rfl, h1, h2⟩ := hr.func_inv
    refine ⟨x'.toList ++ us ++ y'.toList, (h1.append ha).append h2, ?_⟩
    have e : (x'.toList ++ us ++ y'.toList).toArray = x' ++ us.toArray ++ y' := by apply Array.ext'; simp
    rw [e]
    rfl
  · cases hl
    cases hr with
    | func f a b c d h1 h2 hf e1 e2 => exact absurd rfl (hf _)
    | yield i p hp =>
      refine ⟨us, p, ha, hp, ?_⟩
      simp [Deferred.ofValue, invoke]
  · cases hl

theorem evBuiltin_snd (s : Sim B w0 m h w) (he : EnvRel m E a.tmps) {o : Oper} {c : Call} {b : Builtin} (ho : o.op = .call c) (hc : c.callee = .builtin b) {out : Out}
    (hl : evBuiltin P h E o b c.args.toList c.argTypes.toList = some out) : OutSnd P B w0 m h w ((execOp a.eval o).run P w) out := by
  have hsel : ∀ cs b, o.op ≠ .select cs b := fun cs b => by rw [ho]; simp
  have hex : execOp a.eval o = builtin b c.argTypes o.type (c.args.map fun | .const _ => true | _ => false) (c.args.map a.eval) := by
    simp only [execOp, ho, resolve, hc]
    rfl
  unfold evBuiltin at hl
  split at hl
  · split at hl
    · rename_i x y hargs
      obtain ⟨v, u, h1, h2, h3⟩ := v2_some hl
      obtain ⟨r, h', h4, rfl⟩ := newO_some h3
      have ha : c.args.map a.eval = #[a.eval x, a.eval y] := by
        apply Array.ext'; simp [hargs]
      rw [hex, ha]
      have := evAppend_snd s o.type h4 (evalO_rel he h1) (evalO_rel he h2)
      simp only [Array.toArray_toList] at this
      exact OutSnd.of_good this
    · cases hl
  · split at hl
    · rename_i x t hargs hts
      obtain ⟨v, h1, h2⟩ := v1_some hl
      split at h2
      · rename_i b1 n z e hu
        cases h2
        have ha : c.args.map a.eval = #[a.eval x] := by
          apply Array.ext'; simp [hargs]
        have ht : c.argTypes = #[t] := by apply Array.ext'; simp [hts]
        obtain ⟨b2, c2, hv, _⟩ := (evalO_rel he h1).slice_any_inv
        rw [hex, ha, ht, hv]
        exact ⟨m, .int .i64 n, w, Stp.refl m h, s, .int _ _, .inl (by simp [builtin, Builtin.len_, run_underlying hu, goInt]), fun _ => rfl⟩
      · cases h2
      · exact evGround_snd s he hsel h2
    · cases hl
  · split at hl
    · rename_i x y hargs
      obtain ⟨v, u, h1, h2, h3⟩ := v2_some hl
      obtain ⟨r, h', h4, rfl⟩ := newO_some h3
      have ha : c.args.map a.eval = #[a.eval x, a.eval y] := by
        apply Array.ext'; simp [hargs]
      rw [hex, ha]
      have := evCopy_snd s o.type h4 (evalO_rel he h1) (evalO_rel he h2)
      simp only [Array.toArray_toList] at this
      exact OutSnd.of_good this
    · cases hl
  · split at hl
    · rename_i x t hargs hts
      obtain ⟨v, h1, h2⟩ := v1_some hl
      split at h2
      · rename_i h' hcl
        cases h2
        have ha : c.args.map a.eval = #[a.eval x] := by
          apply Array.ext'; simp [hargs]
        have ht : c.argTypes = #[t] := by apply Array.ext'; simp [hts]
        obtain ⟨w', h3, h4⟩ := evClear_snd (ty := o.type) s hcl (evalO_rel he h1)
        rw [hex, ha, ht]
        exact ⟨m, .tuple #[], w', Stp.same (evClear_len hcl), h4, VRel.refl m _ rfl, .inl (by simp [builtin, h3]), fun _ => rfl⟩
      · cases h2
    · cases hl
  · exact evGround_snd s he hsel hl

theorem eqGuard_run {op : BinOp} (hop : op = .eql ∨ op = .neq) {t : TypeId} {x y : Operand} {v u : Value} (h1 : eqPlain v = true) (h2 : (v = .nilIface ∧ u = .nilIface) → False) :
    (eqGuard op t x y v u).run P w = .ok () w := by
  rcases hop with rfl | rfl <;> cases v <;> simp [eqPlain] at h1 <;> cases u <;> first | exact (h2 ⟨rfl, rfl⟩).elim | simp [eqGuard]

theorem map_parts (ps : Array (Nat × Operand)) : (ps.map fun (i, x) => (i, a.eval x)).toList = ps.toList.map (fun x => (x.1, a.eval x.2)) := by simp

theorem evOp_snd (s : Sim B w0 m h w) (he : EnvRel m E a.tmps) {o : Oper} {out : Out} (hl : evOp P h E o = some out) :
    OutSnd P B w0 m h w ((execOp a.eval o).run P w) out := by
  unfold evOp at hl
  split at hl
  · rename_i x ho
    obtain ⟨v, h1, h2⟩ := v1_some hl
    cases h2
    simp only [execOp, ho]
    exact OutSnd.of_val s (evalO_rel he h1)
  · rename_i x ho
    obtain ⟨v, h1, h2⟩ := v1_some hl
    cases h2
    simp only [execOp, ho]
    exact OutSnd.of_val s (evalO_rel he h1)
  · rename_i c x y ho
    obtain ⟨v, h1, h2⟩ := v1_some hl
    have hc := evalO_rel he h1
    split at h2
    · obtain ⟨v, h3, h4⟩ := v1_some h2
      cases h4
      have : a.eval c = .bool true := by generalize a.eval c = q at hc; cases hc; rfl
      simp only [execOp, ho, this, asBool]
      exact OutSnd.of_val s (evalO_rel he h3)
    · obtain ⟨v, h3, h4⟩ := v1_some h2
      cases h4
      have : a.eval c = .bool false := by generalize a.eval c = q at hc; cases hc; rfl
      simp only [execOp, ho, this, asBool]
      exact OutSnd.of_val s (evalO_rel he h3)
    · cases h2
  · rename_i t ho
    obtain ⟨v, h', h1, rfl⟩ := newO_some hl
    simp only [execOp, ho]
    exact OutSnd.of_good (evAlloc_snd s h1)
  · rename_i t x ho
    obtain ⟨v, h1, h2⟩ := v1_some hl
    obtain ⟨r, h', h3, rfl⟩ := newO_some h2
    cases h3
    simp only [execOp, ho]
    exact OutSnd.of_good (evBox_snd s t (evalO_rel he h1))
  · rename_i t ps ho
    split at hl
    · rename_i l hp
      obtain ⟨v, h1, rfl⟩ := valO_some hl
      obtain ⟨k1, k2⟩ := partsO_rel he hp
      simp only [execOp, ho]
      refine OutSnd.of_good (evBuild_snd s h1 ?_ ?_)
      · rw [map_parts]; exact k1
      · rw [map_parts]; exact k2
    · cases hl
  · rename_i t n ps ho
    split at hl
    · rename_i l hp
      obtain ⟨v, h', h1, rfl⟩ := newO_some hl
      obtain ⟨k1, k2⟩ := partsO_rel he hp
      simp only [execOp, ho]
      refine OutSnd.of_good (evBuildSlice_snd s h1 ?_ ?_)
      · rw [map_parts]; exact k1
      · rw [map_parts]; exact k2
    · cases hl
  · rename_i t x y ho
    obtain ⟨a1, b1, h1, h2, h3⟩ := v2_some hl
    split at h3
    · rename_i kd n kd' k
      obtain ⟨v, h', h4, rfl⟩ := newO_some h3
      have e1 := evalO_rel he h1
      have e2 := evalO_rel he h2
      simp only [execOp, ho]
      generalize a.eval x = q1 at e1
      generalize a.eval y = q2 at e2
      cases e1
      cases e2
      exact OutSnd.of_good (evMakeSlice_snd s h4)
    · cases h3
  · rename_i t ho
    obtain ⟨v, h', h1, rfl⟩ := newO_some hl
    cases h1
    simp only [execOp, ho]
    exact OutSnd.of_good (evMakeMap_snd s t)
  · rename_i t x k ok ho
    obtain ⟨v, u, h1, h2, h3⟩ := v2_some hl
    obtain ⟨r, h4, rfl⟩ := valO_some h3
    simp only [execOp, ho]
    exact OutSnd.of_run s (evLookup_snd s h4 (evalO_rel he h1) (evalO_rel he h2))
  · rename_i t x k y ho
    obtain ⟨v, u, h1, h2, h3⟩ := v2_some hl
    obtain ⟨z, h4, h5⟩ := v1_some h3
    split at h5
    · rename_i h' h6
      cases h5
      obtain ⟨w', k1, k2⟩ := evMapUpdate_snd (P := P) s h6 (evalO_rel he h1) (evalO_rel he h2) (evalO_rel he h4)
      refine ⟨m, undef, w', Stp.same (evMapUpdate_len h6), k2, VRel.refl m _ rfl, .inr ⟨?_, rfl⟩, fun _ => rfl⟩
      simp [execOp, ho, k1]
    · cases h5
  · rename_i t x k y ho
    obtain ⟨v, u, h1, h2, h3⟩ := v2_some hl
    obtain ⟨z, h4, h5⟩ := v1_some h3
    split at h5
    · rename_i h' h6
      cases h5
      obtain ⟨w', k1, k2⟩ := evMapUpdate_snd (P := P) s h6 (evalO_rel he h1) (evalO_rel he h2) (evalO_rel he h4)
      refine ⟨m, undef, w', Stp.same (evMapUpdate_len h6), k2, VRel.refl m _ rfl, .inr ⟨?_, rfl⟩, fun _ => rfl⟩
      simp [execOp, ho, k1]
    · cases h5
  · rename_i t x ho
    obtain ⟨v, h1, h2⟩ := v1_some hl
    obtain ⟨r, h3, rfl⟩ := valO_some h2
    simp only [execOp, ho]
    exact OutSnd.of_run s (evLoad_snd s h3 (evalO_rel he h1))
  · rename_i t x y ho
    obtain ⟨v, u, h1, h2, h3⟩ := v2_some hl
    split at h3
    · rename_i h' h4
      cases h3
      obtain ⟨w', k1, k2⟩ := evStore_snd (P := P) s h4 (evalO_rel he h1) (evalO_rel he h2)
      refine ⟨m, undef, w', Stp.same (evStore_len h4), k2, VRel.refl m _ rfl, .inr ⟨?_, rfl⟩, fun _ => rfl⟩
      simp [execOp, ho, k1]
    · cases h3
  · rename_i x ho
    obtain ⟨v, h1, h2⟩ := v1_some hl
    obtain ⟨r, h3, rfl⟩ := valO_some h2
    obtain ⟨rfl, hc⟩ := evNil_snd h3 (evalO_rel he h1)
    refine ⟨m, a.eval x, w, Stp.refl m h, s, evalO_rel he h1, .inl ?_, fun _ => rfl⟩
    rcases hc with ⟨b, hb⟩ | ⟨t, y, hb⟩ | ⟨f, y, z, hb⟩ <;> simp [execOp, ho, hb]
  · rename_i t x ho
    obtain ⟨v, h1, h2⟩ := v1_some hl
    split at h2
    · cases h2
    · rename_i d hni hu
      cases h2
      simp only [execOp, ho]
      refine OutSnd.of_run s ⟨.iface t (a.eval x), ?_, .iface t _ _ (evalO_rel he h1)⟩
      cases d <;> first | exact (hni _ rfl).elim | simp [Instr.makeInterface, run_underlying hu]
    · cases h2
  · rename_i f first captured ho
    split at hl
    · split at hl
      · rename_i x y h1 h2
        cases hl
        simp only [execOp, ho]
        have r1 := evalL_rel he h1
        have r2 := evalL_rel he h2
        refine OutSnd.of_run s ⟨_, rfl, ?_⟩
        refine .func _ _ _ _ _ ?_ ?_ (fun l e => by cases e) ?_ ?_
        · have := r1.1; simpa using this
        · have := r2.1; simpa using this
        · intro j hj hj'
          exact r1.2 j _ _ (by simp) (by rw [List.getElem?_map, Array.getElem?_toList, Array.getElem?_eq_getElem (by simpa using hj')]; simp)
        · intro j hj hj'
          exact r2.2 j _ _ (by simp) (by rw [List.getElem?_map, Array.getElem?_toList, Array.getElem?_eq_getElem (by simpa using hj')]; simp)
      · cases hl
    · cases hl
  · rename_i t x f ho
    obtain ⟨v, h1, h2⟩ := v1_some hl
    obtain ⟨r, h3, rfl⟩ := valO_some h2
    simp only [execOp, ho]
    exact OutSnd.of_run s (evFieldAddr_snd h3 (evalO_rel he h1) w)
  · rename_i t x f ho
    obtain ⟨v, h1, h2⟩ := v1_some hl
    obtain ⟨r, h3, rfl⟩ := valO_some h2
    simp only [execOp, ho]
    exact OutSnd.of_run s (evField_snd h3 (evalO_rel he h1) w)
  · rename_i t x ix ho
    obtain ⟨v, u, h1, h2, h3⟩ := v2_some hl
    obtain ⟨r, h4, rfl⟩ := valO_some h3
    simp only [execOp, ho]
    exact OutSnd.of_run s (evIndexAddr_snd h4 (evalO_rel he h1) (evalO_rel he h2) w)
  · rename_i t x ix ho
    obtain ⟨v, u, h1, h2, h3⟩ := v2_some hl
    split at h3
    · obtain ⟨r, h4, rfl⟩ := valO_some h3
      simp only [execOp, ho]
      exact OutSnd.of_run s (evIndex_snd h4 (evalO_rel he h1) (evalO_rel he h2) w)
    · exact evGround_snd s he (fun cs b => by rw [ho]; simp) h3
  · rename_i t x lo hi ho
    split at hl
    · rename_i vlo vhi hlo hhi
      obtain ⟨v, h1, h2⟩ := v1_some hl
      split at h2
      · obtain ⟨r, h4, rfl⟩ := valO_some h2
        simp only [execOp, ho]
        exact OutSnd.of_run s (evSlice_snd h4 (evalO_rel he h1) (optO_rel he hlo) (optO_rel he hhi) w)
      · exact evGround_snd s he (fun cs b => by rw [ho]; simp) h2
    · cases hl
  · rename_i t i ho
    obtain ⟨v, h1, h2⟩ := v1_some hl
    have hr := evalO_rel he h1
    split at h2
    · rename_i vs
      obtain ⟨r, h4, rfl⟩ := valO_some h2
      simp only [execOp, ho]
      cases hv : a.eval t <;> rw [hv] at hr <;> cases hr
      rename_i hsz e
      have hrs := VRels.of_arr hsz e
      obtain ⟨u, hu, hur⟩ := hrs.get (j := i) (by simpa using h4)
      refine OutSnd.of_run s ⟨u, ?_, hur⟩
      simp only [Array.getElem?_toList] at hu
      simp [Instr.extract, hu]
    · cases h2
  · rename_i x xt t ok ho
    obtain ⟨v, h1, h2⟩ := v1_some hl
    obtain ⟨r, h3, rfl⟩ := valO_some h2
    simp only [execOp, ho]
    exact OutSnd.of_run s (evAssert_snd h3 (evalO_rel he h1) w)
  · rename_i op t x y yt ho
    obtain ⟨v, u, h1, h2, h3⟩ := v2_some hl
    split at h3
    · exact evGround_snd s he (fun cs b => by rw [ho]; simp) h3
    · have hnn : (ground v && ground u) = false → (a.eval x = .nilIface ∧ a.eval y = .nilIface) → False := by
        intro hgr hn
        have r1 := evalO_rel he h1
        have r2 := evalO_rel he h2
        rw [hn.1] at r1; rw [hn.2] at r2
        cases r1; cases r2
        simp [ground] at hgr
      rename_i hgr
      split at h3
      · split at h3
        · rename_i r h4
          cases h3
          obtain ⟨k1, k2⟩ := evEq_snd s h4 (evalO_rel he h1) (evalO_rel he h2)
          refine ⟨m, .bool r, w, Stp.refl m h, s, .bool _, .inl ?_, fun _ => rfl⟩
          simp [execOp, ho, eqGuard_run (P := P) (w := w) (t := t) (x := x) (y := y) (.inl rfl) k1 (hnn hgr), binOp_eql k1 k2]
        · cases h3
      · split at h3
        · rename_i r h4
          cases h3
          obtain ⟨k1, k2⟩ := evEq_snd s h4 (evalO_rel he h1) (evalO_rel he h2)
          refine ⟨m, .bool (!r), w, Stp.refl m h, s, .bool _, .inl ?_, fun _ => rfl⟩
          simp [execOp, ho, eqGuard_run (P := P) (w := w) (t := t) (x := x) (y := y) (.inr rfl) k1 (hnn hgr), binOp_neq k1 k2]
        · cases h3
      · cases h3
  · rename_i ho; exact evGround_snd s he (fun cs b => by rw [ho]; simp) hl
  · rename_i ho; exact evGround_snd s he (fun cs b => by rw [ho]; simp) hl
  · rename_i c ho
    split at hl
    · rename_i f hc
      split at hl
      · rename_i l hargs
        obtain ⟨v, h1, h2⟩ := v1_some hl
        have := evCallV_snd (P := P) (B := B) (w0 := w0) (h := h) (w := w) h2 (evalO_rel he h1) (evalL_rel he hargs)
        simp only [execOp, ho, resolve, hc]
        have e : (c.args.toList.map a.eval).toArray = c.args.map a.eval := by apply Array.ext'; simp
        rw [e] at this
        exact this
      · cases hl
    · rename_i b hc
      exact evBuiltin_snd s he ho hc hl
    · rename_i r name hc
      split at hl
      · rename_i l hargs
        obtain ⟨v, h1, h2⟩ := v1_some hl
        split at h2
        · rename_i f x hmt
          cases h2
          obtain ⟨ux, k1, k2⟩ := evMethod_snd (P := P) s hmt (evalO_rel he h1)
          refine ⟨ux :: c.args.toList.map a.eval, .cons k1 (evalL_rel he hargs), ?_⟩
          simp only [execOp, ho, resolve, hc]
          have e : (#[a.eval r] ++ c.args.map a.eval).extract 1 (#[a.eval r] ++ c.args.map a.eval).size = c.args.map a.eval := by
            rw [Array.size_append]
            apply Array.ext'
            simp [List.take_of_length_le]
          have e2 : (ux :: c.args.toList.map a.eval).toArray = #[ux] ++ c.args.map a.eval := by apply Array.ext'; simp
          rw [e2, ← k2, Sem.run_bind, Sem.run_pure]
          have e0 : (#[a.eval r] ++ c.args.map a.eval)[0]? = some (a.eval r) := by rw [Array.getElem?_append]; simp
          simp only [Result.andThen, invoke, e, e0]
        · cases h2
      · cases hl
  · cases hl

end Go.Ev
