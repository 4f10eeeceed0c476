import Derived.Test.YtalfgifleahabaaGreatDoorSbEvDrawA
namespace Go.Ev
open Go.RowKit

variable {P : Program} {C : CallF}
variable {B : Bs} {w0 : World} {m : Pl} {h h' : Hp} {w : World} {E E' : Env} {a : Act} {n nn : Nat} {rd : Option Nat}

theorem kind_pure {o : Oper} {out : Out} (hk : kindOf o = .pure) (ho : evOp P h E o = some out) : ∃ v, out = .val v h ∧ ∀ h', evOp P h' E o = some (.val v h') := by
  unfold evOp at ho ⊢
  cases hop : o.op with
  | move x => rw [hop] at ho; exact v1_pure (k := fun h v => some (.val v h)) ho fun v e => ⟨v, by cases e; rfl, fun _ => rfl⟩
  | assign x => rw [hop] at ho; exact v1_pure (k := fun h v => some (.val v h)) ho fun v e => ⟨v, by cases e; rfl, fun _ => rfl⟩
  | pick c x y =>
    rw [hop] at ho
    refine v1_pure (k := fun h c => match c with
      | .bool true => v1 E x fun v => some (.val v h)
      | .bool false => v1 E y fun v => some (.val v h)
      | _ => none) ho fun v e => ?_
    split at e
    · exact v1_pure (k := fun h v => some (.val v h)) e fun v e => ⟨v, by cases e; rfl, fun _ => rfl⟩
    · exact v1_pure (k := fun h v => some (.val v h)) e fun v e => ⟨v, by cases e; rfl, fun _ => rfl⟩
    · cases e
  | build t ps =>
    rw [hop] at ho
    simp only [] at ho ⊢
    split at ho
    · exact valO_pure ho
    · cases ho
  | nilCheck x => rw [hop] at ho; exact v1_pure (k := fun h v => valO h (evNil v)) ho fun v e => valO_pure e
  | makeInterface t x =>
    rw [hop] at ho
    refine v1_pure (k := fun h v => match P.underlying t with
      | some (.interface _) => none
      | some _ => some (.val (.iface t v) h)
      | none => none) ho fun v e => ?_
    split at e
    · cases e
    · rename_i d hni hd
      cases e
      exact ⟨_, rfl, fun _ => rfl⟩
    · cases e
  | makeFunc f first captured =>
    rw [hop] at ho
    simp only [] at ho ⊢
    split at ho
    · split at ho
      · cases ho; exact ⟨_, rfl, fun _ => rfl⟩
      · cases ho
    · cases ho
  | fieldAddr t x f => rw [hop] at ho; exact v1_pure (k := fun h v => valO h (evFieldAddr P t v f)) ho fun v e => valO_pure e
  | field t x f => rw [hop] at ho; exact v1_pure (k := fun h v => valO h (evField P t v f)) ho fun v e => valO_pure e
  | indexAddr t x y => rw [hop] at ho; exact v2_pure (k := fun h v u => valO h (evIndexAddr P t v u)) ho fun v u e => valO_pure e
  | index t x y =>
    rw [hop] at ho
    refine v2_pure (k := fun h v ix => match v with
      | .agg _ => valO h (evIndex P t v ix)
      | _ => evGround P h E o) ho fun v u e => ?_
    split at e
    · exact valO_pure e
    · exact evGround_pure e
  | slice t x lo hi mx =>
    rw [hop] at ho
    cases mx with
    | some mx => cases ho
    | none =>
      simp only [] at ho ⊢
      split at ho
      · rename_i vlo vhi _ _
        refine v1_pure (k := fun h v => match v with
          | .slice .. => valO h (evSlice P t v vlo vhi)
          | _ => evGround P h E o) ho fun v e => ?_
        split at e
        · exact valO_pure e
        · exact evGround_pure e
      · cases ho
  | extract x i =>
    rw [hop] at ho
    refine v1_pure (k := fun h v => match v with
      | .tuple vs => valO h vs[i]?
      | _ => none) ho fun v e => ?_
    split at e
    · exact valO_pure e
    · cases e
  | typeAssert x xt t ok => rw [hop] at ho; exact v1_pure (k := fun h v => valO h (evAssert P v t ok)) ho fun v e => valO_pure e
  | unOp op t x => rw [hop] at ho; exact evGround_pure ho
  | convert s d x => rw [hop] at ho; exact evGround_pure ho
  | call c =>
    rw [hop] at ho
    simp only [] at ho ⊢
    simp only [kindOf, hop] at hk
    cases hc : c.callee with
    | value f => rw [hc] at hk; cases hk
    | invoke r mname => rw [hc] at hk; cases hk
    | builtin b =>
      rw [hc] at ho hk
      simp only [] at ho ⊢
      cases b <;> simp only [] at hk <;> first | cases hk | skip
      · unfold evBuiltin at ho ⊢
        simp only [] at ho ⊢
        split at ho
        · rename_i x t hx ht
          refine v1_pure (k := fun h s => match s, P.underlying t with
            | .slice _ n _, some (.slice _) => some (.val (.int .i64 n) h)
            | .slice .., _ => none
            | _, _ => evGround P h E o) ho fun v e => ?_
          split at e
          · cases e; exact ⟨_, rfl, fun _ => rfl⟩
          · cases e
          · rename_i h1 h2
            obtain ⟨u, e1, e2⟩ := evGround_pure e
            refine ⟨u, e1, fun h' => ?_⟩
            rw [← e2 h']
        · cases ho
      · unfold evBuiltin at ho ⊢; exact evGround_pure ho
      · unfold evBuiltin at ho ⊢; exact evGround_pure ho
  | _ => simp only [kindOf, hop] at hk; cases hk

theorem cellsAt_ext {os : Hp} {i : Nat} {c : List Value} (hc : cellsAt h i = some c) : cellsAt (h ++ os) i = some c := by
  obtain ⟨rw, ho⟩ := cellsAt_some hc
  unfold cellsAt
  rw [List.getElem?_append_left (List.getElem?_eq_some_iff.1 ho).1, ho]
theorem ownAt_ext {os : Hp} {i : Nat} {c : List Value} (hc : ownAt h i = some c) : ownAt (h ++ os) i = some c := by
  have ho := ownAt_some hc
  unfold ownAt
  rw [List.getElem?_append_left (List.getElem?_eq_some_iff.1 ho).1, ho]

theorem evLoad_ext {os : Hp} {t : TypeId} {a v : Value} (hl : evLoad P h t a = some v) : evLoad P (h ++ os) t a = some v := by
  unfold evLoad at hl ⊢
  split at hl
  · rename_i i off
    split at hl
    · rename_i c hc
      rw [cellsAt_ext hc]
      exact hl
    · cases hl
  · cases hl

theorem evEq_ext {os : Hp} {t : TypeId} {x y : Value} {r : Bool} (hl : evEq P h t x y = some r) : evEq P (h ++ os) t x y = some r := by
  unfold evEq at hl ⊢
  split at hl
  · assumption
  · assumption
  · rename_i e i o j o' hu
    split at hl
    · rename_i k c c' hk hc hc'
      simp only [ownAt_ext hc, ownAt_ext hc', hk]
      exact hl
    · cases hl
  all_goals first | assumption | cases hl

theorem mpAt_ext {os : Hp} {i : Nat} {es : List (Value × Value)} (hc : mpAt h i = some es) : mpAt (h ++ os) i = some es := by
  have ho := mpAt_some hc
  unfold mpAt
  rw [List.getElem?_append_left (List.getElem?_eq_some_iff.1 ho).1, ho]
theorem evLookup_ext {os : Hp} {t : TypeId} {x k v : Value} {ok : Bool} (hl : evLookup P h t x k ok = some v) : evLookup P (h ++ os) t x k ok = some v := by
  unfold evLookup at hl ⊢
  split at hl
  · rename_i kt et i hu
    split at hl
    · rename_i es hc
      simp only [mpAt_ext hc]
      exact hl
    · cases hl
  · cases hl

theorem kind_read {o : Oper} {out : Out} (hk : kindOf o = .read) (ho : evOp P h E o = some out) : ∃ v, out = .val v h ∧ ∀ os, evOp P (h ++ os) E o = some (.val v (h ++ os)) := by
  unfold evOp at ho ⊢
  cases hop : o.op with
  | load t x =>
    rw [hop] at ho
    obtain ⟨v, h1, h2⟩ := v1_some ho
    obtain ⟨u, h3, rfl⟩ := valO_some h2
    exact ⟨u, rfl, fun os => by simp [v1, h1, evLoad_ext h3, valO]⟩
  | binOp op t x y yt =>
    rw [hop] at ho
    obtain ⟨v, u, h1, h2, h3⟩ := v2_some ho
    split at h3
    · rename_i hg
      obtain ⟨r, e1, e2⟩ := evGround_pure h3
      exact ⟨r, e1, fun os => by simp [v2, h1, h2, hg, e2]⟩
    · rename_i hg
      split at h3
      · split at h3
        · rename_i r hr
          cases h3
          exact ⟨_, rfl, fun os => by simp [v2, h1, h2, hg, evEq_ext hr]⟩
        · cases h3
      · split at h3
        · rename_i r hr
          cases h3
          exact ⟨_, rfl, fun os => by simp [v2, h1, h2, hg, evEq_ext hr]⟩
        · cases h3
      · cases h3
  | lookup t x k ok =>
    rw [hop] at ho
    obtain ⟨v, u, h1, h2, h3⟩ := v2_some ho
    obtain ⟨r, h4, rfl⟩ := valO_some h3
    exact ⟨r, rfl, fun os => by simp [v2, h1, h2, evLookup_ext h4, valO]⟩
  | call c => simp only [kindOf, hop] at hk; split at hk <;> cases hk
  | _ => simp only [kindOf, hop] at hk; cases hk

/-- An operation that only makes an object. -/
theorem kind_alloc (s : B.n ≤ w.heap.size) (he : EnvRel m E a.tmps) {o : Oper} {out : Out} (hk : kindOf o = .alloc) (ho : evOp P h E o = some out) :
    ∃ v ob x ext u, out = .val v (h ++ [ob]) ∧ ob.owns = true ∧ (execOp a.eval o).run P w = .ok (.value u) (w.alloc x) ∧
      ∀ m' : Pl, m.le m' → m' h.length = some ⟨w.heap.size, 0, ext⟩ → VRel m' v u ∧ Real B.n m' (w.alloc x) ⟨w.heap.size, 0, ext⟩ ob := by
  have newc : ∀ {c cs : List Value} (t : TypeId) (m' : Pl), m.le m' → VRels m c cs → Real B.n m' (w.alloc (.cells cs.toArray t)) ⟨w.heap.size, 0, cs.length⟩ (.cells c true) := by
    intro c cs t m' hm hc
    refine ⟨_, t, (0, 0), by simpa using heap_alloc_new w _, by simp, by simp [hc.1], ?_, by simp [s]⟩
    have := hc.mono hm
    simpa [hc.1] using this
  unfold evOp at ho
  cases hop : o.op with
  | alloc t =>
    rw [hop] at ho
    obtain ⟨v, h', h1, rfl⟩ := newO_some ho
    unfold evAlloc at h1
    split at h1
    · rename_i z hz
      split at h1
      · rename_i hg
        cases h1
        refine ⟨_, .cells z.cells.toList true, .cells z.cells t, z.cells.toList.length, .pointer (some ⟨w.heap.size, 0, none⟩), rfl, rfl, ?_, fun m' hm hp => ⟨?_, ?_⟩⟩
        · simp [execOp, hop, Instr.alloc, run_zeroO hz, newVar, newRow]
        · simpa [evNew, ptrO] using VRel.ptr (m := m') h.length 0 _ hp
        · simpa using newc t m' hm (ground_rels hg)
      · cases h1
    · cases h1
  | makeMap t r =>
    rw [hop] at ho
    cases r with
    | some r => cases ho
    | none =>
      obtain ⟨v, h', h1, rfl⟩ := newO_some ho
      cases h1
      refine ⟨_, .mp [], .map #[] 0, 0, .map (some w.heap.size), rfl, rfl, ?_, fun m' hm hp => ⟨?_, ?_⟩⟩
      · simp [execOp, hop, Instr.makeMap, Result.andThen]
      · exact VRel.map (m := m') h.length _ hp
      · exact ⟨#[], 0, by simpa using heap_alloc_new w _, rfl, VRels.nil _, rfl, s⟩
  | box t x =>
    rw [hop] at ho
    obtain ⟨v, h1, h2⟩ := v1_some ho
    obtain ⟨r, h', h3, rfl⟩ := newO_some h2
    cases h3
    have hr := evalO_rel he h1
    refine ⟨_, .cells v.cells.toList true, .cells (a.eval x).cells t, (a.eval x).cells.toList.length, .pointer (some ⟨w.heap.size, 0, none⟩), rfl, rfl, ?_, fun m' hm hp => ⟨?_, ?_⟩⟩
    · simp [execOp, hop, Instr.box, newVar, newRow]
    · simpa [evNew, ptrO] using VRel.ptr (m := m') h.length 0 _ hp
    · simpa using newc t m' hm hr.cells_rel
  | buildSlice t len ps =>
    rw [hop] at ho
    simp only [] at ho
    split at ho
    · rename_i l hp
      obtain ⟨v, h', h1, rfl⟩ := newO_some ho
      obtain ⟨k1, k2⟩ := partsO_rel he hp
      have k1' : l.map (·.1) = (ps.map fun (i, x) => (i, a.eval x)).toList.map (·.1) := by rw [map_parts]; exact k1
      have k2' : VRels m (l.map (·.2)) ((ps.map fun (i, x) => (i, a.eval x)).toList.map (·.2)) := by rw [map_parts]; exact k2
      have hexec : execOp a.eval o = (do let u ← Instr.buildSlice t len (ps.map fun (i, x) => (i, a.eval x)); pure (Next.value u) : Sem Next) := by simp only [execOp, hop]
      generalize (ps.map fun (i, x) => (i, a.eval x)) = qs at k1' k2' hexec
      unfold evBuildSlice at h1
      split at h1
      · rename_i e hu
        split at h1
        · rename_i z k hz hn
          split at h1
          · rename_i hg hn1 hn2
            split at h1
            · rename_i cs hf
              cases h1
              have hn1' := Nat.le_of_ble_eq_true hn1
              have hn2' := Nat.le_of_ble_eq_true hn2
              obtain ⟨out, ho, hr⟩ := fill_rel _ l _ _ _ k1' k2' (zeros_rel (m := m) hg (len * k)) hf
              have hsz : out.size = len * k := by rw [size_of_fill _ _ _ ho]; simp
              refine ⟨_, .cells cs.toList true, .cells out e, len * k, .slice (some ⟨w.heap.size, 0, none⟩) len len, rfl, rfl, ?_, fun m' hm hp => ⟨?_, ?_⟩⟩
              · have hlim : ¬ (16777216 < len * k) := by omega
                by_cases h0 : len * k = 0
                · have hz0 : len = 0 := by
                    rcases Nat.mul_eq_zero.1 h0 with h | h
                    · exact h
                    · omega
                  subst hz0
                  simp only [Nat.zero_mul] at ho
                  have e0 : ∀ f : Nat → Value, (Array.range 0).map f = #[] := fun f => by simp
                  rw [e0] at ho
                  rw [hexec]
                  simp [Instr.buildSlice, run_underlying hu, run_sizeO hn, e0, ho, newRow]
                · rw [hexec]
                  simp [Instr.buildSlice, run_underlying hu, run_sizeO hn, hlim, h0, run_zeroO hz, ho, newRow]
              · have := VRel.slice (m := m') h.length 0 len k len _ hp (by simp) (Nat.le_refl _) hn1'
                simpa using this
              · have := newc (cs := out.toList) e m' hm hr
                simpa [hsz] using this
            · cases h1
          · cases h1
        · cases h1
      · cases h1
    · cases ho
  | makeSlice t x y =>
    rw [hop] at ho
    obtain ⟨a1, b1, h1, h2, h3⟩ := v2_some ho
    split at h3
    · rename_i kd n kd' k
      obtain ⟨v, h', h4, rfl⟩ := newO_some h3
      have e1 := evalO_rel he h1
      have e2 := evalO_rel he h2
      have hexec : execOp a.eval o = (do let u ← Instr.makeSlice t (a.eval x) (a.eval y); pure (Next.value u) : Sem Next) := by simp only [execOp, hop]
      generalize a.eval x = q1 at e1 hexec
      generalize a.eval y = q2 at e2 hexec
      cases e1
      cases e2
      unfold evMakeSlice at h4
      split at h4
      · rename_i e len len' hu
        split at h4
        · rename_i inf hb hi
          split at h4
          · rename_i z hz
            split at h4
            · rename_i hg hn1 hn2 hn3
              cases h4
              have hll : len = len' := Nat.eq_of_beq_eq_true hb
              subst hll
              have hn1' := Nat.le_of_ble_eq_true hn1
              have hn2' := Nat.le_of_ble_eq_true hn2
              have hn3' := Nat.le_of_ble_eq_true hn3
              obtain ⟨zs, hzs⟩ : ∃ zs : Array Value, zs = (Array.range (len * inf.size)).map (z.cells[· % z.cells.size]!) := ⟨_, rfl⟩
              have zsz : zs.size = len * inf.size := by rw [hzs]; simp
              have zrel : VRels m zs.toList zs.toList := by rw [hzs]; exact zeros_rel (m := m) hg (len * inf.size)
              rw [← hzs]
              refine ⟨_, .cells zs.toList true, .cells zs e, len * inf.size, .slice (some ⟨w.heap.size, 0, none⟩) len len, rfl, rfl, ?_, fun m' hm hp => ⟨?_, ?_⟩⟩
              · have hw : IntKind.i64.wrap (len : Int) = (len : Int) := by
                  simp [IntKind.wrap, IntKind.signed, IntKind.bits]
                  omega
                have hb0 : ((inf.bytes : Int) * (len : Int)) ≤ 281474976710656 := by
                  have h := Int.ofNat_le.2 hn3'
                  rw [Int.natCast_mul] at h
                  exact h
                have hlt : ¬ ((len : Int) < 0) := by omega
                have hgt : ¬ ((inf.bytes : Int) * (len : Int) > 281474976710656) := by omega
                have hti : ∀ w : World, (typeInfo e).run P w = .ok inf w := fun w => by simp [typeInfo, hi]
                have hsz : ∀ w : World, (sizeOf e).run P w = .ok inf.size w := fun w => run_sizeOf' hi w
                have hzr : ∀ w : World, (zeroValue e).run P w = .ok z w := fun w => by simp [zeroValue, typeInfo, hi, hz]
                have hai : ∀ (kd : IntKind) (w : World), (asInt (.int kd (len : Int))).run P w = .ok (len : Int) w := fun kd w => by simp [asInt, asIntOf]
                rw [hexec]
                simp only [Int.ofNat_eq_natCast]
                unfold Instr.makeSlice
                simp only [Sem.run_bind, run_underlying hu, Result.andThen_ok, hai, hti, hw, hlt, hgt, Int.toNat_natCast, hsz, run_askRoom, decide_false, decide_true, Bool.or_self, Bool.false_eq_true, if_false, Int.lt_irrefl, gt_iff_lt]
                have hgt' : ¬ (281474976710656 < (inf.bytes : Int) * (len : Int)) := by omega
                by_cases h0 : len * inf.size = 0
                · have e0 : ∀ f : Nat → Value, (Array.range 0).map f = #[] := fun f => by simp
                  have z0 : zs = #[] := by rw [hzs, h0, e0]
                  rw [z0]
                  simp [hgt', h0, newRow, hsz]
                  rw [e0]
                · rw [hzs]
                  simp [hgt', h0, newRow, hsz, hzr]
              · have := VRel.slice (m := m') h.length 0 len inf.size len _ hp (by simp) (Nat.le_refl _) hn1'
                simpa using this
              · have := newc (cs := zs.toList) e m' hm zrel
                simpa [zsz] using this
            · cases h4
          · cases h4
        · cases h4
      · cases h4
    · cases h3
  | call c => simp only [kindOf, hop] at hk; split at hk <;> cases hk
  | _ => simp only [kindOf, hop] at hk; cases hk

/-- An object whose place was not yet known, laid. -/
theorem Sim.newAt (s : Sim B w0 m h w) {i : Nat} (x : Obj) (o : AObj) (p : Place) (hi : m i = none) (ho : h[i]? = some o) (hp : p.block = w.heap.size)
    (hr : Real B.n (m.put i p) (w.alloc x) p o) : Sim B w0 (m.put i p) h (w.alloc x) := by
  have hle := Pl.put_le (p := p) hi
  refine ⟨s.below.alloc s.size x, s.base, fun b hb => ⟨(s.marks b hb).1, by
    rw [Below.heap_alloc w x b (Array.getElem?_eq_some_iff.1 (s.marks b hb).2).1]; exact (s.marks b hb).2⟩, s.nodup, fun j q hq => ?_, fun j k q r a b hq hr' ha hb oa ob hbl => ?_, fun j g c hj => (s.gl j g c hj).elim fun q hq => ⟨q, hle _ _ hq⟩⟩
  · unfold Pl.put at hq
    split at hq
    · rename_i e; subst e; cases hq; exact ⟨o, ho, hr⟩
    · obtain ⟨o', ho', hr'⟩ := s.real j q hq
      exact ⟨o', ho', (hr'.mono hle).frame fun hd => Below.heap_alloc w x _ (hr'.lt hd)⟩
  · have key : ∀ (k : Nat) (q : Place) (a : AObj), (m.put i p) k = some q → h[k]? = some a → a.owns = true → (k = i ∧ q.block = w.heap.size) ∨ (m k = some q ∧ q.block < w.heap.size) := by
      intro k q a hq ha oa
      unfold Pl.put at hq
      split at hq
      · rename_i e; cases hq; exact .inl ⟨e, hp⟩
      · exact .inr ⟨hq, (s.get hq ha).lt (fun e => by subst e; simp [AObj.owns] at oa)⟩
    rcases key j q a hq ha oa with ⟨e1, e2⟩ | ⟨e1, e2⟩ <;> rcases key k r b hr' hb ob with ⟨f1, f2⟩ | ⟨f1, f2⟩
    · omega
    · omega
    · omega
    · exact s.inj j k q r a b e1 f1 ha hb oa ob hbl

/-- Objects more, of which nothing is laid. -/
theorem Sim.ext (s : Sim B w0 m h w) (os : Hp) (hng : ∀ o ∈ os, o.ng = true) : Sim B w0 m (h ++ os) w := by
  have hlt : ∀ j q, m j = some q → j < h.length := fun j q hq => by
    rcases Nat.lt_or_ge j h.length with k | k
    · exact k
    · rw [s.fresh k] at hq; cases hq
  refine ⟨s.below, s.base, s.marks, s.nodup, fun j q hq => ?_, fun j k q r a b hq hr' ha hb oa ob hbl => ?_, fun j g c hj => ?_⟩
  · obtain ⟨o', ho', hr'⟩ := s.real j q hq
    exact ⟨o', by rw [List.getElem?_append_left (hlt j q hq)]; exact ho', hr'⟩
  · rw [List.getElem?_append_left (hlt j q hq)] at ha
    rw [List.getElem?_append_left (hlt k r hr')] at hb
    exact s.inj j k q r a b hq hr' ha hb oa ob hbl
  · rw [List.getElem?_append] at hj
    split at hj
    · exact s.gl j g c hj
    · have := hng _ (List.mem_of_getElem? hj)
      simp [AObj.ng] at this

end Go.Ev
