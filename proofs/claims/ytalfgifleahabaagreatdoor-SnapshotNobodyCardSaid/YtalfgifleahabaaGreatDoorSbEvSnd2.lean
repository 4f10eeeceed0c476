import Derived.Test.YtalfgifleahabaaGreatDoorSbEvSnd
namespace Go.Ev
open Go.RowKit

variable {P : Program} {B : Bs} {w0 : World} {m : Pl} {h : Hp} {w : World} {E : Env} {a : Act}

theorem List.getElem_range' {n i : Nat} (hi : i < n) : (Array.range n)[i]? = some i := by simp [hi]

theorem zeros_rel {z : Value} (hz : ground z = true) (n : Nat) :
    VRels m ((Array.range n).map (z.cells[· % z.cells.size]!)).toList ((Array.range n).map (z.cells[· % z.cells.size]!)).toList := by
  refine ⟨rfl, fun j v u hv hu => ?_⟩
  rw [hv] at hu; cases hu
  simp only [Array.getElem?_toList, Array.getElem?_map, Option.map_eq_some_iff] at hv
  obtain ⟨k, _, rfl⟩ := hv
  by_cases hc : k % z.cells.size < z.cells.size
  · rw [getElem!_pos z.cells _ hc]
    have := (ground_rels (m := m) hz).2 (k % z.cells.size) z.cells[k % z.cells.size] z.cells[k % z.cells.size] (by simp) (by simp)
    exact this
  · rw [getElem!_neg z.cells _ hc]
    exact .bool _

theorem size_of_fill (place : Nat → Option (Nat × Nat)) : ∀ (ps : List (Nat × Value)) (cs : Array Value) {out : Array Value}, Instr.fill place cs ps = some out → out.size = cs.size
  | [], cs, out, hf => by simp only [Instr.fill] at hf; cases hf; rfl
  | (i, v) :: ps, cs, out, hf => by
    simp only [Instr.fill] at hf
    cases hpl : place i with
    | none => simp [hpl] at hf
    | some q =>
      obtain ⟨off, size⟩ := q
      simp only [hpl] at hf
      split at hf
      · cases hf
      · rw [size_of_fill place ps _ hf, ← Array.foldl_toList]
        generalize v.cells.zipIdx.toList = l
        rename_i hcond
        clear hf hcond
        induction l generalizing cs with
        | nil => rfl
        | cons x l ih => simp only [List.foldl_cons]; rw [ih]; simp

theorem evBuildSlice_snd (s : Sim B w0 m h w) {t : TypeId} {len : Nat} {ps : List (Nat × Value)} {qs : Array (Nat × Value)} {v : Value} {h' : Hp} (hl : evBuildSlice P h t len ps = some (v, h'))
    (h1 : ps.map (·.1) = qs.toList.map (·.1)) (h2 : VRels m (ps.map (·.2)) (qs.toList.map (·.2))) : Good B w0 m h v h' ((Instr.buildSlice t len qs).run P w) := by
  unfold evBuildSlice at hl
  split at hl
  · rename_i e hu
    split at hl
    · rename_i z n hz hn
      split at hl
      · rename_i hg hn1 hn2
        split at hl
        · rename_i cs hf
          cases hl
          have hn1' := Nat.le_of_ble_eq_true hn1
          have hn2' := Nat.le_of_ble_eq_true hn2
          obtain ⟨out, ho, hr⟩ := fill_rel _ ps qs.toList _ _ h1 h2 (zeros_rel (m := m) hg (len * n)) hf
          have hsz : out.size = len * n := by rw [size_of_fill _ _ _ ho]; simp
          have hs := s.newCells cs.toList out.toList [] e hr
          simp only [List.append_nil, List.length_nil, Nat.add_zero, Array.length_toList, hsz] at hs
          refine ⟨_, .slice (some ⟨w.heap.size, 0, none⟩) len len, _, Stp.put _ _ (s.fresh (Nat.le_refl _)), hs, ?_, ?_, fun e => hp_longer e⟩
          · have := VRel.slice (m := m.put h.length ⟨w.heap.size, 0, len * n⟩) h.length 0 len n len _ (Pl.put_same _ _ _) (by simp) (Nat.le_refl _) hn1'
            simpa using this
          · have hlim : ¬ (16777216 < len * n) := by omega
            by_cases h0 : len * n = 0
            · have hz0 : len = 0 := by
                rcases Nat.mul_eq_zero.1 h0 with h | h
                · exact h
                · omega
              subst hz0
              simp only [Nat.zero_mul] at ho
              have e0 : ∀ f : Nat → Value, (Array.range 0).map f = #[] := fun f => by simp
              rw [e0] at ho
              simp [Instr.buildSlice, run_underlying hu, run_sizeO hn, e0, ho, newRow]
            · simp [Instr.buildSlice, run_underlying hu, run_sizeO hn, hlim, h0, run_zeroO hz, ho, newRow]
        · cases hl
      · cases hl
    · cases hl
  · cases hl

theorem evMakeSlice_snd (s : Sim B w0 m h w) {t : TypeId} {n k : Int} {kd kd' : IntKind} {v : Value} {h' : Hp} (hl : evMakeSlice P h t n k = some (v, h')) : Good B w0 m h v h' ((Instr.makeSlice t (.int kd n) (.int kd' k)).run P w) := by
  unfold evMakeSlice at hl
  split at hl
  · rename_i e len len' hu
    split at hl
    · rename_i inf hb hi
      split at hl
      · rename_i z hz
        split at hl
        · rename_i hg hn1 hn2 hn3
          cases hl
          have hll : len = len' := Nat.eq_of_beq_eq_true hb
          subst hll
          have hn1' := Nat.le_of_ble_eq_true hn1
          have hn2' := Nat.le_of_ble_eq_true hn2
          have hn3' := Nat.le_of_ble_eq_true hn3
          have hs := s.newCells ((Array.range (len * inf.size)).map (z.cells[· % z.cells.size]!)).toList ((Array.range (len * inf.size)).map (z.cells[· % z.cells.size]!)).toList [] e (zeros_rel (m := m) hg (len * inf.size))
          simp only [List.append_nil, List.length_nil, Nat.add_zero, Array.length_toList, Array.size_map, Array.size_range] at hs
          refine ⟨_, .slice (some ⟨w.heap.size, 0, none⟩) len len, _, Stp.put _ _ (s.fresh (Nat.le_refl _)), hs, ?_, ?_, fun e => hp_longer e⟩
          · have := VRel.slice (m := m.put h.length ⟨w.heap.size, 0, len * inf.size⟩) h.length 0 len inf.size len _ (Pl.put_same _ _ _) (by simp) (Nat.le_refl _) hn1'
            simpa using this
          · have hw : IntKind.i64.wrap (len : Int) = (len : Int) := by
              simp [IntKind.wrap, IntKind.signed, IntKind.bits]
              omega
            have hb0 : ((inf.bytes : Int) * (len : Int)) ≤ 281474976710656 := by
              have h := Int.ofNat_le.2 hn3'
              rw [Int.natCast_mul] at h
              exact h
            have hlt : ¬ ((len : Int) < 0) := by omega
            have hgt : ¬ ((inf.bytes : Int) * (len : Int) > 281474976710656) := by omega
            have hti : ∀ w : World, (typeInfo e).run P w = .ok inf w := fun w => by simp [typeInfo, hi]
            have hsz : ∀ w : World, (sizeOf e).run P w = .ok inf.size w := fun w => run_sizeOf' hi w
            have hzr : ∀ w : World, (zeroValue e).run P w = .ok z w := fun w => by simp [zeroValue, typeInfo, hi, hz]
            have hai : ∀ (kd : IntKind) (w : World), (asInt (.int kd (len : Int))).run P w = .ok (len : Int) w := fun kd w => by simp [asInt, asIntOf]
            have hl2 : ((Array.range (len * inf.size)).map (z.cells[· % z.cells.size]!)).toList.toArray = (Array.range (len * inf.size)).map (z.cells[· % z.cells.size]!) := Array.toArray_toList
            rw [hl2]
            simp only [Int.ofNat_eq_natCast]
            unfold Instr.makeSlice
            simp only [Sem.run_bind, run_underlying hu, Result.andThen_ok, hai, hti, hw, hlt, hgt, Int.toNat_natCast, hsz, run_askRoom, decide_false, decide_true, Bool.or_self, Bool.false_eq_true, if_false, Int.lt_irrefl, gt_iff_lt]
            have hgt' : ¬ (281474976710656 < (inf.bytes : Int) * (len : Int)) := by omega
            by_cases h0 : len * inf.size = 0
            · have e0 : ∀ f : Nat → Value, (Array.range 0).map f = #[] := fun f => by simp
              simp only [h0, e0]
              simp [hgt', h0, newRow, hsz]
              rw [e0]
            · simp [hgt', h0, newRow, hsz, hzr]
        · cases hl
      · cases hl
    · cases hl
  · cases hl

theorem partO_snd {t : TypeId} {cs ds : Array Value} {off : Nat} {v : Value} (hp : partO P t cs off = some v) (hr : VRels m cs.toList ds.toList) (w : World) :
    ∃ u, (part t ds off).run P w = .ok u w ∧ VRel m v u := by
  unfold partO at hp
  split at hp
  · rename_i n ha
    cases hp
    obtain ⟨h1, h2⟩ := aggSize_some ha
    refine ⟨.agg (ds.extract off (off + n)), by simp [part, h1, h2], .agg _ _ ?_ fun j hj hj' => ?_⟩
    · have := hr.1
      simp only [Array.length_toList] at this
      simp [this]
    · simp only [Array.getElem_extract]
      exact hr.2 (off + j) _ _ (by simp) (by simp)
  · rename_i ha
    have h1 := aggSize_none ha
    obtain ⟨u, hu, hur⟩ := hr.get (j := off) (by simpa using hp)
    exact ⟨u, by simp only [Array.getElem?_toList] at hu; simp [part, h1, hu], hur⟩
  · cases hp

theorem VRel.agg_inv {cs : Array Value} {u : Value} (hr : VRel m (.agg cs) u) : ∃ ds, u = .agg ds ∧ VRels m cs.toList ds.toList := by
  cases hr with
  | agg a b h e => exact ⟨b, rfl, VRels.of_arr h e⟩

theorem evField_snd {t : TypeId} {x u v : Value} {f : Nat} (hl : evField P t x f = some v) (hr : VRel m x u) (w : World) : ∃ r, (Instr.field t u f).run P w = .ok r w ∧ VRel m v r := by
  unfold evField at hl
  split at hl
  · rename_i fields cs hu
    obtain ⟨ds, rfl, hds⟩ := hr.agg_inv
    split at hl
    · rename_i fl hfl
      obtain ⟨r, h1, h2⟩ := partO_snd hl hds w
      exact ⟨r, by simp [Instr.field, run_underlying hu, hfl, asAgg, h1], h2⟩
    · cases hl
  · cases hl

theorem evFieldAddr_snd {t : TypeId} {x u v : Value} {f : Nat} (hl : evFieldAddr P t x f = some v) (hr : VRel m x u) (w : World) : ∃ r, (Instr.fieldAt t u f).run P w = .ok r w ∧ VRel m v r := by
  unfold evFieldAddr at hl
  split at hl
  · rename_i fields i off hu
    obtain ⟨p, hp, rfl⟩ := hr.ptr_inv
    split at hl
    · rename_i fl hfl
      split at hl
      · rename_i n hn
        cases hl
        refine ⟨.pointer (some ⟨p.block, p.base + (off + fl.offset), none⟩), ?_, .ptr i _ p hp⟩
        have e : (⟨p.block, p.base + off, none⟩ : Addr).add fl.offset = ⟨p.block, p.base + (off + fl.offset), none⟩ := by
          unfold Addr.add; split <;> simp_all [Nat.add_assoc]
        simp [Instr.fieldAt, run_underlying hu, hfl, Instr.sureAddr, fieldPlace, run_sizeO hn, e]
      · cases hl
    · cases hl
  · cases hl

theorem add_addr (b k n : Nat) : (⟨b, k, none⟩ : Addr).add n = ⟨b, k + n, none⟩ := by
  unfold Addr.add; split <;> simp_all

theorem VRel.int_inv {k : IntKind} {n : Int} {u : Value} (hr : VRel m (.int k n) u) : u = .int k n := by
  cases hr with
  | int k n => rfl

theorem VRel.slice_inv {i off len z : Nat} {u : Value} (hr : VRel m (.slice (some ⟨i, off, none⟩) len z) u) :
    0 < z ∧ ((∃ p k, m i = some p ∧ off + k * z = p.ext ∧ len ≤ k ∧ u = .slice (some ⟨p.block, p.base + off, none⟩) len k) ∨ (len = 0 ∧ ∃ b, u = .slice (some b) 0 0)) := by
  cases hr with
  | slice i off len z c p h hc hl hz => exact ⟨hz, .inl ⟨p, c, h, hc, hl, rfl⟩⟩
  | sliceEnd i off z b hz => exact ⟨hz, .inr ⟨rfl, b, rfl⟩⟩

theorem evIndexAddr_snd {t : TypeId} {x u ix iu v : Value} (hl : evIndexAddr P t x ix = some v) (hr : VRel m x u) (hi : VRel m ix iu) (w : World) :
    ∃ r, (Instr.indexAt t u iu).run P w = .ok r w ∧ VRel m v r := by
  unfold evIndexAddr at hl
  split at hl
  · rename_i e i off len c kk n hu
    have := hi.int_inv
    subst this
    obtain ⟨hz, hcase⟩ := hr.slice_inv
    split at hl
    · rename_i sz h1 h2 hsz
      cases hl
      have h1' : 0 ≤ n := by simpa using h1
      have h2' : n < (len : Int) := by simpa using h2
      rcases hcase with ⟨p, k, hp, _, _, rfl⟩ | ⟨rfl, _⟩
      · refine ⟨.pointer (some ⟨p.block, p.base + (off + n.toNat * sz), none⟩), ?_, .ptr i _ p hp⟩
        simp [Instr.indexAt, asIntOf, run_underlying hu, h1', h2', run_sizeO hsz, add_addr, Nat.add_assoc]
      · simp at h2'; omega
    · cases hl
  · rename_i len e i off kk n hu
    have := hi.int_inv
    subst this
    obtain ⟨p, hp, rfl⟩ := hr.ptr_inv
    split at hl
    · rename_i sz h1 h2 hsz
      cases hl
      have h1' : 0 ≤ n := by simpa using h1
      have h2' : n < (len : Int) := by simpa using h2
      refine ⟨.pointer (some ⟨p.block, p.base + (off + n.toNat * sz), none⟩), ?_, .ptr i _ p hp⟩
      simp [Instr.indexAt, asIntOf, run_underlying hu, h1', h2', run_sizeO hsz, add_addr, Nat.add_assoc, Instr.sureAddr]
    · cases hl
  · cases hl

theorem evIndex_snd {t : TypeId} {x u ix iu v : Value} (hl : evIndex P t x ix = some v) (hr : VRel m x u) (hi : VRel m ix iu) (w : World) :
    ∃ r, (Instr.index t u iu).run P w = .ok r w ∧ VRel m v r := by
  unfold evIndex at hl
  split at hl
  · rename_i len e cs kk n hu
    have := hi.int_inv
    subst this
    obtain ⟨ds, rfl, hds⟩ := hr.agg_inv
    split at hl
    · rename_i sz h1 h2 hsz
      have h1' : 0 ≤ n := by simpa using h1
      have h2' : n < (len : Int) := by simpa using h2
      obtain ⟨r, k1, k2⟩ := partO_snd hl hds w
      exact ⟨r, by simp [Instr.index, asIntOf, run_underlying hu, h1', h2', run_sizeO hsz, k1], k2⟩
    · cases hl
  · cases hl

theorem sliceBound_ok {k : IntKind} {n : Int} {y : Nat} {code : BoundsCode} (h0 : 0 ≤ n) (h1 : n ≤ (y : Int)) (w : World) : (Instr.sliceBound (.int k n) y code).run P w = .ok n.toNat w := by
  simp [Instr.sliceBound, asIntOf, h0, h1]

/-- The relation of an optional operand. -/
def ORel (m : Pl) : Option Value → Option Value → Prop
  | none, none => True
  | some v, some u => VRel m v u
  | _, _ => False

theorem boundO_some {d y r : Nat} {v u : Option Value} (hb : boundO d y v = some r) (hr : ORel m v u) :
    (v = none ∧ u = none ∧ r = d) ∨ (∃ k n, u = some (.int k n) ∧ 0 ≤ n ∧ n ≤ (y : Int) ∧ r = n.toNat) := by
  unfold boundO at hb
  split at hb
  · cases hb
    cases u with
    | none => exact .inl ⟨rfl, rfl, rfl⟩
    | some u => exact hr.elim
  · rename_i k n
    cases u with
    | none => exact hr.elim
    | some u =>
      have := VRel.int_inv hr
      subst this
      split at hb
      · rename_i h1 h2; cases hb; exact .inr ⟨k, n, rfl, by simpa using h1, by simpa using h2, rfl⟩
      · cases hb
  · cases hb

theorem sliceBounds_ok {len cap b a : Nat} {lo hi ulo uhi : Option Value} (h1 : boundO len len hi = some b) (h2 : boundO 0 b lo = some a) (hl : ORel m lo ulo) (hh : ORel m hi uhi) (hc : len ≤ cap) (w : World) :
    (Instr.sliceBounds true len cap ulo uhi none).run P w = .ok (a, b, cap) w ∧ a ≤ b ∧ b ≤ len := by
  rcases boundO_some h1 hh with ⟨_, rfl, rfl⟩ | ⟨k, n, rfl, hn0, hn1, rfl⟩
  · rcases boundO_some h2 hl with ⟨_, rfl, rfl⟩ | ⟨k', n', rfl, hm0, hm1, rfl⟩
    · exact ⟨by simp [Instr.sliceBounds], by omega, Nat.le_refl _⟩
    · exact ⟨by simp [Instr.sliceBounds, sliceBound_ok hm0 hm1], by omega, Nat.le_refl _⟩
  · have hn2 : n ≤ (cap : Int) := by omega
    rcases boundO_some h2 hl with ⟨_, rfl, rfl⟩ | ⟨k', n', rfl, hm0, hm1, rfl⟩
    · exact ⟨by simp [Instr.sliceBounds, sliceBound_ok hn0 hn2], by omega, by omega⟩
    · exact ⟨by simp [Instr.sliceBounds, sliceBound_ok hn0 hn2, sliceBound_ok hm0 hm1], by omega, by omega⟩

end Go.Ev
