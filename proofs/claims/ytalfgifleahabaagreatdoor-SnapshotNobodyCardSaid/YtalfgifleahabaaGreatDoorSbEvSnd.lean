import Derived.Test.YtalfgifleahabaaGreatDoorSbEvOp
import Derived.Orders
import Derived.ChangeKeysEq
namespace Go.Ev
open Go.RowKit

variable {P : Program} {B : Bs} {w0 : World} {m : Pl} {h : Hp} {w : World} {E : Env} {a : Act}

theorem look_cons (k : Nat) (v : Value) (E : Env) (t : Nat) : look ((k, v) :: E) t = if k = t then some v else look E t := by
  by_cases hk : k = t
  · subst hk; simp [look]
  · have h1 : Nat.beq k t = false := by
      cases hb : Nat.beq k t with
      | false => rfl
      | true => exact absurd (Nat.eq_of_beq_eq_true hb) hk
    simp [look, h1, hk]

theorem eval_tmp {t : Nat} {u : Value} (hu : a.tmps[t]? = some u) : a.eval (.tmp t) = u := by
  simp [Act.eval, hu, Array.getD_eq_getD_getElem?]

theorem evalO_rel (he : EnvRel m E a.tmps) {x : Operand} {v : Value} (hv : evalO E x = some v) : VRel m v (a.eval x) := by
  cases x with
  | tmp t =>
    obtain ⟨u, hu, hr⟩ := he t v hv
    rw [eval_tmp hu]; exact hr
  | const c =>
    simp only [evalO] at hv
    split at hv
    · rename_i hg; cases hv; exact VRel.refl m _ hg
    · cases hv
  | func f =>
    simp only [evalO] at hv; cases hv
    exact .func _ _ _ _ _ rfl rfl (fun l e => by cases e) (fun j h' => by simp at h') (fun j h' => by simp at h')
  | global g => simp [evalO] at hv

theorem evalL_rel (he : EnvRel m E a.tmps) : ∀ {xs : List Operand} {vs : List Value}, evalL E xs = some vs → VRels m vs (xs.map a.eval)
  | [], vs, hv => by simp [evalL] at hv; subst hv; exact VRels.nil m
  | x :: xs, vs, hv => by
    simp only [evalL] at hv
    split at hv
    · rename_i v vs' h1 h2; cases hv; exact .cons (evalO_rel he h1) (evalL_rel he h2)
    · cases hv

/-- What 'pureRun' yields is what the machine does. -/
theorem pureRun_run : ∀ (s : Sem Next) {n : Next}, pureRun P s = some n → ∀ w, s.run P w = .ok n w
  | .pure a, n, hs, w => by simp [pureRun] at hs; subst hs; rfl
  | .program k, n, hs, w => by simp only [pureRun] at hs; simp only [Sem.run]; exact pureRun_run (k P) hs w
  | .mark _ k, n, hs, w => by simp only [pureRun] at hs; simp only [Sem.run]; exact pureRun_run k hs w
  | .load .., n, hs, w => by simp [pureRun] at hs
  | .store .., n, hs, w => by simp [pureRun] at hs
  | .new .., n, hs, w => by simp [pureRun] at hs
  | .shape .., n, hs, w => by simp [pureRun] at hs
  | .freeze .., n, hs, w => by simp [pureRun] at hs
  | .frozen .., n, hs, w => by simp [pureRun] at hs
  | .getObj .., n, hs, w => by simp [pureRun] at hs
  | .setObj .., n, hs, w => by simp [pureRun] at hs
  | .choose .., n, hs, w => by simp [pureRun] at hs
  | .sys .., n, hs, w => by simp [pureRun] at hs
  | .halt .., n, hs, w => by simp [pureRun] at hs

/-! ### Types -/
theorem run_isAgg' {t : TypeId} {d : TypeDesc} (hd : P.underlying t = some d) (w : World) : (isAgg t).run P w = .ok (isAggD d) w := by
  unfold isAgg
  rw [Sem.run_bind, run_underlying hd w]
  cases d <;> simp [isAggD]
theorem run_sizeOf' {t : TypeId} {i : TypeInfo} (hi : P.info? t = some i) (w : World) : (sizeOf t).run P w = .ok i.size w := by
  simp [sizeOf, typeInfo, hi]
theorem run_sizeO {t : TypeId} {n : Nat} (hi : sizeO P t = some n) (w : World) : (sizeOf t).run P w = .ok n w := by
  unfold sizeO at hi
  split at hi
  · rename_i i h1; cases hi; exact run_sizeOf' h1 w
  · cases hi
theorem run_zeroO {t : TypeId} {z : Value} (hi : zeroO P t = some z) (w : World) : (zeroValue t).run P w = .ok z w := by
  unfold zeroO at hi
  split at hi
  · rename_i i h1; simp [zeroValue, typeInfo, h1, hi]
  · cases hi

theorem aggSize_some {t : TypeId} {n : Nat} (ha : aggSize P t = some (some n)) : (∀ w : World, (isAgg t).run P w = .ok true w) ∧ (∀ w : World, (sizeOf t).run P w = .ok n w) := by
  unfold aggSize at ha
  split at ha
  · rename_i d hd
    split at ha
    · rename_i hg
      split at ha
      · rename_i i hi; cases ha; exact ⟨fun w => by rw [run_isAgg' hd, hg], run_sizeOf' hi⟩
      · cases ha
    · cases ha
  · cases ha
theorem aggSize_none {t : TypeId} (ha : aggSize P t = some none) : ∀ w : World, (isAgg t).run P w = .ok false w := by
  unfold aggSize at ha
  split at ha
  · rename_i d hd
    split at ha
    · split at ha <;> cases ha
    · rename_i hg; exact fun w => by rw [run_isAgg' hd, hg]
  · cases ha

theorem cellsAt_some {i : Nat} {c : List Value} (hc : cellsAt h i = some c) : ∃ rw, h[i]? = some (.cells c rw) := by
  unfold cellsAt at hc
  split at hc
  · rename_i c' rw h1; cases hc; exact ⟨rw, h1⟩
  · cases hc
theorem ownAt_some {i : Nat} {c : List Value} (hc : ownAt h i = some c) : h[i]? = some (.cells c true) := by
  unfold ownAt at hc
  split at hc
  · rename_i c' h1; cases hc; exact h1
  · cases hc
theorem cut_some {c l : List Value} {off n : Nat} (hc : cut c off n = some l) : off + n ≤ c.length ∧ l = (c.drop off).take n := by
  unfold cut at hc
  split at hc
  · rename_i hb; cases hc; exact ⟨Nat.le_of_ble_eq_true hb, rfl⟩
  · cases hc

theorem VRel.ptr_inv {i off : Nat} {u : Value} (hr : VRel m (.pointer (some ⟨i, off, none⟩)) u) : ∃ p, m i = some p ∧ u = .pointer (some ⟨p.block, p.base + off, none⟩) := by
  cases hr with
  | ptr i off p h => exact ⟨p, h, rfl⟩

/-! ### load -/
theorem evLoad_snd (s : Sim B w0 m h w) {t : TypeId} {a v u : Value} (hl : evLoad P h t a = some v) (hr : VRel m a u) :
    ∃ x, (Instr.loadAt t u).run P w = .ok x w ∧ VRel m v x := by
  unfold evLoad at hl
  split at hl
  · rename_i i off
    obtain ⟨p, hp, rfl⟩ := hr.ptr_inv
    split at hl
    · rename_i c hc
      obtain ⟨rw, ho⟩ := cellsAt_some hc
      split at hl
      · rename_i n ha
        obtain ⟨h1, h2⟩ := aggSize_some ha
        split at hl
        · rename_i l hcut
          cases hl
          obtain ⟨hn, rfl⟩ := cut_some hcut
          obtain ⟨us, hus, hlen, hcell⟩ := s.cells hp ho hn
          refine ⟨.agg us.toArray, ?_, VRel.agg_l hus⟩
          have hload := run_loadCells_list (P := P) w ⟨p.block, p.base + off, none⟩ us hcell
          rw [hlen] at hload
          simp [Instr.loadAt, Instr.sureAddr, loadVar, h1, h2, hload]
        · cases hl
      · rename_i ha
        have h1 := aggSize_none ha
        obtain ⟨x, hx, hxr⟩ := s.cell hp ho hl
        exact ⟨x, by simp [Instr.loadAt, Instr.sureAddr, loadVar, h1, hx], hxr⟩
      · cases hl
    · cases hl
  · cases hl

/-! ### cells of values -/
theorem VRel.cells_rel {v u : Value} (hr : VRel m v u) : VRels m v.cells.toList u.cells.toList := by
  cases hr with
  | agg a b h e => exact VRels.of_arr h e
  | bool b => exact .cons (.bool b) (.nil m)
  | int k n => exact .cons (.int k n) (.nil m)
  | float k n => exact .cons (.float k n) (.nil m)
  | complex k a b => exact .cons (.complex k a b) (.nil m)
  | string s => exact .cons (.string s) (.nil m)
  | ptrNil => exact .cons .ptrNil (.nil m)
  | ptr i off p h => exact .cons (.ptr i off p h) (.nil m)
  | sliceNil => exact .cons .sliceNil (.nil m)
  | slice i off len z c p h hc hl hz => exact .cons (.slice i off len z c p h hc hl hz) (.nil m)
  | sliceEnd i off z a hz => exact .cons (.sliceEnd i off z a hz) (.nil m)
  | mapNil => exact .cons .mapNil (.nil m)
  | map i p h => exact .cons (.map i p h) (.nil m)
  | nilFunc => exact .cons .nilFunc (.nil m)
  | func f a b c d h1 h2 hf e1 e2 => exact .cons (.func f a b c d h1 h2 hf e1 e2) (.nil m)
  | yield i p h => exact .cons (.yield i p h) (.nil m)
  | nilIface => exact .cons .nilIface (.nil m)
  | iface t v u h => exact .cons (.iface t v u h) (.nil m)
  | tuple a b h e => exact .cons (.tuple a b h e) (.nil m)

theorem VRel.one {v u : Value} (hr : VRel m v u) : u.oneCell' = v.oneCell' := by cases hr <;> rfl
theorem VRels.one {vs us : List Value} (hr : VRels m vs us) (ho : vs.all Value.oneCell' = true) : ∀ u ∈ us, u.oneCell' = true := by
  intro u hu
  obtain ⟨j, hj, rfl⟩ := List.getElem_of_mem hu
  have hj' : j < vs.length := by rw [hr.1]; exact hj
  have := hr.2 j vs[j] us[j] (List.getElem?_eq_getElem hj') (List.getElem?_eq_getElem hj)
  rw [this.one]
  exact List.all_eq_true.1 ho _ (List.getElem_mem hj')

/-! ### store -/
theorem evStore_len {t : TypeId} {a v : Value} {h h' : Hp} (hl : evStore P h t a v = some h') : h.length ≤ h'.length := by
  unfold evStore at hl
  split at hl
  · split at hl
    · split at hl
      · cases hl; simp
      · cases hl
    · cases hl
  · cases hl

theorem evStore_snd (s : Sim B w0 m h w) {t : TypeId} {a v ua uv : Value} {h' : Hp} (hl : evStore P h t a v = some h') (hra : VRel m a ua) (hrv : VRel m v uv) :
    ∃ w', (Instr.storeAt t ua uv).run P w = .ok () w' ∧ Sim B w0 m h' w' := by
  unfold evStore at hl
  split at hl
  · rename_i i off
    obtain ⟨p, hp, rfl⟩ := hra.ptr_inv
    split at hl
    · rename_i c n hc hn
      split at hl
      · rename_i h1 h2 h3
        cases hl
        have ho := ownAt_some hc
        have hlen : v.cells.toList.length = n := Nat.eq_of_beq_eq_true h1
        have hle : off + n ≤ c.length := Nat.le_of_ble_eq_true h2
        have hcr := hrv.cells_rel
        obtain ⟨arr, ty, hb, hfit, hs⟩ := s.setRow (off := off) hp ho hcr (by omega)
        refine ⟨_, ?_, hs⟩
        have hst := run_storeCells_at P p.block (p.base + off) ty uv.cells.toList 0 arr w hb (by simpa using hfit) (hcr.one h3)
        simp only [Nat.add_zero] at hst
        have hsz : uv.cells.size = n := by
          have := hcr.1
          simp only [Array.length_toList] at this hlen
          omega
        simp [Instr.storeAt, Instr.sureAddr, storeVar, run_sizeO hn, hsz, hst]
      · cases hl
    · cases hl
  · cases hl

/-! ### new objects -/
/-- What an operation's soundness says where it hands back a value. -/
def Good (B : Bs) (w0 : World) (m : Pl) (h : Hp) (v : Value) (h' : Hp) (r : Result Value) : Prop :=
  ∃ m' u w', Stp m h m' h' ∧ Sim B w0 m' h' w' ∧ VRel m' v u ∧ r = .ok u w' ∧ (h' = h → m' = m)

theorem hp_longer {α : Prop} {h : Hp} {o : AObj} (e : h ++ [o] = h) : α := absurd (congrArg List.length e) (by simp)
theorem hp_longer' {α : Prop} {h : Hp} {i : Nat} {x o : AObj} (e : h.set i x ++ [o] = h) : α := absurd (congrArg List.length e) (by simp)

theorem evNew_snd (s : Sim B w0 m h w) {c cs : List Value} (t : TypeId) (hc : VRels m c cs) :
    Good B w0 m h (ptrO h.length) (h ++ [.cells c true]) (.ok (.pointer (some ⟨w.heap.size, 0, none⟩)) (w.alloc (.cells cs.toArray t))) := by
  have hs := s.newCells c cs [] t hc
  simp only [List.append_nil, List.length_nil, Nat.add_zero] at hs
  exact ⟨_, _, _, Stp.put _ _ (s.fresh (Nat.le_refl _)), hs, by simpa [ptrO] using VRel.ptr (m := m.put h.length ⟨w.heap.size, 0, cs.length⟩) h.length 0 _ (Pl.put_same _ _ _), rfl, fun e => hp_longer e⟩

theorem ground_rels {z : Value} (hz : ground z = true) : VRels m z.cells.toList z.cells.toList := (VRel.refl m z hz).cells_rel

theorem evAlloc_snd (s : Sim B w0 m h w) {t : TypeId} {v : Value} {h' : Hp} (hl : evAlloc P h t = some (v, h')) :
    Good B w0 m h v h' ((Instr.alloc t true (.tuple #[])).run P w) := by
  unfold evAlloc at hl
  split at hl
  · rename_i z hz
    split at hl
    · rename_i hg
      cases hl
      have hn := evNew_snd s t (ground_rels (m := m) hg)
      have : (Instr.alloc t true (.tuple #[])).run P w = .ok (.pointer (some ⟨w.heap.size, 0, none⟩)) (w.alloc (.cells z.cells t)) := by
        simp [Instr.alloc, run_zeroO hz, newVar, newRow]
      rw [this]
      simpa using hn
    · cases hl
  · cases hl

theorem evBox_snd (s : Sim B w0 m h w) (t : TypeId) {x u : Value} (hr : VRel m x u) :
    Good B w0 m h (evNew h x.cells.toList).1 (evNew h x.cells.toList).2 ((Instr.box t u).run P w) := by
  have hn := evNew_snd s t hr.cells_rel
  have : (Instr.box t u).run P w = .ok (.pointer (some ⟨w.heap.size, 0, none⟩)) (w.alloc (.cells u.cells t)) := by
    simp [Instr.box, newVar, newRow]
  rw [this]
  simpa [evNew] using hn

/-! ### build -/
theorem foldl_set_rel : ∀ (l l' : List Value) (k off : Nat) (cs ds : Array Value), VRels m l l' → VRels m cs.toList ds.toList →
    VRels m ((l.zipIdx k).foldl (fun cs (c, j) => cs.setIfInBounds (off + j) c) cs).toList ((l'.zipIdx k).foldl (fun cs (c, j) => cs.setIfInBounds (off + j) c) ds).toList
  | [], [], _, _, _, _, _, hcs => by simpa using hcs
  | [], _ :: _, _, _, _, _, hl, _ => by have := hl.1; simp at this
  | _ :: _, [], _, _, _, _, hl, _ => by have := hl.1; simp at this
  | x :: l, y :: l', k, off, cs, ds, hl, hcs => by
    simp only [List.zipIdx_cons, List.foldl_cons]
    refine foldl_set_rel l l' (k + 1) off _ _ ⟨by have := hl.1; simpa using this, fun j v u hv hu => hl.2 (j + 1) v u (by simpa using hv) (by simpa using hu)⟩ ?_
    simp only [Array.toList_setIfInBounds]
    exact hcs.set _ (hl.2 0 x y rfl rfl)

theorem fill_rel (place : Nat → Option (Nat × Nat)) : ∀ (ps qs : List (Nat × Value)) (cs ds : Array Value) {out : Array Value},
    ps.map (·.1) = qs.map (·.1) → VRels m (ps.map (·.2)) (qs.map (·.2)) → VRels m cs.toList ds.toList → Instr.fill place cs ps = some out →
    ∃ out', Instr.fill place ds qs = some out' ∧ VRels m out.toList out'.toList
  | [], [], cs, ds, out, _, _, hcs, hf => by simp only [Instr.fill] at hf ⊢; cases hf; exact ⟨ds, rfl, hcs⟩
  | [], _ :: _, _, _, _, h1, _, _, _ => by simp at h1
  | _ :: _, [], _, _, _, h1, _, _, _ => by simp at h1
  | (i, v) :: ps, (j, u) :: qs, cs, ds, out, h1, h2, hcs, hf => by
    simp only [List.map_cons, List.cons.injEq] at h1
    obtain ⟨rfl, h1⟩ := h1
    have hvu : VRel m v u := h2.2 0 v u rfl rfl
    have hcl := hvu.cells_rel
    simp only [Instr.fill] at hf ⊢
    cases hpl : place i with
    | none => simp [hpl] at hf
    | some q =>
      obtain ⟨off, size⟩ := q
      simp only [hpl] at hf ⊢
      have e1 : u.cells.size = v.cells.size := by have := hcl.1; simp only [Array.length_toList] at this; omega
      have e2 : ds.size = cs.size := by have := hcs.1; simp only [Array.length_toList] at this; omega
      rw [e1, e2]
      split at hf
      · cases hf
      · rename_i hc
        rw [if_neg hc]
        refine fill_rel place ps qs _ _ h1 ⟨by have := h2.1; simpa using this, fun k x y hx hy => h2.2 (k + 1) x y (by simpa using hx) (by simpa using hy)⟩ ?_ hf
        have := foldl_set_rel v.cells.toList u.cells.toList 0 off cs ds hcl hcs
        rw [← Array.foldl_toList, ← Array.foldl_toList, Array.toList_zipIdx, Array.toList_zipIdx]
        exact this

theorem partsO_rel (he : EnvRel m E a.tmps) : ∀ {ps : List (Nat × Operand)} {l : List (Nat × Value)}, partsO E ps = some l →
    l.map (·.1) = (ps.map (fun x => (x.1, a.eval x.2))).map (·.1) ∧ VRels m (l.map (·.2)) ((ps.map (fun x => (x.1, a.eval x.2))).map (·.2))
  | [], l, hl => by simp [partsO] at hl; subst hl; exact ⟨rfl, VRels.nil m⟩
  | (i, x) :: ps, l, hl => by
    simp only [partsO] at hl
    split at hl
    · rename_i v r h1 h2
      cases hl
      obtain ⟨k1, k2⟩ := partsO_rel he h2
      exact ⟨by simpa using k1, .cons (evalO_rel he h1) k2⟩
    · cases hl

theorem run_places : ∀ (fs : List Field) {pl : List (Nat × Nat)} (w : World), placesO P fs = some pl →
    (fs.mapM (fun f => do pure (f.offset, ← sizeOf f.type) : Field → Sem (Nat × Nat))).run P w = .ok pl w
  | [], pl, w, hp => by simp [placesO] at hp; subst hp; simp
  | f :: fs, pl, w, hp => by
    simp only [placesO] at hp
    split at hp
    · rename_i n r h1 h2
      cases hp
      rw [List.mapM_cons]
      simp only [Sem.run_bind, run_sizeO h1, Result.andThen_ok, Sem.run_pure]
      rw [run_places fs w h2]
      rfl
    · cases hp
theorem run_placesA {fs : Array Field} {pl : List (Nat × Nat)} (w : World) (hp : placesO P fs.toList = some pl) :
    (fs.mapM (fun f => do pure (f.offset, ← sizeOf f.type) : Field → Sem (Nat × Nat))).run P w = .ok pl.toArray w := by
  rw [Array.mapM_eq_mapM_toList, Sem.run_map, run_places fs.toList w hp]
  rfl

theorem evBuild_snd (s : Sim B w0 m h w) {t : TypeId} {ps : List (Nat × Value)} {qs : Array (Nat × Value)} {v : Value} (hl : evBuild P t ps = some v)
    (h1 : ps.map (·.1) = qs.toList.map (·.1)) (h2 : VRels m (ps.map (·.2)) (qs.toList.map (·.2))) : Good B w0 m h v h ((Instr.build t qs).run P w) := by
  unfold evBuild at hl
  split at hl
  · rename_i z hz
    split at hl
    · rename_i hg
      split at hl
      · rename_i fields hu
        split at hl
        · rename_i pl hpl
          split at hl
          · rename_i cs hf
            cases hl
            obtain ⟨out, ho, hr⟩ := fill_rel _ ps qs.toList _ _ h1 h2 (ground_rels (m := m) hg) hf
            refine ⟨m, .agg out, w, Stp.refl m h, s, .agg _ _ (by have := hr.1; simpa using this) (by simpa using hr.arr), ?_⟩
            have hpm := run_placesA (P := P) w hpl
            unfold Instr.build
            rw [Sem.run_bind, run_zeroO hz]
            simp only [Result.andThen_ok]
            rw [Sem.run_bind, run_underlying hu]
            simp only [Result.andThen_ok]
            rw [Sem.run_bind, hpm]
            simp only [Result.andThen_ok]
            rw [ho]
            simp
          · cases hl
        · cases hl
      · rename_i n e hu
        split at hl
        · rename_i sz hsz
          split at hl
          · rename_i cs hf
            cases hl
            obtain ⟨out, ho, hr⟩ := fill_rel _ ps qs.toList _ _ h1 h2 (ground_rels (m := m) hg) hf
            refine ⟨m, .agg out, w, Stp.refl m h, s, .agg _ _ (by have := hr.1; simpa using this) (by simpa using hr.arr), ?_⟩
            exact ⟨by simp [Instr.build, run_zeroO hz, run_underlying hu, run_sizeO hsz, ho], fun _ => rfl⟩
          · cases hl
        · cases hl
      · cases hl
    · cases hl
  · cases hl

end Go.Ev
