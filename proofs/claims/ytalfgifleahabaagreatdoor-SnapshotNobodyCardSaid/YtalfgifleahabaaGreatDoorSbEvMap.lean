import Derived.Test.YtalfgifleahabaaGreatDoorSbEvSnd5
import Derived.MapKept
namespace Go.Ev
open Go.RowKit

variable {P : Program} {B : Bs} {w0 : World} {m : Pl} {h : Hp} {w : World} {E : Env} {a : Act}

/-! ### Maps -/
def kv (e : MapEntry) : Value × Value := (e.key, e.val)

theorem mpAt_some {i : Nat} {es : List (Value × Value)} (hc : mpAt h i = some es) : h[i]? = some (.mp es) := by
  unfold mpAt at hc
  split at hc
  · rename_i h1; cases hc; exact h1
  · cases hc
theorem isKeyB_ok {d : TypeDesc} {k : Value} (hk : isKeyB d k = true) : MapKept.IsKey d k := by
  cases d <;> cases k <;> simp_all [isKeyB, MapKept.IsKey]
theorem isKeyB_ground {d : TypeDesc} {k : Value} (hk : isKeyB d k = true) : ground k = true := by
  cases d <;> cases k <;> simp_all [isKeyB, ground]

/-- What is found in a map with the same keys, and values alike. -/
def FRel (m : Pl) : Option (Nat × Value) → Option (Nat × Value) → Prop
  | none, r => r = none
  | some (j, v), r => ∃ u, r = some (j, u) ∧ VRel m v u

theorem findNow_rel {d : TypeDesc} {k : Value} : ∀ (es : List (Value × Value)) (l : List MapEntry) (i : Nat) {r : Option (Nat × Value)}, l.map (·.key) = es.map (·.1) → VRels m (es.map (·.2)) (l.map (·.val)) →
    Instr.findNow d k (mpE es) i = some r → ∃ r', Instr.findNow d k l i = some r' ∧ FRel m r r'
  | [], [], _, r, _, _, hf => by
    simp only [mpE, List.map_nil, Instr.findNow, Option.some.injEq] at hf
    subst hf
    exact ⟨none, by simp [Instr.findNow], rfl⟩
  | [], _ :: _, _, _, h, _, _ => by simp at h
  | _ :: _, [], _, _, h, _, _ => by simp at h
  | x :: es, e :: l, i, r, h, hv, hf => by
    simp only [List.map_cons, List.cons.injEq] at h
    have hv0 : VRel m x.2 e.val := hv.2 0 _ _ rfl rfl
    have hvs : VRels m (es.map (·.2)) (l.map (·.val)) := hv.drop 1
    simp only [mpE, List.map_cons, Instr.findNow, h.1] at hf ⊢
    split at hf
    · cases hf
      exact ⟨_, rfl, e.val, rfl, hv0⟩
    · exact findNow_rel es l (i + 1) h.2 hvs hf
    · cases hf

theorem VRel.map_inv {i : Nat} {u : Value} (hr : VRel m (.map (some i)) u) : ∃ p, m i = some p ∧ u = .map (some p.block) := by
  cases hr with
  | map _ p hp => exact ⟨p, hp, rfl⟩

theorem Sim.mp (s : Sim B w0 m h w) {i : Nat} {p : Place} {es : List (Value × Value)} (hi : m i = some p) (ho : h[i]? = some (.mp es)) :
    ∃ (arr : Array MapEntry) (clock : Nat), w.heap[p.block]? = some (.map arr clock) ∧ arr.toList.map (·.key) = es.map (·.1) ∧ VRels m (es.map (·.2)) (arr.toList.map (·.val)) ∧ (es.all fun x => ground x.1) = true ∧ B.n ≤ p.block := s.get hi ho

/-- What is found in the real map. -/
theorem mpFind_snd {kt : TypeId} {es : List (Value × Value)} {k : Value} {r : Option (Nat × Value)} (hf : mpFind P kt es k = some r) {arr : Array MapEntry} (ha : arr.toList.map (·.key) = es.map (·.1)) (hv : VRels m (es.map (·.2)) (arr.toList.map (·.val))) :
    ∃ d, P.underlying kt = some d ∧ MapKept.IsKey d k ∧ ground k = true ∧ (∀ x ∈ arr.toList, MapKept.IsKey d x.key) ∧ ∃ r', Instr.findNow d k arr.toList 0 = some r' ∧ FRel m r r' := by
  unfold mpFind at hf
  split at hf
  · rename_i d hd
    split at hf
    · rename_i hk
      simp only [Bool.and_eq_true] at hk
      refine ⟨d, hd, isKeyB_ok hk.1, isKeyB_ground hk.1, fun x hx => ?_, findNow_rel es arr.toList 0 ha hv hf⟩
      have : x.key ∈ es.map (·.1) := ha ▸ List.mem_map_of_mem hx
      obtain ⟨y, hy, e⟩ := List.mem_map.1 this
      rw [← e]
      exact isKeyB_ok (List.all_eq_true.1 hk.2 _ hy)
    · cases hf
  · cases hf

theorem evLookup_snd (s : Sim B w0 m h w) {t : TypeId} {x k ux uk v : Value} {ok : Bool} (hl : evLookup P h t x k ok = some v) (hx : VRel m x ux) (hk : VRel m k uk) :
    ∃ r, (Instr.lookup t ux uk ok).run P w = .ok r w ∧ VRel m v r := by
  unfold evLookup at hl
  split at hl
  · rename_i kt et i hu
    obtain ⟨p, hp, rfl⟩ := hx.map_inv
    split at hl
    · rename_i es hes
      obtain ⟨arr, clock, hb, ha, hvs, hg, _⟩ := s.mp hp (mpAt_some hes)
      split at hl
      · rename_i j y hf
        obtain ⟨d, hd, hkey, hkg, hks, r', hfn, u, rfl, hy⟩ := mpFind_snd hf ha hvs
        have := hk.ground hkg; subst this
        cases ok with
        | true =>
          cases hl
          exact ⟨.tuple #[u, .bool true], by simp [Instr.lookup, run_underlying hu, MapKept.run_getObj_map hb, MapKept.run_checkKey hd hkey, MapKept.run_findKey hd hfn, Result.andThen],
            VRel.tuple_l (.cons hy (.cons (.bool _) (.nil m)))⟩
        | false =>
          simp only [Option.some.injEq] at hl
          subst hl
          exact ⟨u, by simp [Instr.lookup, run_underlying hu, MapKept.run_getObj_map hb, MapKept.run_checkKey hd hkey, MapKept.run_findKey hd hfn, Result.andThen], hy⟩
      · rename_i hf
        obtain ⟨d, hd, hkey, hkg, hks, r', hfn, hr'⟩ := mpFind_snd hf ha hvs
        have hr' : r' = none := hr'
        subst hr'
        have := hk.ground hkg; subst this
        split at hl
        · rename_i z hz
          split at hl
          · rename_i hgz
            cases hl
            exact ⟨.tuple #[z, .bool false], by simp [Instr.lookup, run_underlying hu, MapKept.run_getObj_map hb, MapKept.run_checkKey hd hkey, MapKept.run_findKey hd hfn, Result.andThen, run_zeroO hz],
              VRel.tuple_l (.cons (VRel.refl m z hgz) (.cons (.bool _) (.nil m)))⟩
          · rename_i hgz
            simp only [Option.some.injEq] at hl
            subst hl
            exact ⟨z, by simp [Instr.lookup, run_underlying hu, MapKept.run_getObj_map hb, MapKept.run_checkKey hd hkey, MapKept.run_findKey hd hfn, Result.andThen, run_zeroO hz], VRel.refl m z hgz⟩
          · cases hl
        · cases hl
      · cases hl
    · cases hl
  · cases hl

/-- A map, turned. -/
theorem Sim.putMap (s : Sim B w0 m h w) {i : Nat} {p : Place} {es es' : List (Value × Value)} (hi : m i = some p) (ho : h[i]? = some (.mp es)) {arr : Array MapEntry} {clock : Nat} (hl : w.heap[p.block]? = some (.map arr clock))
    {arr' : Array MapEntry} {clock' : Nat} (ha : arr'.toList.map (·.key) = es'.map (·.1)) (hv : VRels m (es'.map (·.2)) (arr'.toList.map (·.val))) (hg : (es'.all fun x => ground x.1) = true) :
    Sim B w0 m (h.set i (.mp es')) { w with heap := w.heap.setIfInBounds p.block (.map arr' clock') } := by
  have hB : B.n ≤ p.block := (s.get hi ho).owns_ge rfl
  have hil : i < h.length := (List.getElem?_eq_some_iff.1 ho).1
  have hot : ∀ k, k ≠ p.block → (w.heap.setIfInBounds p.block (.map arr' clock'))[k]? = w.heap[k]? := fun k hk => (MapKept.heap_set hl).2 k hk
  have hown : ∀ j q o', m j = some q → h[j]? = some o' → o' ≠ .dead → j ≠ i → q.block ≠ p.block := by
    intro j q o' hq ho' hd hji e
    have hr' := s.get hq ho'
    cases o' with
    | dead => exact hd rfl
    | cells c rw =>
      obtain ⟨arr, t, fz, h1, _⟩ := hr'
      rw [e, hl] at h1; cases h1
    | loop st pending E n params assign body => exact hji (s.inj j i q p _ _ hq hi ho' ho rfl rfl e)
    | mp es => exact hji (s.inj j i q p _ _ hq hi ho' ho rfl rfl e)
    | glob g c => obtain ⟨e1, _, e3, _⟩ := hr'; omega
  refine ⟨⟨s.below.os, s.below.tape, s.below.output, by have := s.below.size; simpa using this, fun k hk => ?_⟩, s.base, fun b hb => ⟨(s.marks b hb).1, ?_⟩, s.nodup, fun j q hq => ?_, fun j k q r x y hq hr' hx hy ox oy hbl => ?_, fun j g c hj => s.gl j g c (glob_set hj (by simp))⟩
  · exact (hot k (by omega)).trans (s.below.block k hk)
  · have hm := (s.marks b hb).2
    exact (hot b (fun e => by rw [e, hl] at hm; cases hm)).trans hm
  · obtain ⟨o', ho', hr'⟩ := s.real j q hq
    by_cases hji : j = i
    · subst hji
      rw [hi] at hq; cases hq
      exact ⟨.mp es', List.getElem?_set_self hil, arr', clock', (MapKept.heap_set hl).1, ha, hv, hg, hB⟩
    · exact ⟨o', by rw [List.getElem?_set_ne (Ne.symm hji)]; exact ho', hr'.frame fun hd => hot _ (hown j q o' hq ho' hd hji)⟩
  · have key : ∀ (k : Nat) (x : AObj), (h.set i (.mp es'))[k]? = some x → x.owns = true → ∃ x' : AObj, h[k]? = some x' ∧ x'.owns = true := by
      intro k x hx ox
      by_cases hk : k = i
      · subst hk; exact ⟨_, ho, rfl⟩
      · rw [List.getElem?_set_ne (Ne.symm hk)] at hx; exact ⟨x, hx, ox⟩
    obtain ⟨x', hx', ox'⟩ := key j x hx ox
    obtain ⟨y', hy', oy'⟩ := key k y hy oy
    exact s.inj j k q r x' y' hq hr' hx' hy' ox' oy' hbl

theorem evMapUpdate_len {t : TypeId} {x k v : Value} {h h' : Hp} (hl : evMapUpdate P h t x k v = some h') : h.length ≤ h'.length := by
  unfold evMapUpdate at hl
  split at hl
  · split at hl
    · split at hl
      · split at hl
        · cases hl; simp
        · cases hl; simp
        · cases hl
      · cases hl
    · cases hl
  · cases hl

theorem modify_key (arr : Array MapEntry) (j : Nat) (k v : Value) : (arr.modify j fun e => { e with key := k, val := v }).toList.map (·.key) = (arr.toList.map (·.key)).set j k := by
  apply List.ext_getElem?
  intro n
  rw [List.getElem?_map, Array.getElem?_toList, Array.getElem?_modify, List.getElem?_set, List.length_map, Array.length_toList, List.getElem?_map, Array.getElem?_toList]
  by_cases hj : j = n
  · subst hj
    simp only [if_true]
    by_cases hlt : j < arr.size
    · simp [hlt]
    · simp [hlt]
  · simp [hj]
theorem modify_val (arr : Array MapEntry) (j : Nat) (k v : Value) : (arr.modify j fun e => { e with key := k, val := v }).toList.map (·.val) = (arr.toList.map (·.val)).set j v := by
  apply List.ext_getElem?
  intro n
  rw [List.getElem?_map, Array.getElem?_toList, Array.getElem?_modify, List.getElem?_set, List.length_map, Array.length_toList, List.getElem?_map, Array.getElem?_toList]
  by_cases hj : j = n
  · subst hj
    simp only [if_true]
    by_cases hlt : j < arr.size
    · simp [hlt]
    · simp [hlt]
  · simp [hj]

theorem evMapUpdate_snd (s : Sim B w0 m h w) {t : TypeId} {x k v ux uk uv : Value} {h' : Hp} (hl : evMapUpdate P h t x k v = some h') (hx : VRel m x ux) (hk : VRel m k uk) (hv : VRel m v uv) :
    ∃ w', (Instr.mapUpdate t ux uk uv).run P w = .ok () w' ∧ Sim B w0 m h' w' := by
  unfold evMapUpdate at hl
  split at hl
  · rename_i kt et i hu
    obtain ⟨p, hp, rfl⟩ := hx.map_inv
    split at hl
    · rename_i es hes
      have ho := mpAt_some hes
      obtain ⟨arr, clock, hb, ha, hvs, hg, hB⟩ := s.mp hp ho
      split at hl
      · rename_i hkv
        have := hk.ground hkv; subst this
        split at hl
        · rename_i j y hf
          cases hl
          obtain ⟨d, hd, hkey, _, hks, r', hfn, u, rfl, hy⟩ := mpFind_snd hf ha hvs
          rcases MapKept.findNow_spec hkey arr.toList 0 hks with ⟨h1, _⟩ | ⟨j', e, h1, h2, h3⟩
          · rw [hfn] at h1; cases h1
          · have h1' := h1
            rw [hfn] at h1
            simp only [Option.some.injEq, Prod.mk.injEq, Nat.zero_add] at h1
            obtain ⟨rfl, rfl⟩ := h1
            have hj : arr[j]? = some e := by simpa using h2
            refine ⟨_, ?_, s.putMap (clock' := clock) (es' := es.set j (k, v)) (arr' := arr.modify j fun e => { e with key := k, val := uv }) hp ho hb ?_ ?_ ?_⟩
            · simp [Instr.mapUpdate, run_underlying hu, MapKept.run_getObj_map hb, MapKept.run_checkKey hd hkey, MapKept.run_findKey hd hfn, hj, h3, MapKept.run_keyThatStays hkey, MapKept.run_setObj_map _ hb, Result.andThen]
            · rw [modify_key, ha, List.map_set]
            · rw [modify_val, List.map_set]
              exact hvs.set j hv
            · rw [List.all_eq_true] at hg ⊢
              intro z hz
              rcases List.mem_or_eq_of_mem_set hz with hz | rfl
              · exact hg z hz
              · exact hkv
        · rename_i hf
          cases hl
          obtain ⟨d, hd, hkey, _, hks, r', hfn, hr'⟩ := mpFind_snd hf ha hvs
          have hr' : r' = none := hr'
          subst hr'
          refine ⟨_, ?_, s.putMap (clock' := clock + 1) (arr' := arr.push ⟨k, uv, clock⟩) (es' := es ++ [(k, v)]) hp ho hb (by simp [ha]) ?_ ?_⟩
          · simp [Instr.mapUpdate, run_underlying hu, MapKept.run_getObj_map hb, MapKept.run_checkKey hd hkey, MapKept.run_findKey hd hfn, MapKept.run_setObj_map _ hb, Result.andThen]
          · have := hvs.append (.cons hv (.nil m))
            simpa using this
          · rw [List.all_append, hg]; simp [hkv]
        · cases hl
      · cases hl
    · cases hl
  · cases hl

/-- A new map. -/
theorem evMakeMap_snd (s : Sim B w0 m h w) (t : TypeId) : Good B w0 m h (.map (some h.length)) (h ++ [.mp []]) ((Instr.makeMap t none).run P w) := by
  have hs := s.new (.map #[] 0) (.mp []) ⟨w.heap.size, 0, 0⟩ rfl ⟨#[], 0, by simpa using heap_alloc_new w _, rfl, VRels.nil _, rfl, s.size⟩
  exact ⟨_, .map (some w.heap.size), _, Stp.put _ _ (s.fresh (Nat.le_refl _)), hs, VRel.map (m := m.put h.length ⟨w.heap.size, 0, 0⟩) h.length _ (Pl.put_same _ _ _), by simp [Instr.makeMap, Result.andThen], fun e => hp_longer e⟩

/-! ### A slice copied -/
theorem evCopy_snd (s : Sim B w0 m h w) {ts : List TypeId} {x y v ux uy : Value} {h' : Hp} (ty : TypeId) (hl : evCopy P h ts x y = some (v, h')) (hx : VRel m x ux) (hy : VRel m y uy) :
    Good B w0 m h v h' ((Builtin.copy_ ts.toArray ty #[ux, uy]).run P w) := by
  unfold evCopy at hl
  split at hl
  · rename_i st tl
    split at hl
    · rename_i e hu
      split at hl
      · rename_i sz hsz
        have hss := fun w : World => run_sizeO (P := P) hsz w
        -- nothing is copied
        have key : ∀ (a : Option Addr) (n cap : Nat) (b : Option Addr) (k cap' : Nat), Nat.min k n = 0 → (Builtin.copy_ (st :: tl).toArray ty #[.slice a n cap, .slice b k cap']).run P w = .ok (.int .i64 0) w := by
          intro a n cap b k cap' hm
          have hf : (Builtin.firstCells sz 0 (.slice b k cap')).run P w = .ok #[] w := by
            cases b with
            | none => exact run_firstCells_none w sz 0 k cap'
            | some b => exact run_firstCells_some w sz 0 b k cap' [] (by simp) (fun j v hv => by simp at hv)
          cases a <;> simp [Builtin.copy_, run_underlying hu, hss, Builtin.lenOf, hm, hf, storeCells, goInt]
        have fin : ∀ {r : Value}, (Builtin.copy_ (st :: tl).toArray ty #[ux, uy]).run P w = .ok (.int .i64 0) w → r = .int .i64 0 → Good B w0 m h r h ((Builtin.copy_ (st :: tl).toArray ty #[ux, uy]).run P w) := by
          intro r hr er
          subst er
          exact ⟨m, _, w, Stp.refl m h, s, .int _ _, hr, fun _ => rfl⟩
        split at hl
        · cases hl
          have := hx.slice_nil_inv; subst this
          have := hy.slice_nil_inv; subst this
          exact fin (key _ _ _ _ _ _ rfl) rfl
        · cases hl
          have := hx.slice_nil_inv; subst this
          obtain ⟨b', c, rfl, _⟩ := hy.slice_any_inv
          exact fin (key _ _ _ _ _ _ (Nat.min_zero _)) rfl
        · cases hl
          have := hy.slice_nil_inv; subst this
          obtain ⟨b', c, rfl, _⟩ := hx.slice_any_inv
          exact fin (key _ _ _ _ _ _ (Nat.zero_min _)) rfl
        · rename_i i off dl z j o n z'
          split at hl
          · rename_i hmin
            cases hl
            obtain ⟨b', c, rfl, _⟩ := hx.slice_any_inv
            obtain ⟨b2, c2, rfl, _⟩ := hy.slice_any_inv
            exact fin (key _ _ _ _ _ _ hmin) rfl
          · rename_i k hmin
            split at hl
            · rename_i c c' hc hc'
              split at hl
              · rename_i l hcut hz hz'
                split at hl
                · rename_i hle hone
                  simp only [Option.some.injEq, Prod.mk.injEq] at hl
                  obtain ⟨rfl, rfl⟩ := hl
                  have ez : z = sz := Nat.eq_of_beq_eq_true hz
                  have ez' : z' = sz := Nat.eq_of_beq_eq_true hz'
                  subst ez; subst ez'
                  have hmin' : min n dl = k + 1 := hmin
                  obtain ⟨hcl, rfl⟩ := cut_some hcut
                  have ho := ownAt_some hc
                  obtain ⟨rw', ho'⟩ := cellsAt_some hc'
                  obtain ⟨_, hcx⟩ := hx.slice_inv
                  obtain ⟨_, hcy⟩ := hy.slice_inv
                  rcases hcx with ⟨p, cap, hp, hcap, hlen, rfl⟩ | ⟨rfl, bb, rfl⟩
                  · rcases hcy with ⟨q, cap', hq, hcap', hlen', rfl⟩ | ⟨rfl, bb, rfl⟩
                    · obtain ⟨us, hus, hul, hcell⟩ := s.cells hq ho' hcl
                      have hfc := run_firstCells_some (P := P) w z' (k + 1) ⟨q.block, q.base + o, none⟩ n cap' us hul hcell
                      obtain ⟨arr, tt, hb, hfit, hs⟩ := s.setRow (off := off) hp ho hus (Nat.le_of_ble_eq_true hle)
                      have hst := run_storeCells_at P p.block (p.base + off) tt us 0 arr w hb (by simpa using hfit) (hus.one hone)
                      simp only [Nat.add_zero] at hst
                      refine ⟨m, _, _, Stp.same (by simp), hs, .int _ _, ?_, fun e => rfl⟩
                      simp [Builtin.copy_, run_underlying hu, hss, Builtin.lenOf, hmin, hfc, hst, goInt]
                    · simp at hmin'
                  · simp at hmin'
                · cases hl
              · cases hl
            · cases hl
        · cases hl
      · cases hl
    · cases hl
  · cases hl

/-! ### A slice made zero -/
theorem evClear_len {t : TypeId} {x : Value} {h h' : Hp} (hl : evClear P h t x = some h') : h.length ≤ h'.length := by
  unfold evClear at hl
  split at hl
  · split at hl
    · cases hl; exact Nat.le_refl _
    · cases hl
  · split at hl
    · split at hl
      · cases hl; exact Nat.le_refl _
      · split at hl
        · split at hl
          · cases hl; simp
          · cases hl
        · cases hl
    · cases hl
  · cases hl

theorem evClear_snd (s : Sim B w0 m h w) {t ty : TypeId} {x ux : Value} {h' : Hp} (hl : evClear P h t x = some h') (hr : VRel m x ux) :
    ∃ w', (Builtin.clear_ #[t] ty #[ux]).run P w = .ok (.tuple #[]) w' ∧ Sim B w0 m h' w' := by
  unfold evClear at hl
  split at hl
  · have := hr.slice_nil_inv; subst this
    split at hl
    · rename_i e hu
      cases hl
      exact ⟨w, by simp [Builtin.clear_, run_underlying hu], s⟩
    · cases hl
  · rename_i i off n z
    split at hl
    · rename_i e hu
      split at hl
      · cases hl
        obtain ⟨b', c, rfl, hn⟩ := hr.slice_any_inv
        exact ⟨w, by cases b' <;> simp [Builtin.clear_, run_underlying hu], s⟩
      · rename_i hn0
        split at hl
        · rename_i zv c hz hc
          split at hl
          · rename_i h1 h2 h3
            cases hl
            simp only [Bool.and_eq_true] at h3
            have hzs : zv.cells.size = z := Nat.eq_of_beq_eq_true h2
            subst hzs
            have hle : off + n * zv.cells.size ≤ c.length := Nat.le_of_ble_eq_true h3.1
            have ho := ownAt_some hc
            cases hr with
            | sliceEnd => exact absurd rfl hn0
            | slice _ _ _ _ cap p hp hcap hlen hz0 =>
              have hzr := zeros_rel (m := m) h1 (n * zv.cells.size)
              obtain ⟨arr, tt, hb, hfit, hs⟩ := s.setRow (off := off) hp ho hzr (by simpa using hle)
              refine ⟨_, ?_, by simpa using hs⟩
              have hst := run_storeCells_at P p.block (p.base + off) tt _ 0 arr w hb (by simpa using hfit) (fun v hv => List.all_eq_true.1 h3.2 v hv)
              simp only [Nat.add_zero] at hst
              cases n with
              | zero => exact absurd rfl hn0
              | succ n =>
                simp at hst
                simp [Builtin.clear_, run_underlying hu, run_zeroO hz, Builtin.zeroCells, hst]
          · cases hl
        · cases hl
    · cases hl
  · cases hl

/-! ### A method of a value in an interface -/
theorem run_nilchk (t ty : TypeId) (b : Addr) (x y : String) : Builtin.ssaWrapNilChk_ #[t] ty #[.pointer (some b), strVal x, strVal y] = pure (.pointer (some b)) := rfl
theorem evMethod_snd (s : Sim B w0 m h w) {name : String} {r u x : Value} {f : FuncId} (hl : evMethod P h name r = some (f, x)) (hr : VRel m r u) :
    ∃ ux, VRel m x ux ∧ ∀ args, (callMethod u name args).run P w = (callFunc f (#[ux] ++ args)).run P w := by
  unfold evMethod at hl
  split at hl
  · rename_i t v
    obtain ⟨v', rfl, hv⟩ := hr.iface_inv
    obtain ⟨fu, hfu⟩ : ∃ n, P.types.size + Made.depth = n + 1 := ⟨P.types.size + 99, rfl⟩
    split at hl
    · rename_i i hi
      split at hl
      · rename_i mt hmt
        split at hl
        · rename_i g e hpath hfn hun
          cases hl
          refine ⟨v', hv, fun args => ?_⟩
          simp [callMethod, hfu, method, typeInfo, hi, hmt, hpath, follow, hfn, receiverAt, run_underlying hun, Place.get]
        · rename_i g e hpath hfn hun
          split at hl
          · rename_i ad
            split at hl
            · rename_i rv hld
              cases hl
              obtain ⟨ur, h1, h2⟩ := evLoad_snd s hld hv
              obtain ⟨b', hb', hn⟩ := hv.ptr_any_inv
              subst hb'
              cases b' with
              | none => simp at hn
              | some ad' =>
                refine ⟨ur, h2, fun args => ?_⟩
                have h1' : (loadVar e ad').run P w = .ok ur w := by simpa [Instr.loadAt, Instr.sureAddr] using h1
                simp [callMethod, hfu, method, typeInfo, hi, hmt, hpath, follow, hfn, receiverAt, run_underlying hun, Go.Place.get, run_nilchk, asAddr]
                split <;> simp [h1', Result.andThen]
            · cases hl
          · cases hl
        · rename_i g d hnp hpath hfn hun
          split at hl
          · rename_i hag
            cases hl
            refine ⟨v', hv, fun args => ?_⟩
            cases d <;> simp [isAggD] at hag <;>
            simp [callMethod, hfu, method, typeInfo, hi, hmt, hpath, follow, hfn, receiverAt, run_underlying hun, Go.Place.get]
          · cases hl
        · cases hl
      · cases hl
    · cases hl
  · cases hl

end Go.Ev
