import Derived.Test.YtalfgifleahabaaGreatDoorSbEvLaw
import Derived.Test.YtalfgifleahabaaGreatDoorSbEvGoSnd
import Derived.Lib.LaidTab
namespace Go.Ev
open Go.RowKit Go.ChangeShapes Go.WideShapes

variable {P : Program} {H : Type} {enc : TypeId × Value → H} {W : World} {m : Pl} {h : Hp}

/-! ### What a row's laid variables are to the evaluator -/

theorem laidVars_get : ∀ {l : List (String × DataW Unit)} {ps : List MemPlace}, DataW.LaidVars P W l ps → ∀ n d, (n, d) ∈ l →
    ∃ g t cs fuel p, P.globalNamed n = some g ∧ (P.globals[g]?).map (·.type) = some t ∧ W.var? P n = some cs ∧ DataW.trod (fun _ => ()) P W 0 (fun _ => true) false fuel t cs.toList = some (d, p)
  | [], _, _, _, _, hm => by cases hm
  | (n', d') :: r, ps, h, n, d, hm => by
    obtain ⟨g, t, cs, fuel, p, q, h1, h2, h3, h4, h5, _⟩ := h
    rcases List.mem_cons.1 hm with e | e
    · cases e
      exact ⟨g, t, cs, fuel, p, h1, h2, h3, h4⟩
    · exact laidVars_get h5 n d e

theorem var_heap {n : String} {g : Nat} {cs : Array Value} (hg : P.globalNamed n = some g) (h : W.var? P n = some cs) : ∃ t fz, W.heap[g]? = some (.cells cs t fz) := by
  unfold World.var? at h
  rw [hg, Option.bind_some] at h
  split at h
  · rename_i c t fz hb
    cases h
    exact ⟨t, fz, hb⟩
  · cases h

theorem rels_ground {l : List Value} (hl : l.all ground = true) : VRels m l l :=
  ⟨rfl, fun j v u hv hu => by rw [hv] at hu; cases hu; exact VRel.refl m v (List.all_eq_true.1 hl v (List.mem_of_getElem? hv))⟩

/-- A row of values that name no object. -/
theorem adopt_row (s : Sim (B0 W) W m h W) (hn : NoOwn h) {cs : List Value} (hg : cs.all ground = true) (hne : cs ≠ []) {a : Addr} (hc : ∀ (j : Nat) v, cs[j]? = some v → W.cell? (a.add j) = some v) :
    a = ⟨a.block, a.off, none⟩ ∧ Sim (B0 W) W (m.put h.length ⟨a.block, a.off, cs.length⟩) (h ++ [.cells cs false]) W ∧ NoOwn (h ++ [.cells cs false]) := by
  have hpos : 0 < cs.length := List.length_pos_iff.2 hne
  have hspot : a.spot = none := by
    have hc00 := hc 0 _ (List.getElem?_eq_getElem hpos)
    simp only [Addr.add, if_true] at hc00
    unfold World.cell? at hc00
    split at hc00
    · split at hc00
      · cases hc00
      · rename_i hsp; cases hs : a.spot with
        | none => rfl
        | some q => simp [hs] at hsp
    · cases hc00
  have ha : a = ⟨a.block, a.off, none⟩ := by cases a; simp at hspot; subst hspot; rfl
  have hcell : ∀ (j : Nat) v, cs[j]? = some v → W.cell? ⟨a.block, a.off + j, none⟩ = some v := by
    intro j v hj
    have := hc j v hj
    rwa [ha, add_addr] at this
  refine ⟨ha, ?_⟩
  have hlast := hcell (cs.length - 1) _ (List.getElem?_eq_getElem (by omega))
  obtain ⟨arr, t', fz, hbk, hoff⟩ := cell_lt hlast
  simp only at hbk hoff
  refine s.adoptRo hn _ rfl ⟨arr, t', fz, hbk, by simp only; omega, Nat.le_refl _, ?_, by simpa using (Array.getElem?_eq_some_iff.1 hbk).1⟩
  have : (arr.toList.drop a.off).take cs.length = cs := by
    apply List.ext_getElem?
    intro j
    rw [List.getElem?_take, List.getElem?_drop]
    by_cases hj : j < cs.length
    · rw [if_pos hj]
      have := hcell j _ (List.getElem?_eq_getElem hj)
      simp only [World.cell?, hbk] at this
      rw [List.getElem?_eq_getElem hj, Array.getElem?_toList]
      simpa using this
    · rw [if_neg hj, List.getElem?_eq_none (by omega)]
  simp only [this]
  exact rels_ground hg

/-- A variable's own cells. -/
theorem adopt_glob (s : Sim (B0 W) W m h W) (hn : NoOwn h) {g : Nat} {cs : Array Value} {t : TypeId} {fz : Nat × Nat} (hw : W.heap[g]? = some (.cells cs t fz)) {c : List Value} (hr : VRels m c cs.toList) :
    Sim (B0 W) W (m.put h.length ⟨g, 0, 0⟩) (h ++ [.glob g c]) W ∧ NoOwn (h ++ [.glob g c]) := by
  have hl : c.length = cs.size := by rw [hr.1]; simp
  refine s.adoptRo hn _ rfl ⟨rfl, rfl, (Array.getElem?_eq_some_iff.1 hw).1, cs, t, fz, hw, by omega, ?_⟩
  rw [hl, List.take_of_length_le (by simp)]
  exact hr.mono (Pl.put_le (s.fresh (Nat.le_refl _)))

/-- Slices of strings, each to an object of its own. -/
def strsO (l : List (List UInt8)) : AObj := .cells (l.map fun b => .string ⟨⟨b⟩⟩) false
def strsS : Nat → List (List (List UInt8)) → List Value
  | _, [] => []
  | k, l :: ls => .slice (some ⟨k, 0, none⟩) l.length 1 :: strsS (k + 1) ls

theorem strs_ground (l : List (List UInt8)) : (l.map fun b => (Value.string ⟨⟨b⟩⟩)).all ground = true := by
  rw [List.all_eq_true]
  intro x hx
  obtain ⟨b, _, rfl⟩ := List.mem_map.1 hx
  rfl

theorem adopt_strs {e es : TypeId} (hu : P.underlying e = some (.slice es)) (hs : P.underlying es = some .string) (hc : P.cellsOf es = 1) :
    ∀ (ls : List (List (List UInt8))) (vs : List Value), ls.length = vs.length → (∀ l ∈ ls, l ≠ []) →
    (∀ (i : Nat) l v, ls[i]? = some l → vs[i]? = some v → ∃ fuel q, DataW.trod (fun _ => ()) P W 0 (fun _ => true) false fuel e [v] = some (.slice (l.map fun b => .lit (.string b)) [], q)) →
    ∀ (m : Pl) (h : Hp), Sim (B0 W) W m h W → NoOwn h → ∃ m', m.le m' ∧ Sim (B0 W) W m' (h ++ ls.map strsO) W ∧ NoOwn (h ++ ls.map strsO) ∧ VRels m' (strsS h.length ls) vs
  | [], vs, hlen, _, _, m, h, s, hn => by
    have : vs = [] := List.length_eq_zero_iff.1 hlen.symm
    subst this
    exact ⟨m, m.le_refl, by simpa using s, by simpa using hn, .nil _⟩
  | l :: ls, [], hlen, _, _, m, h, s, hn => by simp at hlen
  | l :: ls, v :: vs, hlen, hne, htr, m, h, s, hn => by
    obtain ⟨fuel, q, ht⟩ := htr 0 l v rfl rfl
    have hl0 := hne l (by simp)
    rcases Go.Deep.open_slice1 hu hc ht with ⟨_, hx⟩ | ⟨a, len, cap, mm, n, V, D, Pq, hv, _, hlc, _, hmm, hx, hel⟩
    · cases hx
    · have hmm' : mm = cap := by simpa using hmm
      simp only [Prod.mk.injEq, DataW.slice.injEq] at hx
      obtain ⟨⟨hx1, hx2⟩, _⟩ := hx
      have hcl : cap = len := by
        have := congrArg List.length hx2
        simp at this
        omega
      have hll : l.length = len := by
        have := congrArg List.length hx1
        simpa using this
      have hcell : ∀ (j : Nat) x, (l.map fun b => (Value.string ⟨⟨b⟩⟩))[j]? = some x → W.cell? (a.add j) = some x := by
        intro j x hj
        obtain ⟨b, hb, rfl⟩ := Option.map_eq_some_iff.1 (by simpa using hj : (l[j]?).map (fun b => (Value.string ⟨⟨b⟩⟩)) = some x)
        have hjl : j < len := by rw [← hll]; exact (List.getElem?_eq_some_iff.1 hb).1
        obtain ⟨k1, k2⟩ := hel j (by omega)
        obtain ⟨str, e1, e2, _⟩ := DataW.trod_string hs k2
        have hd : (l.map fun b => (DataW.lit (.string b) : DataW Unit))[j]? = some (D j) := by
          rw [hx1]
          simp [hjl]
        simp only [List.getElem?_map, hb, Option.map_some, Option.some.injEq] at hd
        have e3 : D j = .lit (.string str.data.toList) := (Prod.mk.inj e2).1
        rw [e3] at hd
        simp only [DataW.lit.injEq, Lit.string.injEq] at hd
        have e4 : V j = .string str := by simpa using e1
        rw [k1, e4, hd]
      obtain ⟨ha, s1, n1⟩ := adopt_row s hn (strs_ground l) (by simpa using hl0) hcell
      have hm0 : m h.length = none := s.fresh (Nat.le_refl _)
      obtain ⟨m2, l2, s2, n2, r2⟩ := adopt_strs hu hs hc ls vs (by simpa using hlen) (fun x hx => hne x (by simp [hx])) (fun i x y h1 h2 => htr (i + 1) x y (by simpa using h1) (by simpa using h2)) _ _ s1 n1
      rw [List.append_assoc] at s2 n2
      refine ⟨m2, Pl.le_trans (Pl.put_le hm0) l2, s2, n2, ?_⟩
      have hvv : v = .slice (some a) len cap := by simpa using hv
      have r0 : VRel m2 (.slice (some ⟨h.length, 0, none⟩) l.length 1) v := by
        rw [hvv, ha, hll]
        have hp := l2 _ _ (Pl.put_same m h.length ⟨a.block, a.off, (l.map fun b => (Value.string ⟨⟨b⟩⟩)).length⟩)
        have := VRel.slice (m := m2) h.length 0 len 1 cap _ hp (by simp; omega) hlc (by omega)
        simpa using this
      have e5 : strsS h.length (l :: ls) = .slice (some ⟨h.length, 0, none⟩) l.length 1 :: strsS (h.length + 1) ls := rfl
      rw [e5]
      refine .cons r0 ?_
      simpa [strsO] using r2

/-- A law without arguments, over laid variables: of what it comes to, the row's post. -/
theorem law_contract0 {f : FuncId} {fn : Func} {s : ChangeSpec} {tb : TypeId} (hb : P.underlying tb = some .bool)
    (hres : fn.resultTypes = #[tb]) (hvars : s.vars = []) (hts : fn.params.toList = []) (hspec : s.fn H [] = { results := [.lit (.bool true)], args := [] })
    {h h' : Hp} (run : Calls P f #[] W (Back (B0 W) W m h (.bool true) h'))
    (args : Array Value) (ds gs : List (DataW H)) (before : List MemPlace) (hW : DataW.Whole enc P fn.params.toList s.vars false W args.toList ds gs before) :
    Calls P f args W fun e W' => ∃ v, e = .returned v ∧ s.post enc P fn false true false false W args v W' := by
  have hW' := hW
  obtain ⟨p, q, hA, hV, rfl, hfz, hnd⟩ := hW
  rw [hvars] at hV
  obtain ⟨rfl, rfl⟩ := trodVars_none hV
  rw [hts] at hA
  obtain ⟨ha, rfl, rfl⟩ := trodAll_nil hA
  have hargs : args = #[] := by
    apply Array.ext'
    simpa using ha
  subst hargs
  refine run.mono fun e W' ⟨m', u, _, hs', hu, he⟩ => ?_
  cases hu
  subst he
  have hbel : Below W.heap.size W W' := hs'.below
  refine ⟨_, rfl, [], [], _, [], [], [], hW', ?_, ?_, ?_, ?_, fun h => by cases h⟩
  · rw [hres, List.append_nil, hspec]
    exact trodAll_cons_mk (shut_bool hb true) trodAll_mk0
  · rw [hts, List.append_nil, hspec]
    exact rfl
  · rw [hvars, List.append_nil, hspec]
    exact rfl
  · exact hbel.frame _

end Go.Ev
