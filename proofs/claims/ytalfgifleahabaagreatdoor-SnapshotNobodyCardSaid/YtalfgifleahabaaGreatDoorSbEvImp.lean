import Derived.Test.YtalfgifleahabaaGreatDoorSbEvCallSnd
import Derived.ProofKit
import Derived.Deep.Slices
namespace Go.Ev
open Go.RowKit

variable {P : Program} {H : Type} {enc : TypeId × Value → H} {W : World}

/-- A value of a type: bools, ints, strings, and slices and structs of these. -/
def ATyped (P : Program) (h : Hp) : Nat → TypeId → List Value → Prop
  | 0, _, _ => False
  | fuel + 1, t, as => match P.underlying t with
    | some .bool => ∃ b, as = [.bool b]
    | some (.int k) => ∃ n, as = [.int k n] ∧ (Lit.int k n).wf = true
    | some .string => ∃ s : ByteArray, as = [.string s] ∧ s.size ≤ maxLen
    | some (.slice e) => as = [.slice none 0 0] ∨ ∃ i len c, as = [.slice (some ⟨i, 0, none⟩) len (P.cellsOf e)] ∧ h[i]? = some (.cells c false) ∧ c.length = len * P.cellsOf e ∧ len ≤ maxLen ∧
        (∀ k, k < len → ATyped P h fuel e ((c.drop (k * P.cellsOf e)).take (P.cellsOf e)))
    | some (.struct fs) => as.length = P.cellsOf t ∧ ∀ f ∈ fs.toList, ATyped P h fuel f.type ((as.drop f.offset).take (P.cellsOf f.type))
    | _ => False

theorem ATyped.ext {h : Hp} (os : Hp) : ∀ {fuel : Nat} {t : TypeId} {as : List Value}, ATyped P h fuel t as → ATyped P (h ++ os) fuel t as
  | 0, _, _, h => h.elim
  | fuel + 1, t, as, hh => by
    unfold ATyped at hh ⊢
    split <;> rename_i hu <;> simp only [hu] at hh
    · exact hh
    · exact hh
    · exact hh
    · rcases hh with h1 | ⟨i, len, c, h1, h2, h3, h4, h5⟩
      · exact .inl h1
      · exact .inr ⟨i, len, c, h1, by rw [List.getElem?_append_left (List.getElem?_eq_some_iff.1 h2).1]; exact h2, h3, h4, fun k hk => (h5 k hk).ext os⟩
    · exact ⟨hh.1, fun f hf => (hh.2 f hf).ext os⟩

/-- The types that are taken in: every slice's element takes a cell at least. -/
def impOk (P : Program) : Nat → TypeId → Bool
  | 0, _ => false
  | fuel + 1, t => match P.underlying t with
    | some .bool | some (.int _) | some .string => true
    | some (.slice e) => Nat.ble 1 (P.cellsOf e) && impOk P fuel e
    | some (.struct fs) => fs.toList.all fun f => impOk P fuel f.type
    | _ => false

theorem mapM_get {α β : Type} {f : α → Option β} : ∀ {l : List α} {ys : List β}, l.mapM f = some ys → ys.length = l.length ∧ ∀ (j : Nat) x, l[j]? = some x → ∃ y, ys[j]? = some y ∧ f x = some y
  | [], ys, h => by simp at h; subst h; simp
  | a :: l, ys, h => by
    rw [List.mapM_cons] at h
    cases hf : f a with
    | none => simp [hf] at h
    | some b =>
      cases hl : l.mapM f with
      | none => simp [hf, hl] at h
      | some zs =>
        simp [hf, hl] at h
        subst h
        obtain ⟨h1, h2⟩ := mapM_get hl
        refine ⟨by simp [h1], fun j x hx => ?_⟩
        cases j with
        | zero => simp at hx; subst hx; exact ⟨b, rfl, hf⟩
        | succ j => simpa using h2 j x (by simpa using hx)

/-- Nothing yet may be written. -/
def NoOwn (h : Hp) : Prop := ∀ (i : Nat) (o : AObj), h[i]? = some o → o.owns = false

abbrev B0 (W : World) : Bs := ⟨W.heap.size, []⟩

theorem sim_nil (W : World) : Sim (B0 W) W (fun _ => none) [] W :=
  ⟨Below.refl _ _, Nat.le_refl _, fun b hb => (by cases hb), List.nodup_nil, fun i p hi => (by cases hi), fun i j p q o o' hi => (by cases hi), fun i g c hi => (by simp at hi)⟩

theorem NoOwn.snoc {h : Hp} (hn : NoOwn h) {o : AObj} (ho : o.owns = false) : NoOwn (h ++ [o]) := by
  intro i x hx
  rcases Nat.lt_trichotomy i h.length with hi | hi | hi
  · rw [List.getElem?_append_left hi] at hx; exact hn i x hx
  · subst hi; simp at hx; subst hx; exact ho
  · rw [List.getElem?_eq_none (by simp; omega)] at hx; cases hx

theorem cells?_spec {a : Addr} {n : Nat} {cs : List Value} (h : W.cells? 0 a n = some cs) : cs.length = n ∧ ∀ (i : Nat) v, cs[i]? = some v → W.cell? (a.add i) = some v := by
  unfold World.cells? at h
  rw [if_pos (Nat.zero_le _)] at h
  obtain ⟨h1, h2⟩ := mapM_get h
  refine ⟨by simpa using h1, fun i v hv => ?_⟩
  have hi : i < n := by have := (List.getElem?_eq_some_iff.1 hv).1; simp at h1; omega
  obtain ⟨y, hy, hf⟩ := h2 i i (by simp [hi])
  rw [hv] at hy; cases hy
  exact hf

/-- What is taken in. -/
def Imp (P : Program) (W : World) (fuel : Nat) (t : TypeId) (cs : List Value) : Prop :=
  ∀ (m : Pl) (h : Hp), Sim (B0 W) W m h W → NoOwn h → ∃ m' os as, m.le m' ∧ Sim (B0 W) W m' (h ++ os) W ∧ NoOwn (h ++ os) ∧ VRels m' as cs ∧ ATyped P (h ++ os) fuel t as

/-- Several, one behind the other. -/
theorem imp_many {fuel : Nat} {e : TypeId} {sz : Nat} : ∀ (n : Nat) (cs : Nat → List Value), (∀ k, k < n → (cs k).length = sz ∧ Imp P W fuel e (cs k)) →
    ∀ (m : Pl) (h : Hp), Sim (B0 W) W m h W → NoOwn h → ∃ m' os as, m.le m' ∧ Sim (B0 W) W m' (h ++ os) W ∧ NoOwn (h ++ os) ∧ VRels m' as ((List.range n).flatMap cs) ∧ as.length = n * sz ∧
      ∀ k, k < n → ATyped P (h ++ os) fuel e ((as.drop (k * sz)).take sz)
  | 0, cs, _, m, h, s, hn => ⟨m, [], [], m.le_refl, by simpa using s, by simpa using hn, by simpa using VRels.nil m, by simp, fun k hk => by omega⟩
  | n + 1, cs, hc, m, h, s, hn => by
    obtain ⟨m1, os1, as1, l1, s1, n1, r1, len1, t1⟩ := imp_many n cs (fun k hk => hc k (by omega)) m h s hn
    obtain ⟨hlen, himp⟩ := hc n (by omega)
    obtain ⟨m2, os2, as2, l2, s2, n2, r2, t2⟩ := himp m1 _ s1 n1
    rw [List.append_assoc] at s2 n2 t2
    have hl2 : as2.length = sz := by rw [r2.1, hlen]
    refine ⟨m2, os1 ++ os2, as1 ++ as2, Pl.le_trans l1 l2, s2, n2, ?_, by simp [len1, hl2, Nat.add_mul], fun k hk => ?_⟩
    · rw [List.range_succ, List.flatMap_append]
      simpa using (r1.mono l2).append r2
    · rcases Nat.lt_or_ge k n with hkn | hkn
      · have hb : k * sz + sz ≤ as1.length := by rw [len1, ← Nat.succ_mul]; exact Nat.mul_le_mul_right _ hkn
        rw [List.drop_append_of_le_length (by omega), List.take_append_of_le_length (by simp; omega)]
        have := (t1 k hkn).ext os2
        rwa [List.append_assoc] at this
      · have hk' : k = n := by omega
        subst hk'
        rw [← len1, List.drop_left, List.take_of_length_le (by omega)]
        exact t2

/-- The fields of a struct. -/
theorem imp_fields {fuel : Nat} {cs : List Value} : ∀ (fs : List Field) (off : Nat), (∀ f ∈ fs, Imp P W fuel f.type ((cs.drop f.offset).take (P.cellsOf f.type))) →
    (∀ (pre : List Field) (f : Field) (post : List Field), fs = pre ++ f :: post → f.offset = off + (pre.map fun g => P.cellsOf g.type).sum) → off + (fs.map fun g => P.cellsOf g.type).sum ≤ cs.length →
    ∀ (m : Pl) (h : Hp), Sim (B0 W) W m h W → NoOwn h → ∃ m' os as, m.le m' ∧ Sim (B0 W) W m' (h ++ os) W ∧ NoOwn (h ++ os) ∧ VRels m' as ((cs.drop off).take (fs.map fun g => P.cellsOf g.type).sum) ∧
      ∀ f ∈ fs, ATyped P (h ++ os) fuel f.type ((as.drop (f.offset - off)).take (P.cellsOf f.type))
  | [], off, _, _, _, m, h, s, hn => ⟨m, [], [], m.le_refl, by simpa using s, by simpa using hn, by simpa using VRels.nil m, fun f hf => by cases hf⟩
  | f :: fs, off, hi, ho, hl, m, h, s, hn => by
    have hof : f.offset = off := by have := ho [] f fs rfl; simpa using this
    simp only [List.map_cons, List.sum_cons] at hl ⊢
    obtain ⟨m1, os1, as1, l1, s1, n1, r1, t1⟩ := hi f (by simp) m h s hn
    rw [hof] at r1
    have hl1 : as1.length = P.cellsOf f.type := by rw [r1.1]; simp; omega
    obtain ⟨m2, os2, as2, l2, s2, n2, r2, t2⟩ := imp_fields fs (off + P.cellsOf f.type) (fun g hg => hi g (by simp [hg])) (fun pre g post he => by
      have := ho (f :: pre) g post (by simp [he])
      simp only [List.map_cons, List.sum_cons] at this
      omega) (by omega) m1 _ s1 n1
    rw [List.append_assoc] at s2 n2 t2
    refine ⟨m2, os1 ++ os2, as1 ++ as2, Pl.le_trans l1 l2, s2, n2, ?_, fun g hg => ?_⟩
    · have : (cs.drop off).take (P.cellsOf f.type + (fs.map fun g => P.cellsOf g.type).sum) = (cs.drop off).take (P.cellsOf f.type) ++ (cs.drop (off + P.cellsOf f.type)).take (fs.map fun g => P.cellsOf g.type).sum := by
        rw [List.take_add, List.drop_drop]
      rw [this]
      exact (r1.mono l2).append r2
    · rcases List.mem_cons.1 hg with rfl | hg
      · rw [hof, Nat.sub_self, List.drop_zero, List.take_append_of_le_length (by omega), List.take_of_length_le (by omega)]
        have := t1.ext os2
        rwa [List.append_assoc] at this
      · obtain ⟨pre, post, rfl⟩ := List.append_of_mem hg
        have hgo := ho (f :: pre) g post rfl
        simp only [List.map_cons, List.sum_cons] at hgo
        have := t2 g hg
        rw [List.drop_append]
        rw [List.drop_eq_nil_of_le (by omega), List.nil_append, show g.offset - off - as1.length = g.offset - (off + P.cellsOf f.type) by omega]
        exact this

/-- The fields lie one behind the other. -/
def tightF (P : Program) : Nat → List Field → Bool
  | _, [] => true
  | off, f :: l => Nat.beq f.offset off && tightF P (off + P.cellsOf f.type) l

theorem tightF_spec : ∀ (fs : List Field) (off : Nat), tightF P off fs = true → ∀ (pre : List Field) (f : Field) (post : List Field), fs = pre ++ f :: post → f.offset = off + (pre.map fun g => P.cellsOf g.type).sum
  | [], _, _, pre, f, post, he => by simp at he
  | g :: fs, off, ht, pre, f, post, he => by
    simp only [tightF, Bool.and_eq_true] at ht
    cases pre with
    | nil => simp at he; obtain ⟨rfl, rfl⟩ := he; simpa using Nat.eq_of_beq_eq_true ht.1
    | cons x pre =>
      simp at he
      obtain ⟨rfl, rfl⟩ := he
      have := tightF_spec _ _ ht.2 pre f post rfl
      simp only [List.map_cons, List.sum_cons]
      omega

/-- Every struct that is met lies tight, and takes just its fields' cells. -/
def tightOk (P : Program) : Nat → TypeId → Bool
  | 0, _ => false
  | fuel + 1, t => match P.underlying t with
    | some .bool | some (.int _) | some .string => true
    | some (.slice e) => Nat.ble 1 (P.cellsOf e) && tightOk P fuel e
    | some (.struct fs) => tightF P 0 fs.toList && Nat.beq (fs.toList.map fun g => P.cellsOf g.type).sum (P.cellsOf t) && fs.toList.all fun f => tightOk P fuel f.type
    | _ => false

theorem cell_lt {w : World} {p : Addr} {v : Value} (h : w.cell? p = some v) : ∃ arr t fz, w.heap[p.block]? = some (.cells arr t fz) ∧ p.off < arr.size := by
  unfold World.cell? at h
  split at h
  · rename_i c e f hb
    split at h
    · cases h
    · exact ⟨c, e, f, hb, (Array.getElem?_eq_some_iff.1 h).1⟩
  · cases h

/-- An object that only reads, laid over what came in. -/
theorem Sim.adoptRo {m : Pl} {h : Hp} (s : Sim (B0 W) W m h W) (hn : NoOwn h) {o : AObj} (p : Place) (ho : o.owns = false) (hr : Real (B0 W).n (m.put h.length p) W p o) : Sim (B0 W) W (m.put h.length p) (h ++ [o]) W ∧ NoOwn (h ++ [o]) :=
  ⟨s.adopt hr fun j q o' _ ho' hw => (by rw [hn j o' ho'] at hw; cases hw), hn.snoc ho⟩

theorem flat_get {cs : Nat → List Value} {sz : Nat} : ∀ (n : Nat), (∀ k, k < n → (cs k).length = sz) → ((List.range n).flatMap cs).length = n * sz ∧ ∀ (j : Nat) v, ((List.range n).flatMap cs)[j]? = some v → ∃ k i, k < n ∧ i < sz ∧ j = k * sz + i ∧ (cs k)[i]? = some v
  | 0, _ => by simp
  | n + 1, hc => by
    obtain ⟨h1, h2⟩ := flat_get n (fun k hk => hc k (by omega))
    rw [List.range_succ, List.flatMap_append]
    have hl := hc n (by omega)
    refine ⟨by simp [h1, hl, Nat.add_mul], fun j v hj => ?_⟩
    rcases Nat.lt_or_ge j (n * sz) with hlt | hge
    · rw [List.getElem?_append_left (by rw [h1]; exact hlt)] at hj
      obtain ⟨k, i, k1, k2, k3, k4⟩ := h2 j v hj
      exact ⟨k, i, by omega, k2, k3, k4⟩
    · rw [List.getElem?_append_right (by rw [h1]; exact hge), h1] at hj
      simp only [List.flatMap_cons, List.flatMap_nil, List.append_nil] at hj
      have : j - n * sz < sz := by have := (List.getElem?_eq_some_iff.1 hj).1; omega
      exact ⟨n, j - n * sz, by omega, this, by omega, hj⟩

theorem imp_trod : ∀ (fuel : Nat) {F : Nat} {t : TypeId} {cs : List Value} {x : DataW H × List MemPlace}, tightOk P fuel t = true →
    DataW.trod enc P W 0 (fun _ => true) true F t cs = some x → Imp P W fuel t cs
  | 0, F, t, cs, x, hk, _ => by simp [tightOk] at hk
  | fuel + 1, F, t, cs, x, hk, ht => by
    intro m h s hn
    have one : ∀ (x : Value), ground x = true → cs = [x] → (∀ h : Hp, ATyped P h (fuel + 1) t [x]) → ∃ m' os as, m.le m' ∧ Sim (B0 W) W m' (h ++ os) W ∧ NoOwn (h ++ os) ∧ VRels m' as cs ∧ ATyped P (h ++ os) (fuel + 1) t as := by
      intro x hx hc hty
      subst hc
      exact ⟨m, [], [x], m.le_refl, by simpa using s, by simpa using hn, .cons (VRel.refl m x hx) (.nil m), hty _⟩
    unfold tightOk at hk
    cases hu : P.underlying t with
    | none => simp [hu] at hk
    | some ty =>
      simp only [hu] at hk
      cases ty with
      | bool =>
        obtain ⟨b, rfl, _⟩ := DataW.trod_bool hu ht
        exact one (.bool b) rfl rfl (fun h => by simp only [ATyped, hu]; exact ⟨b, rfl⟩)
      | int k =>
        obtain ⟨n, rfl, _, hwf⟩ := DataW.trod_int hu ht
        exact one (.int k n) rfl rfl (fun h => by simp only [ATyped, hu]; exact ⟨n, rfl, hwf⟩)
      | string =>
        obtain ⟨str, rfl, _, hsz⟩ := DataW.trod_string hu ht
        exact one (.string str) rfl rfl (fun h => by simp only [ATyped, hu]; exact ⟨str, rfl, hsz⟩)
      | slice e =>
        simp only [Bool.and_eq_true] at hk
        have hpos : 1 ≤ P.cellsOf e := Nat.le_of_ble_eq_true hk.1
        rcases Go.Deep.open_slice hu ht with ⟨rfl, _⟩ | ⟨a, len, cap, mm, F', D, Ps, rfl, _, hlc, hcm, hmm, _, hel⟩
        · exact one (.slice none 0 0) rfl rfl (fun h => by simp [ATyped, hu])
        · have hmm' : mm = cap := by simpa using hmm
          clear hmm
          rw [hmm'] at hel
          clear hmm'
          obtain ⟨cs, hcs⟩ : ∃ cs : Nat → List Value, ∀ i, i < cap → W.cells? 0 (a.add (i * P.cellsOf e)) (P.cellsOf e) = some (cs i) ∧ DataW.trod enc P W 0 (fun _ => true) true F' e (cs i) = some (D i, Ps i) := by
            refine ⟨fun i => ((W.cells? 0 (a.add (i * P.cellsOf e)) (P.cellsOf e)).getD []), fun i hi => ?_⟩
            obtain ⟨c, h1, h2⟩ := hel i hi
            simp only [h1, Option.getD_some]; exact ⟨trivial, h2⟩
          by_cases hcap : cap = 0
          · -- nothing there
            have hlen0 : len = 0 := by omega
            subst hcap; subst hlen0
            refine ⟨m, [.cells [] false], [.slice (some ⟨h.length, 0, none⟩) 0 (P.cellsOf e)], m.le_refl, s.ext _ (by simp [AObj.ng]), hn.snoc rfl, .cons (.sliceEnd _ _ _ a (by omega)) (.nil _), ?_⟩
            simp only [ATyped, hu]
            exact .inr ⟨h.length, 0, [], rfl, by simp, by simp, by simp, fun k hk => by omega⟩
          · have h0 := hcs 0 (by omega)
            obtain ⟨c0len, c0⟩ := cells?_spec h0.1
            have hlenAll : ∀ k, k < cap → (cs k).length = P.cellsOf e := fun k hk => (cells?_spec (hcs k hk).1).1
            obtain ⟨f1, f2⟩ := flat_get (cs := cs) (sz := P.cellsOf e) cap hlenAll
            have hspot : a.spot = none := by
              have hc00 := c0 0 _ (List.getElem?_eq_getElem (by omega))
              simp only [Nat.zero_mul, Addr.add, if_true] at hc00
              unfold World.cell? at hc00
              split at hc00
              · split at hc00
                · cases hc00
                · rename_i hsp; cases hs : a.spot with
                  | none => rfl
                  | some q => rw [hs] at hsp; simp at hsp
              · cases hc00
            have ha : a = ⟨a.block, a.off, none⟩ := by cases a; simp at hspot; subst hspot; rfl
            have hcell : ∀ (j : Nat) v, ((List.range cap).flatMap cs)[j]? = some v → W.cell? ⟨a.block, a.off + j, none⟩ = some v := by
              intro j v hj
              obtain ⟨k, i, k1, k2, k3, k4⟩ := f2 j v hj
              have := (cells?_spec (hcs k k1).1).2 i v k4
              rw [ha, add_addr, add_addr] at this
              rw [k3, ← Nat.add_assoc]; exact this
            -- the block
            have hlast := hcell (cap * P.cellsOf e - 1) _ (List.getElem?_eq_getElem (by rw [f1]; have := Nat.mul_pos (by omega : 0 < cap) (by omega : 0 < P.cellsOf e); omega))
            obtain ⟨arr, t', fz, hbk, hoff⟩ := cell_lt hlast
            simp only at hbk hoff
            have hmulpos : 0 < cap * P.cellsOf e := Nat.mul_pos (by omega) (by omega)
            have hb : a.block < W.heap.size := (Array.getElem?_eq_some_iff.1 hbk).1
            obtain ⟨m1, os1, as1, l1, s1, n1, r1, len1, t1⟩ := imp_many len cs (fun k hk' => ⟨hlenAll k (by omega), imp_trod fuel hk.2 (hcs k (by omega)).2⟩) m h s hn
            have hll : len * P.cellsOf e ≤ cap * P.cellsOf e := Nat.mul_le_mul_right _ hlc
            obtain ⟨s2, n2⟩ := s1.adoptRo n1 (o := .cells as1 false) ⟨a.block, a.off, cap * P.cellsOf e⟩ rfl (by
              refine ⟨arr, t', fz, hbk, by simp only; omega, by rw [len1]; exact hll, ?_, by simpa using hb⟩
              have hle := Pl.put_le (p := (⟨a.block, a.off, cap * P.cellsOf e⟩ : Place)) (s1.fresh (Nat.le_refl _))
              have : (arr.toList.drop a.off).take as1.length = (List.range len).flatMap cs := by
                apply List.ext_getElem?
                intro j
                obtain ⟨g1, g2⟩ := flat_get (cs := cs) (sz := P.cellsOf e) len (fun k hk => hlenAll k (by omega))
                rw [List.getElem?_take, List.getElem?_drop]
                rcases Nat.lt_or_ge j (len * P.cellsOf e) with hj | hj
                · rw [if_pos (by rw [len1]; exact hj)]
                  obtain ⟨v, hv⟩ : ∃ v, ((List.range len).flatMap cs)[j]? = some v := ⟨_, List.getElem?_eq_getElem (by omega)⟩
                  obtain ⟨k, i, k1, k2, k3, k4⟩ := g2 j v hv
                  have := (cells?_spec (hcs k (by omega)).1).2 i v k4
                  rw [ha, add_addr, add_addr] at this
                  simp only [World.cell?, hbk] at this
                  rw [hv, k3, Array.getElem?_toList, ← Nat.add_assoc]
                  simpa using this
                · rw [if_neg (by rw [len1]; omega), List.getElem?_eq_none (by rw [g1]; exact hj)]
              rw [this]
              exact r1.mono hle)
            refine ⟨_, os1 ++ [.cells as1 false], [.slice (some ⟨(h ++ os1).length, 0, none⟩) len (P.cellsOf e)], Pl.le_trans l1 (Pl.put_le (s1.fresh (Nat.le_refl _))), by rw [← List.append_assoc]; exact s2, by rw [← List.append_assoc]; exact n2, .cons ?_ (.nil _), ?_⟩
            · have := VRel.slice (m := m1.put (h ++ os1).length ⟨a.block, a.off, cap * P.cellsOf e⟩) (h ++ os1).length 0 len (P.cellsOf e) cap _ (Pl.put_same _ _ _) (by simp) hlc (by omega)
              rw [ha]
              simpa using this
            · simp only [ATyped, hu]
              refine .inr ⟨_, len, as1, rfl, by rw [← List.append_assoc]; simp, len1, by omega, fun k hk' => ?_⟩
              have := (t1 k hk').ext [.cells as1 false]
              rwa [List.append_assoc] at this
      | struct fs =>
        simp only [Bool.and_eq_true] at hk
        obtain ⟨xs, F', _, _, hl, hlen, hf⟩ := DataW.trod_struct hu ht
        have hsum : (fs.toList.map fun g => P.cellsOf g.type).sum = P.cellsOf t := Nat.eq_of_beq_eq_true hk.1.2
        obtain ⟨m1, os1, as1, l1, s1, n1, r1, t1⟩ := imp_fields (cs := cs) fs.toList 0 (fun f hfm => by
          obtain ⟨j, hj⟩ := List.mem_iff_getElem?.1 hfm
          have := hf j f (by simpa using hj)
          cases hxj : xs[j]? with
          | none =>
            have h1 := (List.getElem?_eq_some_iff.1 hj).1
            have h2 := List.getElem?_eq_none_iff.1 hxj
            simp at h1; omega
          | some y =>
            rw [hxj] at this
            exact imp_trod fuel (List.all_eq_true.1 hk.2 f hfm) this) (tightF_spec _ _ hk.1.1) (by omega) m h s hn
        refine ⟨m1, os1, as1, l1, s1, n1, ?_, ?_⟩
        · rw [List.drop_zero, hsum, List.take_of_length_le (by omega)] at r1
          exact r1
        · simp only [ATyped, hu]
          refine ⟨by rw [r1.1]; simp; omega, fun f hfm => ?_⟩
          have := t1 f hfm
          simpa using this
      | _ => simp at hk

end Go.Ev
