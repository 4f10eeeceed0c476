import Derived.Test.YtalfgifleahabaaGreatDoorSbEvImp
import Derived.Carry
import Derived.WalkKit
import Derived.KernelRfl
import Derived.OpenShut
import Derived.ChangeCalls
namespace Go.Ev
open Go.RowKit Go.ChangeShapes Go.WideShapes

variable {P : Program} {H : Type} {enc : TypeId × Value → H} {W : World}

/-- One argument of a type. -/
def ArgTyped (P : Program) (h : Hp) (F : Nat) (t : TypeId) (a : Value) : Prop :=
  match P.underlying t with
  | some (.struct _) => ∃ cs, a = .agg cs ∧ ATyped P h F t cs.toList
  | _ => ATyped P h F t [a]

theorem ArgTyped.ext {h : Hp} (os : Hp) {F : Nat} {t : TypeId} {a : Value} (hh : ArgTyped P h F t a) : ArgTyped P (h ++ os) F t a := by
  unfold ArgTyped at hh ⊢
  split
  · rename_i fs hu
    simp only [hu] at hh
    obtain ⟨cs, h1, h2⟩ := hh
    exact ⟨cs, h1, h2.ext os⟩
  · rename_i hu
    split at hh
    · rename_i fs hu'; exact absurd hu' (hu fs)
    · exact hh.ext os

def ArgsTyped (P : Program) (h : Hp) (F : Nat) : List TypeId → List Value → Prop
  | [], [] => True
  | t :: ts, a :: as => ArgTyped P h F t a ∧ ArgsTyped P h F ts as
  | _, _ => False

theorem ArgsTyped.ext {h : Hp} (os : Hp) {F : Nat} : ∀ {ts : List TypeId} {as : List Value}, ArgsTyped P h F ts as → ArgsTyped P (h ++ os) F ts as
  | [], [], _ => trivial
  | _ :: _, _ :: _, h => ⟨h.1.ext os, h.2.ext os⟩

section opens
variable {h : Hp} {F : Nat} {t : TypeId} {as : List Value}
theorem ATyped.pos (ht : ATyped P h F t as) : ∃ G, F = G + 1 := by
  cases F with
  | zero => exact ht.elim
  | succ G => exact ⟨G, rfl⟩
theorem ATyped.asInt {k : IntKind} (hu : P.underlying t = some (.int k)) (ht : ATyped P h F t as) : ∃ n, as = [.int k n] ∧ (Lit.int k n).wf = true := by
  obtain ⟨G, rfl⟩ := ht.pos
  simpa only [ATyped, hu] using ht
theorem ATyped.asBool (hu : P.underlying t = some .bool) (ht : ATyped P h F t as) : ∃ b, as = [.bool b] := by
  obtain ⟨G, rfl⟩ := ht.pos
  simpa only [ATyped, hu] using ht
theorem ATyped.asString (hu : P.underlying t = some .string) (ht : ATyped P h F t as) : ∃ s : ByteArray, as = [.string s] ∧ s.size ≤ maxLen := by
  obtain ⟨G, rfl⟩ := ht.pos
  simpa only [ATyped, hu] using ht
theorem ATyped.asSlice {e : TypeId} (hu : P.underlying t = some (.slice e)) (ht : ATyped P h F t as) : ∃ G, F = G + 1 ∧ (as = [.slice none 0 0] ∨ ∃ i len c, as = [.slice (some ⟨i, 0, none⟩) len (P.cellsOf e)] ∧ h[i]? = some (.cells c false) ∧ c.length = len * P.cellsOf e ∧ len ≤ maxLen ∧
        (∀ k, k < len → ATyped P h G e ((c.drop (k * P.cellsOf e)).take (P.cellsOf e)))) := by
  obtain ⟨G, rfl⟩ := ht.pos
  exact ⟨G, rfl, by simpa only [ATyped, hu] using ht⟩
theorem ATyped.asStruct {fs : Array Field} (hu : P.underlying t = some (.struct fs)) (ht : ATyped P h F t as) : ∃ G, F = G + 1 ∧ as.length = P.cellsOf t ∧ ∀ f ∈ fs.toList, ATyped P h G f.type ((as.drop f.offset).take (P.cellsOf f.type)) := by
  obtain ⟨G, rfl⟩ := ht.pos
  exact ⟨G, rfl, by simpa only [ATyped, hu] using ht⟩
theorem ArgTyped.asStruct {fs : Array Field} {a : Value} (hu : P.underlying t = some (.struct fs)) (ht : ArgTyped P h F t a) : ∃ cs, a = .agg cs ∧ ATyped P h F t cs.toList := by
  simpa only [ArgTyped, hu] using ht
theorem ArgTyped.asInt {k : IntKind} {a : Value} (hu : P.underlying t = some (.int k)) (ht : ArgTyped P h F t a) : ∃ n, a = .int k n ∧ (Lit.int k n).wf = true := by
  simp only [ArgTyped, hu] at ht
  obtain ⟨n, h1, h2⟩ := ht.asInt hu
  exact ⟨n, by simpa using h1, h2⟩
theorem ArgTyped.asBool {a : Value} (hu : P.underlying t = some .bool) (ht : ArgTyped P h F t a) : ∃ b, a = .bool b := by
  simp only [ArgTyped, hu] at ht
  obtain ⟨n, h1⟩ := ht.asBool hu
  exact ⟨n, by simpa using h1⟩
theorem ArgTyped.asString {a : Value} (hu : P.underlying t = some .string) (ht : ArgTyped P h F t a) : ∃ s : ByteArray, a = .string s ∧ s.size ≤ maxLen := by
  simp only [ArgTyped, hu] at ht
  obtain ⟨n, h1, h2⟩ := ht.asString hu
  exact ⟨n, by simpa using h1, h2⟩
theorem ArgTyped.asSlice {e : TypeId} {a : Value} (hu : P.underlying t = some (.slice e)) (ht : ArgTyped P h F t a) : ∃ G, F = G + 1 ∧ (a = .slice none 0 0 ∨ ∃ i len c, a = .slice (some ⟨i, 0, none⟩) len (P.cellsOf e) ∧ h[i]? = some (.cells c false) ∧ c.length = len * P.cellsOf e ∧ len ≤ maxLen ∧
        (∀ k, k < len → ATyped P h G e ((c.drop (k * P.cellsOf e)).take (P.cellsOf e)))) := by
  simp only [ArgTyped, hu] at ht
  obtain ⟨G, h1, h2⟩ := ht.asSlice hu
  refine ⟨G, h1, ?_⟩
  simpa using h2
end opens

theorem ArgsTyped.cons_inv {h : Hp} {F : Nat} {t : TypeId} {ts : List TypeId} {xs : List Value} (ht : ArgsTyped P h F (t :: ts) xs) : ∃ a as, xs = a :: as ∧ ArgTyped P h F t a ∧ ArgsTyped P h F ts as := by
  match xs, ht with
  | a :: as, ht => exact ⟨a, as, rfl, ht.1, ht.2⟩
theorem ArgsTyped.nil_inv {h : Hp} {F : Nat} {xs : List Value} (ht : ArgsTyped P h F [] xs) : xs = [] := by
  match xs, ht with
  | [], _ => rfl

theorem map_fst {α β : Type} {x : Option (α × β)} {v : α} (h : x.map (·.1) = some v) : ∃ y, x = some (v, y) := by
  obtain ⟨⟨r, y⟩, h1, h2⟩ := Option.map_eq_some_iff.1 h
  exact ⟨y, by rw [h1]; cases h2; rfl⟩

theorem imp_arg {F : Nat} {t : TypeId} {v : Value} {d : DataW H} {ps : List MemPlace} {base : Nat} (hk : tightOk P F t = true) (hval : Value.okWide P W .any base t v)
    (ht : DataW.Trod enc P W 0 (fun _ => true) true t v d ps) (m : Pl) (h : Hp) (s : Sim (B0 W) W m h W) (hn : NoOwn h) :
    ∃ m' os a, m.le m' ∧ Sim (B0 W) W m' (h ++ os) W ∧ NoOwn (h ++ os) ∧ VRel m' a v ∧ ArgTyped P (h ++ os) F t a := by
  obtain ⟨fu, ht⟩ := ht
  obtain ⟨m', os, as, h1, h2, h3, h4, h5⟩ := imp_trod F hk ht m h s hn
  cases hu : P.underlying t with
  | none => cases F <;> simp [tightOk, hu] at hk
  | some ty =>
    have one : (∀ cs, v ≠ .agg cs) → (∀ fs, ty ≠ .struct fs) → ∃ m' os a, m.le m' ∧ Sim (B0 W) W m' (h ++ os) W ∧ NoOwn (h ++ os) ∧ VRel m' a v ∧ ArgTyped P (h ++ os) F t a := by
      intro hv hs
      have hc : v.cells.toList = [v] := by cases v <;> first | rfl | exact absurd rfl (hv _)
      rw [hc] at h4
      obtain ⟨a, rfl⟩ : ∃ a, as = [a] := by
        have := h4.1; simp at this
        match as, this with
        | [a], _ => exact ⟨a, rfl⟩
      refine ⟨m', os, a, h1, h2, h3, h4.2 0 a v rfl rfl, ?_⟩
      unfold ArgTyped
      rw [hu]
      cases ty with
      | struct fs => exact absurd rfl (hs fs)
      | _ => exact h5
    cases ty with
    | bool => exact one (fun cs e => by subst e; simp [Value.okWide, hu, Cell.okWide, Cell.ok] at hval) (by simp)
    | int k => exact one (fun cs e => by subst e; simp [Value.okWide, hu, Cell.okWide, Cell.ok] at hval) (by simp)
    | string => exact one (fun cs e => by subst e; simp [Value.okWide, hu, Cell.okWide, Cell.ok] at hval) (by simp)
    | slice e => exact one (fun cs e => by subst e; simp [Value.okWide, hu, Cell.okWide, Cell.ok] at hval) (by simp)
    | struct fs =>
      simp only [Value.okWide, hu] at hval
      obtain ⟨cs, rfl, hsz, _⟩ := hval
      simp only [Value.cells] at h4
      have hl : as.length = cs.size := by rw [h4.1]; simp
      refine ⟨m', os, .agg as.toArray, h1, h2, h3, .agg _ _ (by simpa using hl) (fun j hj hj' => ?_), ?_⟩
      · exact h4.2 j _ _ (by simp at hj ⊢) (by simp)
      · unfold ArgTyped
        rw [hu]
        exact ⟨_, rfl, h5⟩
    | _ => cases F <;> simp [tightOk, hu] at hk

theorem imp_args {F base : Nat} : ∀ (ts : List TypeId) (vs : List Value) (ds : List (DataW H)) (ps : List MemPlace), (∀ t ∈ ts, tightOk P F t = true) →
    (∀ (j : Nat) t v, ts[j]? = some t → vs[j]? = some v → Value.okWide P W .any base t v) → DataW.TrodAll enc P W 0 (fun _ => true) true ts vs ds ps →
    ∀ (m : Pl) (h : Hp), Sim (B0 W) W m h W → NoOwn h → ∃ m' os as, m.le m' ∧ Sim (B0 W) W m' (h ++ os) W ∧ NoOwn (h ++ os) ∧ VRels m' as vs ∧ ArgsTyped P (h ++ os) F ts as
  | [], vs, ds, ps, _, _, ht, m, h, s, hn => by
    obtain ⟨rfl, rfl, rfl⟩ := trodAll_nil ht
    exact ⟨m, [], [], m.le_refl, by simpa using s, by simpa using hn, .nil _, trivial⟩
  | t :: ts, vs, ds, ps, hk, hv, ht, m, h, s, hn => by
    obtain ⟨v, vs', d, ds', p, q, rfl, rfl, rfl, h0, hr⟩ := trodAll_cons ht
    obtain ⟨m1, os1, a, l1, s1, n1, r1, t1⟩ := imp_arg (hk t (by simp)) (hv 0 t v rfl rfl) h0 m h s hn
    obtain ⟨m2, os2, as, l2, s2, n2, r2, t2⟩ := imp_args ts vs' ds' q (fun t ht => hk t (by simp [ht])) (fun j t v h1 h2 => hv (j + 1) t v (by simpa using h1) (by simpa using h2)) hr m1 _ s1 n1
    rw [List.append_assoc] at s2 n2 t2
    refine ⟨m2, os1 ++ os2, a :: as, Pl.le_trans l1 l2, s2, n2, .cons (r1.mono l2) r2, ?_, t2⟩
    have := t1.ext os2
    rwa [List.append_assoc] at this

theorem trodAll_stays (hl : laidOutB P = true) {W' : World} (hb : Below W.heap.size W W') : ∀ (ts : List TypeId) (vs : List Value) (ds : List (DataW H)) (ps : List MemPlace),
    (∀ t ∈ ts, P.readableRec t = true ∧ t < P.types.size) → DataW.TrodAll enc P W 0 (fun _ => true) true ts vs ds ps → (∀ x ∈ ps, x.block < W.heap.size) →
    DataW.TrodAll enc P W' 0 (fun b => decide (b < W.heap.size)) true ts vs ds ps
  | [], vs, ds, ps, _, ht, _ => by
    obtain ⟨rfl, rfl, rfl⟩ := trodAll_nil ht
    exact rfl
  | t :: ts, vs, ds, ps, hr, ht, hlt => by
    obtain ⟨v, vs', d, ds', p, q, rfl, rfl, rfl, h0, hr'⟩ := trodAll_cons ht
    exact ⟨p, q, Below.trod hl (hr t (by simp)).1 (hr t (by simp)).2 h0 hb (fun x hx => hlt x (by simp [hx])),
      trodAll_stays hl hb ts vs' ds' q (fun t ht => hr t (by simp [ht])) hr' (fun x hx => hlt x (by simp [hx])), rfl⟩

/-- The names that the machine answers itself. -/
def namesB (P : Program) : Bool := P.funcs.toList.all fun fn => !(fn.name == "runtime.NumGoroutine")

theorem namesOk_of (h : namesB P = true) : NamesOk P := by
  intro f fn hf
  have := List.all_eq_true.1 h fn (by
    obtain ⟨hi, he⟩ := Array.getElem?_eq_some_iff.1 hf
    rw [← he]; simp)
  simpa using this

/-- What a law's parameters must be. -/
def paramsB (P : Program) (F : Nat) (ts : List TypeId) : Bool := ts.all fun t => tightOk P F t && P.readableRec t && Nat.blt t P.types.size

/-- The law, in the evaluator: of every typed argument the answer is true. (Where the arguments name no object, the heap may be taken as empty.) -/
def EvLaw (P : Program) (f : FuncId) (F : Nat) (ts : List TypeId) : Prop :=
  ∀ xs h, NoOwn h → ArgsTyped P h F ts xs → ∃ k h0 h', (h0 = h ∨ (h0 = [] ∧ ∀ x ∈ xs, ground x = true)) ∧ evCall P k (.fn f) xs h0 = some (.bool true, h')

theorem law_contract (hN : namesB P = true) (hmo : P.follows .mixedOrders = true) (hl : laidOutB P = true) {f : FuncId} {fn : Func} {s : ChangeSpec} {tb : TypeId} (hb : P.underlying tb = some .bool)
    (hres : fn.resultTypes = #[tb]) (hvars : s.vars = []) {F : Nat} {ts : List TypeId} (hts : fn.params.toList = ts) (hp : paramsB P F ts = true)
    (hspec : ∀ ds : List (DataW H), ds.length = ts.length → s.fn H ds = { results := [.lit (.bool true)], args := ds })
    (law : EvLaw P f F ts)
    (base : Nat) (args : Array Value) (ds gs : List (DataW H)) (before : List MemPlace)
    (hval : ∀ (j : Nat) t v, fn.params[j]? = some t → args[j]? = some v → Value.okWide P W .any base t v)
    (hW : DataW.Whole enc P fn.params.toList s.vars false W args.toList ds gs before) :
    Calls P f args W fun e W' => ∃ v, e = .returned v ∧ s.post enc P fn false true false false W args v W' := by
  have hW' := hW
  obtain ⟨p, q, hA, hV, rfl, hfz, hnd⟩ := hW
  rw [hvars] at hV
  obtain ⟨rfl, rfl⟩ := trodVars_none hV
  rw [hts] at hA
  have hp' : ∀ t ∈ ts, tightOk P F t = true ∧ P.readableRec t = true ∧ t < P.types.size := fun t ht => by
    have := List.all_eq_true.1 hp t ht
    simp only [Bool.and_eq_true, Nat.blt_eq] at this
    exact ⟨this.1.1, this.1.2, this.2⟩
  have hv' : ∀ (j : Nat) t v, ts[j]? = some t → args.toList[j]? = some v → Value.okWide P W .any base t v := fun j t v h1 h2 => hval j t v (by rw [← hts] at h1; simpa using h1) (by simpa using h2)
  obtain ⟨m, h, as, _, hs, hn, hr, ht⟩ := imp_args ts args.toList ds p (fun t ht => (hp' t ht).1) hv' hA _ _ (sim_nil W) (fun i o hi => by simp at hi)
  rw [List.nil_append] at hs hn ht
  obtain ⟨k, h0, h', hh0, hev⟩ := law as h hn ht
  have hc := ((evCall_snd (namesOk_of hN) hmo k).fn hev).resolve_right fun ⟨_, _, ⟨t, x, e⟩, _⟩ => by cases e
  have : ∃ m, Sim (B0 W) W m h0 W ∧ VRels m as args.toList := by
    rcases hh0 with rfl | ⟨rfl, hfl⟩
    · exact ⟨m, hs, hr⟩
    · exact ⟨_, sim_nil W, hr.1, fun j v u h1 h2 => (by have hg := hfl v (List.mem_of_getElem? h1); have := VRel.ground (hr.2 j v u h1 h2) hg; subst this; exact VRel.refl _ v hg)⟩
  obtain ⟨m, hs, hr⟩ := this
  have := hc.2 _ _ _ _ _ hs hr
  rw [show args.toList.toArray = args by simp] at this
  refine this.mono fun e W' ⟨m', u, _, hs', hu, he⟩ => ?_
  cases hu
  subst he
  have hbel : Below W.heap.size W W' := hs'.below
  have hlen : ds.length = ts.length := (trodAll_length hA).2
  refine ⟨_, rfl, ds, [], _, [], p, [], hW', ?_, ?_, ?_, ?_, fun h => by cases h⟩
  · rw [hres, List.append_nil, hspec ds hlen]
    exact trodAll_cons_mk (shut_bool hb true) trodAll_mk0
  · rw [hts, List.append_nil, hspec ds hlen]
    exact trodAll_stays hl hbel ts _ ds p (fun t ht => (hp' t ht).2) hA (fun x hx => hW'.lt x (by simp [hx]))
  · rw [hvars, List.append_nil, hspec ds hlen]
    exact rfl
  · exact hbel.frame _

end Go.Ev
