import Derived.Test.YtalfgifleahabaaGreatDoorSbEvBase
import Derived.Laws.CopyOwn
import Derived.Laws.Rows
namespace Go.Ev
open Go.RowKit

/-- Some of a frame's slots. -/
abbrev Env := List (Nat × Value)

def look : Env → Nat → Option Value
  | [], _ => none
  | (k, v) :: r, t => match Nat.beq k t with
    | true => some v
    | false => look r t

def EnvRel (m : Pl) (E : Env) (tmps : Array Value) : Prop := ∀ t v, look E t = some v → ∃ u, tmps[t]? = some u ∧ VRel m v u

theorem EnvRel.mono {m m' : Pl} (hm : m.le m') {E : Env} {tmps : Array Value} (h : EnvRel m E tmps) : EnvRel m' E tmps :=
  fun t v hv => let ⟨u, h1, h2⟩ := h t v hv; ⟨u, h1, h2.mono hm⟩

/-- An object of the abstract heap. -/
inductive AObj where
  | dead
  | cells (c : List Value) (rw : Bool)
  | loop (st : LoopState) (pending : Option Code) (E : Env) (n : Nat) (params : Array Tmp) (assign body : Code)
  | mp (es : List (Value × Value))
  | glob (g : Nat) (c : List Value)

abbrev Hp := List AObj

def Real (B : Nat) (m : Pl) (w : World) (p : Place) : AObj → Prop
  | .dead => True
  | .cells c rw => ∃ arr t fz, w.heap[p.block]? = some (.cells arr t fz) ∧ p.base + p.ext ≤ arr.size ∧ c.length ≤ p.ext ∧
      VRels m c ((arr.toList.drop p.base).take c.length) ∧ (if rw = true then fz = (0, 0) ∧ B ≤ p.block else p.block < B)
  | .loop st pending E n params assign body => ∃ l : Loop, w.heap[p.block]? = some (.loop l) ∧ l.state = st ∧ l.pending = pending ∧ l.params = params ∧ l.assign = assign ∧
      l.body = body ∧ l.tmps.size = n ∧ EnvRel m E l.tmps ∧ B ≤ p.block
  | .mp es => ∃ (arr : Array MapEntry) (clock : Nat), w.heap[p.block]? = some (.map arr clock) ∧ arr.toList.map (·.key) = es.map (·.1) ∧ VRels m (es.map (·.2)) (arr.toList.map (·.val)) ∧ (es.all fun x => ground x.1) = true ∧ B ≤ p.block
  | .glob g c => p.block = g ∧ p.base = 0 ∧ g < B ∧ ∃ arr t fz, w.heap[g]? = some (.cells arr t fz) ∧ c.length ≤ arr.size ∧ VRels m c (arr.toList.take c.length)

theorem Real.mono {B : Nat} {m m' : Pl} (hm : m.le m') {w : World} {p : Place} {o : AObj} (h : Real B m w p o) : Real B m' w p o := by
  cases o with
  | dead => trivial
  | cells c rw => obtain ⟨arr, t, fz, h1, h2, h3, h4, h5⟩ := h; exact ⟨arr, t, fz, h1, h2, h3, h4.mono hm, h5⟩
  | loop st pending E n params assign body => obtain ⟨l, h1, h2, h3, h4, h5, h6, h7, h8, h9⟩ := h; exact ⟨l, h1, h2, h3, h4, h5, h6, h7, h8.mono hm, h9⟩
  | mp es => obtain ⟨arr, c, h1, h2, h3, h4⟩ := h; exact ⟨arr, c, h1, h2, h3.mono hm, h4⟩
  | glob g c => obtain ⟨e1, e2, e3, arr, t, fz, h1, h2, h3⟩ := h; exact ⟨e1, e2, e3, arr, t, fz, h1, h2, h3.mono hm⟩

/-- The block of a live object that may be written. -/
def AObj.owns : AObj → Bool
  | .cells _ rw => rw
  | .loop .. => true
  | .mp _ => true
  | .dead => false
  | .glob .. => false

/-- No laid variable. -/
def AObj.ng : AObj → Bool
  | .glob .. => false
  | _ => true

/-- The number of the first block that is not the arguments', and the blocks of deferred calls that wait. -/
structure Bs where
  n : Nat
  K : List Nat

structure Sim (B : Bs) (w0 : World) (m : Pl) (h : Hp) (w : World) : Prop where
  below : Below B.n w0 w
  base : B.n ≤ w0.heap.size
  marks : ∀ b ∈ B.K, B.n ≤ b ∧ w.heap[b]? = some (.deferred (some []))
  nodup : B.K.Nodup
  real : ∀ i p, m i = some p → ∃ o, h[i]? = some o ∧ Real B.n m w p o
  inj : ∀ i j p q o o', m i = some p → m j = some q → h[i]? = some o → h[j]? = some o' → o.owns = true → o'.owns = true → p.block = q.block → i = j
  gl : ∀ i g c, h[i]? = some (.glob g c) → ∃ p, m i = some p

variable {B : Bs} {w0 : World} {m : Pl} {h : Hp} {w : World}

theorem Real.lt {p : Place} {o : AObj} (hr : Real B.n m w p o) (hd : o ≠ .dead) : p.block < w.heap.size := by
  cases o with
  | dead => exact absurd rfl hd
  | cells c rw => obtain ⟨arr, t, fz, h1, _⟩ := hr; exact (Array.getElem?_eq_some_iff.1 h1).1
  | loop st pending E n params assign body => obtain ⟨l, h1, _⟩ := hr; exact (Array.getElem?_eq_some_iff.1 h1).1
  | mp es => obtain ⟨arr, c, h1, _⟩ := hr; exact (Array.getElem?_eq_some_iff.1 h1).1
  | glob g c => obtain ⟨rfl, _, _, arr, t, fz, h1, _⟩ := hr; exact (Array.getElem?_eq_some_iff.1 h1).1

/-- What does not change an object's block leaves it as it was. -/
theorem Real.frame {p : Place} {o : AObj} {w' : World} (hr : Real B.n m w p o) (hb : o ≠ .dead → w'.heap[p.block]? = w.heap[p.block]?) : Real B.n m w' p o := by
  cases o with
  | dead => trivial
  | cells c rw => obtain ⟨arr, t, fz, h1, h2⟩ := hr; exact ⟨arr, t, fz, by rw [hb (by simp)]; exact h1, h2⟩
  | loop st pending E n params assign body => obtain ⟨l, h1, h2⟩ := hr; exact ⟨l, by rw [hb (by simp)]; exact h1, h2⟩
  | mp es => obtain ⟨arr, c, h1, h2⟩ := hr; exact ⟨arr, c, by rw [hb (by simp)]; exact h1, h2⟩
  | glob g c => obtain ⟨rfl, e2, e3, arr, t, fz, h1, h2⟩ := hr; exact ⟨rfl, e2, e3, arr, t, fz, by rw [hb (by simp)]; exact h1, h2⟩

theorem Real.owns_ge {p : Place} {o : AObj} (hr : Real B.n m w p o) (ho : o.owns = true) : B.n ≤ p.block := by
  cases o with
  | dead => simp [AObj.owns] at ho
  | cells c rw => simp [AObj.owns] at ho; subst ho; obtain ⟨arr, t, fz, _, _, _, _, h5⟩ := hr; rw [if_pos rfl] at h5; exact h5.2
  | loop st pending E n params assign body => obtain ⟨l, _, _, _, _, _, _, _, _, h9⟩ := hr; exact h9
  | mp es => obtain ⟨_, _, _, _, _, _, h5⟩ := hr; exact h5
  | glob g c => simp [AObj.owns] at ho

/-- The laid variables are where they were. -/
theorem glob_set {h : Hp} {i k g : Nat} {c : List Value} {o : AObj} (hk : (h.set i o)[k]? = some (.glob g c)) (ho : ∀ g c, o ≠ .glob g c) : h[k]? = some (.glob g c) := by
  rw [List.getElem?_set] at hk
  split at hk
  · split at hk
    · cases hk; exact absurd rfl (ho g c)
    · cases hk
  · exact hk

theorem Sim.size (s : Sim B w0 m h w) : B.n ≤ w.heap.size := Nat.le_trans s.base s.below.size

theorem Sim.fresh (s : Sim B w0 m h w) {i : Nat} (hi : h.length ≤ i) : m i = none := by
  cases hm : m i with
  | none => rfl
  | some p =>
    obtain ⟨o, ho, _⟩ := s.real i p hm
    have := (List.getElem?_eq_some_iff.1 ho).1
    omega

def Pl.put (m : Pl) (i : Nat) (p : Place) : Pl := fun j => if j = i then some p else m j
theorem Pl.put_same (m : Pl) (i : Nat) (p : Place) : m.put i p i = some p := by simp [Pl.put]
theorem Pl.put_le {m : Pl} {i : Nat} {p : Place} (hi : m i = none) : m.le (m.put i p) := fun j q hq => by
  unfold Pl.put
  split
  · rename_i e; subst e; rw [hi] at hq; cases hq
  · exact hq

theorem Sim.drew (s : Sim B w0 m h w) : Sim B w0 m h w.drew :=
  ⟨s.below.drew, s.base, s.marks, s.nodup, fun i p hi => let ⟨o, ho, hr⟩ := s.real i p hi; ⟨o, ho, hr.frame fun _ => rfl⟩, s.inj, s.gl⟩
theorem Sim.drawn (s : Sim B w0 m h w) (n : Nat) : Sim B w0 m h { w with drawn := n } :=
  ⟨⟨s.below.os, s.below.tape, s.below.output, s.below.size, s.below.block⟩, s.base, s.marks, s.nodup, fun i p hi => let ⟨o, ho, hr⟩ := s.real i p hi; ⟨o, ho, hr.frame fun _ => rfl⟩, s.inj, s.gl⟩

/-- A new place for a new object. -/
theorem gl_app {m : Pl} {h : Hp} {p : Place} {o : AObj} (s : ∀ i g c, h[i]? = some (.glob g c) → ∃ p, m i = some p) {i g : Nat} {c : List Value} (hi : (h ++ [o])[i]? = some (.glob g c)) : ∃ q, (m.put h.length p) i = some q := by
  unfold Pl.put
  by_cases e : i = h.length
  · exact ⟨p, by rw [if_pos e]⟩
  · rw [if_neg e]
    have : i < h.length := by
      have := (List.getElem?_eq_some_iff.1 hi).1
      simp at this
      omega
    rw [List.getElem?_append_left this] at hi
    exact s i g c hi

/-- A new object in a new block. -/
theorem Sim.new (s : Sim B w0 m h w) (x : Obj) (o : AObj) (p : Place) (hp : p.block = w.heap.size)
    (hr : Real B.n (m.put h.length p) (w.alloc x) p o) : Sim B w0 (m.put h.length p) (h ++ [o]) (w.alloc x) := by
  have hf : m h.length = none := s.fresh (Nat.le_refl _)
  have hle := Pl.put_le (p := p) hf
  have hlt : ∀ j q, m j = some q → j < h.length := fun j q hq => by
    rcases Nat.lt_or_ge j h.length with k | k
    · exact k
    · rw [s.fresh k] at hq; cases hq
  have hold : ∀ j q o', m j = some q → h[j]? = some o' → o' ≠ .dead → q.block < w.heap.size := fun j q o' hq ho' hd => by
    obtain ⟨o2, h2, h3⟩ := s.real j q hq
    rw [ho'] at h2; cases h2
    exact h3.lt hd
  refine ⟨s.below.alloc s.size x, s.base, fun b hb => ⟨(s.marks b hb).1, by
    rw [Below.heap_alloc w x b (Array.getElem?_eq_some_iff.1 (s.marks b hb).2).1]; exact (s.marks b hb).2⟩, s.nodup, fun i q hq => ?_, fun i j q r a b hq hr' ha hb oa ob hbl => ?_, fun i g c hi => ?_⟩
  · unfold Pl.put at hq
    split at hq
    · rename_i e; subst e; cases hq; exact ⟨o, by simp, hr⟩
    · obtain ⟨o', ho', hr'⟩ := s.real i q hq
      have hi := hlt i q hq
      refine ⟨o', by rw [List.getElem?_append_left hi]; exact ho', (hr'.mono hle).frame fun hd => ?_⟩
      exact Below.heap_alloc w x _ (hr'.lt hd)
  · have key : ∀ k q a, (m.put h.length p) k = some q → (h ++ [o])[k]? = some a → a.owns = true → (k = h.length ∧ q.block = w.heap.size) ∨ (k < h.length ∧ m k = some q ∧ h[k]? = some a ∧ q.block < w.heap.size) := by
      intro k q a hq ha oa
      unfold Pl.put at hq
      split at hq
      · rename_i e; cases hq; exact .inl ⟨e, hp⟩
      · have hk := hlt k q hq
        rw [List.getElem?_append_left hk] at ha
        exact .inr ⟨hk, hq, ha, hold k q a hq ha (fun e => by subst e; simp [AObj.owns] at oa)⟩
    rcases key i q a hq ha oa with ⟨e1, e2⟩ | ⟨e1, e2, e3, e4⟩ <;> rcases key j r b hr' hb ob with ⟨f1, f2⟩ | ⟨f1, f2, f3, f4⟩
    · omega
    · omega
    · omega
    · exact s.inj i j q r a b e2 f2 e3 f3 oa ob hbl
  · exact gl_app s.gl hi

theorem Sim.newCells (s : Sim B w0 m h w) (c cs rest : List Value) (t : TypeId) (hc : VRels m c cs) :
    Sim B w0 (m.put h.length ⟨w.heap.size, 0, cs.length + rest.length⟩) (h ++ [.cells c true]) (w.alloc (.cells (cs ++ rest).toArray t)) := by
  refine s.new _ _ _ rfl ⟨_, t, (0, 0), by simpa using heap_alloc_new w _, by simp, by simp [hc.1], ?_, by simp [s.size]⟩
  have := hc.mono (Pl.put_le (p := ⟨w.heap.size, 0, cs.length + rest.length⟩) (s.fresh (Nat.le_refl _)))
  simpa [hc.1] using this

theorem Sim.get (s : Sim B w0 m h w) {i : Nat} {p : Place} {o : AObj} (hi : m i = some p) (ho : h[i]? = some o) : Real B.n m w p o := by
  obtain ⟨o', ho', hr⟩ := s.real i p hi
  rw [ho] at ho'; cases ho'
  exact hr

/-- The cells of an object, read. -/
theorem Sim.cell (s : Sim B w0 m h w) {i off : Nat} {p : Place} {c : List Value} {rw : Bool} {v : Value} (hi : m i = some p) (ho : h[i]? = some (.cells c rw)) (hv : c[off]? = some v) :
    ∃ u, w.cell? ⟨p.block, p.base + off, none⟩ = some u ∧ VRel m v u := by
  obtain ⟨arr, t, fz, h1, h2, h3, h4, _⟩ := s.get hi ho
  obtain ⟨u, hu, hr⟩ := h4.get hv
  have hlt : off < c.length := (List.getElem?_eq_some_iff.1 hv).1
  rw [List.getElem?_take, if_pos hlt, List.getElem?_drop] at hu
  exact ⟨u, by simp [World.cell?, h1]; simpa using hu, hr⟩

/-- A run of cells, read. -/
theorem Sim.cells (s : Sim B w0 m h w) {i off n : Nat} {p : Place} {c : List Value} {rw : Bool} (hi : m i = some p) (ho : h[i]? = some (.cells c rw)) (hn : off + n ≤ c.length) :
    ∃ us : List Value, VRels m ((c.drop off).take n) us ∧ us.length = n ∧ ∀ j u, us[j]? = some u → w.cell? ((⟨p.block, p.base + off, none⟩ : Addr).add j) = some u := by
  obtain ⟨arr, t, fz, h1, h2, h3, h4, _⟩ := s.get hi ho
  refine ⟨((((arr.toList.drop p.base).take c.length).drop off).take n), (h4.drop off).take n, ?_, fun j u hu => ?_⟩
  · simp; omega
  · rw [List.getElem?_take] at hu
    split at hu
    · rw [List.getElem?_drop, List.getElem?_take] at hu
      split at hu
      · rw [List.getElem?_drop] at hu
        have e : (⟨p.block, p.base + off, none⟩ : Addr).add j = ⟨p.block, p.base + off + j, none⟩ := by
          unfold Addr.add; split <;> simp_all
        rw [e]
        simp only [World.cell?, h1]
        simpa [Nat.add_assoc] using hu
      · cases hu
    · cases hu

/-- Cells of an object, written. -/
theorem Sim.setRow (s : Sim B w0 m h w) {i off : Nat} {p : Place} {c : List Value} (hi : m i = some p) (ho : h[i]? = some (.cells c true)) {vs us : List Value} (hv : VRels m vs us) (hn : off + vs.length ≤ c.length) :
    ∃ (arr : Array Value) (t : TypeId), w.heap[p.block]? = some (.cells arr t (0, 0)) ∧ p.base + off + us.length ≤ arr.size ∧
      Sim B w0 m (h.set i (.cells (c.take off ++ vs ++ c.drop (off + vs.length)) true)) (w.setRow p.block (arr.toList.take (p.base + off) ++ us ++ arr.toList.drop (p.base + off + us.length)).toArray) := by
  obtain ⟨arr, t, fz, h1, h2, h3, h4, h5⟩ := s.get hi ho
  rw [if_pos rfl] at h5
  obtain ⟨rfl, hB⟩ := h5
  have hul : us.length = vs.length := hv.1.symm
  have hil : i < h.length := (List.getElem?_eq_some_iff.1 ho).1
  refine ⟨arr, t, h1, by omega, below_setRow s.below hB _, s.base, fun b hb => ⟨(s.marks b hb).1, by
    rw [setRow_other w p.block b _ (fun e => by have := (s.marks b hb).2; rw [e, h1] at this; cases this)]; exact (s.marks b hb).2⟩, s.nodup, fun j q hq => ?_, fun j k q r a b hq hr ha hb oa ob hbl => ?_, fun j g c hj => s.gl j g c (glob_set hj (by simp))⟩
  · obtain ⟨o', ho', hr'⟩ := s.real j q hq
    by_cases hji : j = i
    · subst hji
      rw [hi] at hq; cases hq
      refine ⟨_, List.getElem?_set_self hil, _, t, (0, 0), setRow_heap w p.block arr _ t _ h1, ?_, ?_, ?_, by simp [hB]⟩
      · simp; omega
      · simp; omega
      · have hlen : (c.take off ++ vs ++ c.drop (off + vs.length)).length = c.length := by simp; omega
        rw [hlen]
        have key : ((arr.toList.take (p.base + off) ++ us ++ arr.toList.drop (p.base + off + us.length)).drop p.base).take c.length =
            ((arr.toList.drop p.base).take c.length).take off ++ us ++ ((arr.toList.drop p.base).take c.length).drop (off + us.length) := by
          apply List.ext_getElem?
          intro k
          simp only [List.getElem?_take, List.getElem?_drop, List.getElem?_append, List.length_append, List.length_take, List.length_drop, Array.length_toList]
          have e1 : min off (min c.length (arr.size - p.base)) = off := by omega
          have e2 : min (p.base + off) arr.size = p.base + off := by omega
          simp only [e1, e2]
          by_cases k1 : k < c.length
          · by_cases k2 : k < off
            · have : p.base + k < p.base + off := by omega
              have k3 : k < off + us.length := by omega
              have k4 : p.base + k < p.base + off + us.length := by omega
              simp [k1, k2, this, k3, k4]
            · by_cases k3 : k < off + us.length
              · have k4 : p.base + k < p.base + off + us.length := by omega
                have k5 : ¬ p.base + k < p.base + off := by omega
                have k6 : p.base + k - (p.base + off) = k - off := by omega
                simp [k1, k2, k3, k4, k5, k6]
              · have k4 : ¬ p.base + k < p.base + off + us.length := by omega
                have k5 : p.base + off + us.length + (p.base + k - (p.base + off + us.length)) = p.base + k := by omega
                have k6 : off + us.length + (k - (off + us.length)) = k := by omega
                simp [k1, k3, k4, k5, k6]
          · by_cases k2 : k < off
            · omega
            · by_cases k3 : k < off + us.length
              · omega
              · have k6 : off + us.length + (k - (off + us.length)) = k := by omega
                simp [k1, k3, k6]
        rw [List.toList_toArray, key, hul]
        exact ((h4.take off).append hv).append (h4.drop _)
    · refine ⟨o', by rw [List.getElem?_set_ne (Ne.symm hji)]; exact ho', hr'.frame fun hd => ?_⟩
      by_cases hob : o'.owns = true
      · exact setRow_other w p.block q.block _ fun e => hji (s.inj j i q p o' _ hq hi ho' ho hob rfl e)
      · refine setRow_other w p.block q.block _ fun e => ?_
        cases o' with
        | dead => exact hd rfl
        | cells c' rw' =>
          cases rw' with
          | true => exact hob rfl
          | false => obtain ⟨_, _, _, _, _, _, _, h6⟩ := hr'; simp at h6; omega
        | loop st pending E n params assign body => exact hob rfl
        | mp es => exact hob rfl
        | glob g c => obtain ⟨e1, _, e3, _⟩ := hr'; omega
  · have key : ∀ (k : Nat) (a : AObj), (h.set i (.cells (c.take off ++ vs ++ c.drop (off + vs.length)) true))[k]? = some a → a.owns = true → ∃ a' : AObj, h[k]? = some a' ∧ a'.owns = true := by
      intro k a ha oa
      by_cases hk : k = i
      · subst hk; exact ⟨_, ho, rfl⟩
      · rw [List.getElem?_set_ne (Ne.symm hk)] at ha; exact ⟨a, ha, oa⟩
    obtain ⟨a', ha', oa'⟩ := key j a ha oa
    obtain ⟨b', hb', ob'⟩ := key k b hb ob
    exact s.inj j k q r a' b' hq hr ha' hb' oa' ob' hbl

/-- An object of which nothing more is said. -/
theorem Sim.kill (s : Sim B w0 m h w) (i : Nat) : Sim B w0 m (h.set i .dead) w := by
  refine ⟨s.below, s.base, s.marks, s.nodup, fun j q hq => ?_, fun j k q r a b hq hr ha hb oa ob hbl => ?_, fun j g c hj => s.gl j g c (glob_set hj (by simp))⟩
  · obtain ⟨o', ho', hr'⟩ := s.real j q hq
    by_cases hji : i = j
    · subst hji
      exact ⟨.dead, List.getElem?_set_self (List.getElem?_eq_some_iff.1 ho').1, trivial⟩
    · exact ⟨o', by rw [List.getElem?_set_ne hji]; exact ho', hr'⟩
  · have key : ∀ (k : Nat) (a : AObj), (h.set i .dead)[k]? = some a → a.owns = true → h[k]? = some a := by
      intro k a ha oa
      rw [List.getElem?_set] at ha
      split at ha
      · split at ha
        · cases ha; simp [AObj.owns] at oa
        · cases ha
      · exact ha
    exact s.inj j k q r a b hq hr (key j a ha oa) (key k b hb ob) oa ob hbl

/-- A step of places: nothing old is moved or laid, the heap does not shrink. -/
structure Stp (m : Pl) (h : Hp) (m' : Pl) (h' : Hp) : Prop where
  le : m.le m'
  old : ∀ i, i < h.length → m' i = m i
  len : h.length ≤ h'.length

theorem Stp.refl (m : Pl) (h : Hp) : Stp m h m h := ⟨m.le_refl, fun _ _ => rfl, Nat.le_refl _⟩
theorem Stp.trans {m m1 m2 : Pl} {h h1 h2 : Hp} (a : Stp m h m1 h1) (b : Stp m1 h1 m2 h2) : Stp m h m2 h2 :=
  ⟨Pl.le_trans a.le b.le, fun i hi => by rw [b.old i (Nat.lt_of_lt_of_le hi a.len), a.old i hi], Nat.le_trans a.len b.len⟩
theorem Stp.put {m : Pl} {h : Hp} (p : Place) (o : AObj) (hf : m h.length = none) : Stp m h (m.put h.length p) (h ++ [o]) :=
  ⟨Pl.put_le hf, fun i hi => by unfold Pl.put; rw [if_neg (by omega)], by simp⟩
theorem Stp.same {m : Pl} {h h' : Hp} (e : h.length ≤ h'.length) : Stp m h m h' := ⟨m.le_refl, fun _ _ => rfl, e⟩
theorem Stp.at {m m' : Pl} {h h0 h' h1 : Hp} (a : Stp m h m' h') (e : h.length = h0.length) (e' : h'.length = h1.length) : Stp m h0 m' h1 := ⟨a.le, fun i hi => a.old i (by omega), by have := a.len; omega⟩

end Go.Ev
