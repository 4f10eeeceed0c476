import Derived.Test.YtalfgifleahabaaGreatDoorSbEvCode
import Derived.Test.YtalfgifleahabaaGreatDoorSbEvDrawD
namespace Go.Ev
open Go.RowKit

variable {P : Program} {C : CallF}
variable {B : Bs} {w0 : World} {m : Pl} {h h' : Hp} {w : World} {E E' : Env} {a : Act} {n nn : Nat} {rd : Option Nat}

def exOf : Ex → Exit
  | .normal => .normal
  | .ret => .ret
  | .exit id => .exit id

def markOf (b : Nat) : Deferred := { target := .collected b, args := #[] }

def Bs.add (B : Bs) (ks : List Nat) : Bs := ⟨B.n, ks ++ B.K⟩
theorem Bs.add_nil (B : Bs) : B.add [] = B := rfl
theorem Bs.add_add (B : Bs) (ks js : List Nat) : (B.add ks).add js = B.add (js ++ ks) := by simp [Bs.add]

/-- What code comes to. -/
def Post (B : Bs) (w0 : World) (m : Pl) (h : Hp) (n : Nat) (ds : List Deferred) (x : Ex) (E' : Env) (h' : Hp) : Exit → Act → World → Prop :=
  fun e a w => e = exOf x ∧ ∃ ks m', Stp m h m' h' ∧ Sim (B.add ks) w0 m' h' w ∧ EnvRel m' E' a.tmps ∧ a.tmps.size = n ∧ a.defers = ks.map markOf ++ ds

theorem Post.here (s : Sim B w0 m h w) (he : EnvRel m E a.tmps) (hs : a.tmps.size = n) (x : Ex) : Post B w0 m h n a.defers x E h (exOf x) a w :=
  ⟨rfl, [], m, .refl m h, s, he, hs, rfl⟩

theorem Post.trans {ks : List Nat} {m1 : Pl} {g : Hp} {ds : List Deferred} {x : Ex} (h1 : Stp m h m1 g) {e : Exit} (hp : Post (B.add ks) w0 m1 g n (ks.map markOf ++ ds) x E' h' e a w) : Post B w0 m h n ds x E' h' e a w := by
  obtain ⟨k0, js, m', k1, k2, k3, k4, k5⟩ := hp
  exact ⟨k0, js ++ ks, m', h1.trans k1, by rw [← Bs.add_add]; exact k2, k3, k4, by rw [k5]; simp⟩

/-- A record among the objects. -/
theorem Sim.loop (s : Sim B w0 m h w) {i : Nat} {p : Place} {st : LoopState} {pend : Option Code} {E : Env} {n : Nat} {ps : Array Tmp} {assign body : Code} (hi : m i = some p)
    (ho : h[i]? = some (.loop st pend E n ps assign body)) : ∃ l : Loop, w.heap[p.block]? = some (.loop l) ∧ l.state = st ∧ l.pending = pend ∧ l.params = ps ∧ l.assign = assign ∧ l.body = body ∧ l.tmps.size = n ∧
      EnvRel m E l.tmps ∧ B.n ≤ p.block := s.get hi ho

/-- A record, turned. -/
theorem Sim.putLoop (s : Sim B w0 m h w) {i : Nat} {p : Place} {st : LoopState} {pend : Option Code} {E : Env} {n : Nat} {ps : Array Tmp} {assign body : Code} (hi : m i = some p)
    (ho : h[i]? = some (.loop st pend E n ps assign body)) {l : Loop} (hl : w.heap[p.block]? = some (.loop l)) {o : AObj} {l' : Loop} (hr : o = .dead ∨ Real B.n m (w.putObj p.block (.loop l')) p o) :
    Sim B w0 m (h.set i o) (w.putObj p.block (.loop l')) := by
  have hB : B.n ≤ p.block := (s.get hi ho).owns_ge rfl
  have hil : i < h.length := (List.getElem?_eq_some_iff.1 ho).1
  have hot : ∀ k, k ≠ p.block → (w.putObj p.block (.loop l')).heap[k]? = w.heap[k]? := fun k hk => World.putObj_heap_other hk
  have hown : ∀ j q o', m j = some q → h[j]? = some o' → o' ≠ .dead → j ≠ i → q.block ≠ p.block := by
    intro j q o' hq ho' hd hji e
    have hr' := s.get hq ho'
    cases o' with
    | dead => exact hd rfl
    | cells c rw =>
      obtain ⟨arr, t, fz, h1, _⟩ := hr'
      rw [e, hl] at h1; cases h1
    | loop st pending E n params assign body => exact hji (s.inj j i q p _ _ hq hi ho' ho rfl rfl e)
    | mp es => exact hji (s.inj j i q p _ _ hq hi ho' ho rfl rfl e)
    | glob g c => obtain ⟨e1, _, e3, _⟩ := hr'; omega
  refine ⟨⟨s.below.os, s.below.tape, s.below.output, by have := s.below.size; simpa [World.putObj] using this, fun k hk => ?_⟩, s.base, fun b hb => ⟨(s.marks b hb).1, ?_⟩, s.nodup, fun j q hq => ?_, fun j k q r x y hq hr' hx hy ox oy hbl => ?_, fun j g c hj => s.gl j g c (glob_set hj ?_)⟩
  · rw [hot k (by omega)]; exact s.below.block k hk
  · have hm := (s.marks b hb).2
    rw [hot b (fun e => by rw [e, hl] at hm; cases hm)]; exact hm
  · obtain ⟨o', ho', hr'⟩ := s.real j q hq
    by_cases hji : j = i
    · subst hji
      rw [hi] at hq; cases hq
      refine ⟨o, List.getElem?_set_self hil, ?_⟩
      rcases hr with rfl | hr
      · trivial
      · exact hr
    · exact ⟨o', by rw [List.getElem?_set_ne (Ne.symm hji)]; exact ho', hr'.frame fun hd => hot _ (hown j q o' hq ho' hd hji)⟩
  · have key : ∀ (k : Nat) (x : AObj), (h.set i o)[k]? = some x → x.owns = true → ∃ x' : AObj, h[k]? = some x' ∧ x'.owns = true := by
      intro k x hx ox
      by_cases hk : k = i
      · subst hk; exact ⟨_, ho, rfl⟩
      · rw [List.getElem?_set_ne (Ne.symm hk)] at hx; exact ⟨x, hx, ox⟩
    obtain ⟨x', hx', ox'⟩ := key j x hx ox
    obtain ⟨y', hy', oy'⟩ := key k y hy oy
    exact s.inj j k q r x' y' hq hr' hx' hy' ox' oy' hbl
  · rintro g c rfl
    rcases hr with hr | hr
    · cases hr
    · obtain ⟨e1, _, e3, _⟩ := hr; omega

/-- A block of deferred calls that wait: a mark more. -/
theorem Sim.mark (s : Sim B w0 m h w) : Sim (B.add [w.heap.size]) w0 m h (w.alloc (.deferred (some []))) := by
  refine ⟨s.below.alloc s.size _, s.base, fun b hb => ?_, ?_, fun i q hq => ?_, s.inj, s.gl⟩
  · rcases List.mem_cons.1 hb with rfl | hb
    · exact ⟨s.size, by simpa using heap_alloc_new w _⟩
    · exact ⟨(s.marks b hb).1, by rw [Below.heap_alloc w _ b (Array.getElem?_eq_some_iff.1 (s.marks b hb).2).1]; exact (s.marks b hb).2⟩
  · refine List.nodup_cons.2 ⟨fun hb => ?_, s.nodup⟩
    have := (Array.getElem?_eq_some_iff.1 (s.marks _ hb).2).1
    omega
  · obtain ⟨o', ho', hr'⟩ := s.real i q hq
    exact ⟨o', ho', hr'.frame fun hd => Below.heap_alloc w _ _ (hr'.lt hd)⟩

/-- It is come to. -/
theorem Sim.unmark {b : Nat} {ks : List Nat} (s : Sim (B.add (b :: ks)) w0 m h w) : Sim (B.add ks) w0 m h (w.putObj b (.deferred none)) := by
  have hm := s.marks b (by simp [Bs.add])
  have hot : ∀ k, k ≠ b → (w.putObj b (.deferred none)).heap[k]? = w.heap[k]? := fun k hk => World.putObj_heap_other hk
  have hnd : b ∉ ks ++ B.K ∧ (ks ++ B.K).Nodup := List.nodup_cons.1 s.nodup
  refine ⟨⟨s.below.os, s.below.tape, s.below.output, by have := s.below.size; simpa [World.putObj] using this, fun k hk => ?_⟩, s.base, fun c hc => ?_, hnd.2, fun j q hq => ?_, s.inj, s.gl⟩
  · have hk' : k < B.n := hk
    have hm1 : B.n ≤ b := hm.1
    rw [hot k (by omega)]; exact s.below.block k hk
  · have hc' := s.marks c (List.mem_cons_of_mem _ hc)
    exact ⟨hc'.1, by rw [hot c (fun e => hnd.1 (e ▸ hc))]; exact hc'.2⟩
  · obtain ⟨o', ho', hr'⟩ := s.real j q hq
    refine ⟨o', ho', hr'.frame fun hd => hot _ fun e => ?_⟩
    cases o' with
    | dead => exact hd rfl
    | cells c rw => obtain ⟨arr, t, fz, h1, _⟩ := hr'; rw [e, hm.2] at h1; cases h1
    | loop st pending E n params assign body => obtain ⟨l, h1, _⟩ := hr'; rw [e, hm.2] at h1; cases h1
    | mp es => obtain ⟨arr, c, h1, _⟩ := hr'; rw [e, hm.2] at h1; cases h1
    | glob g c => obtain ⟨e1, _, e3, _⟩ := hr'; have hm1 : B.n ≤ b := hm.1; omega

theorem jumpO_code {pend : Option Code} {x : Ex} (hj : jumpO pend = some x) : (pend = none ∧ x = .normal) ∨ (pend = some .ret ∧ x = .ret) ∨ (∃ id, pend = some (.exit id) ∧ x = .exit id) := by
  unfold jumpO at hj
  split at hj
  · cases hj; exact .inl ⟨rfl, rfl⟩
  · cases hj; exact .inr (.inl ⟨rfl, rfl⟩)
  · cases hj; exact .inr (.inr ⟨_, rfl, rfl⟩)
  · cases hj

theorem evCallV_mem {f v : Value} {g : FuncId} {as : List Value} (hl : evCallV f [v] = some (.call g as)) : v ∈ as := by
  unfold evCallV at hl
  split at hl
  · cases hl; simp
  · cases hl
  · cases hl
theorem evCallV_call {f u : Value} {args us : List Value} {g : FuncId} {as : List Value} (hl : evCallV f args = some (.call g as)) (hr : VRel m f u) (ha : VRels m args us) :
    ∃ x' y', u = .func (.func g) x' y' ∧ VRels m as (x'.toList ++ us ++ y'.toList) := by
  unfold evCallV at hl
  split at hl
  · cases hl
    obtain ⟨x', y', rfl, h1, h2⟩ := hr.func_inv
    exact ⟨x', y', rfl, (h1.append ha).append h2⟩
  · cases hl
  · cases hl

theorem evRange_snd (hC : CSnd P C) {g : Operand} {ps : Array Tmp} {assign body : Code} {x : Ex} (ho : evRange C n E h g ps assign body = some (x, E', h')) (s : Sim B w0 m h w) (he : EnvRel m E a.tmps)
    (hs : a.tmps.size = n) : (Code.rangeFunc g ps assign body).wpIn (Fr none) nn P (Post B w0 m h n a.defers x E' h') a w := by
  unfold evRange at ho
  split at ho
  · rename_i gv hgv
    split at ho
    · rename_i f args hcv
      split at ho
      · rename_i r h2 hcall
        have hfin : ∃ st pend E0 n0 ps0 as0 bd0, h2[h.length]? = some (.loop st pend E0 n0 ps0 as0 bd0) ∧ st ≠ .busy ∧ jumpO pend = some x ∧ E' = E ∧ h' = h2.set h.length .dead := by
          split at ho
          · rename_i pend _ _ _ _ _ h2o
            split at ho
            · rename_i x' hj; cases ho; exact ⟨_, _, _, _, _, _, _, h2o, by simp, hj, rfl, rfl⟩
            · cases ho
          · rename_i pend _ _ _ _ _ h2o
            split at ho
            · rename_i x' hj; cases ho; exact ⟨_, _, _, _, _, _, _, h2o, by simp, hj, rfl, rfl⟩
            · cases ho
          · cases ho
        obtain ⟨st, pend, E0, n0, ps0, as0, bd0, h2o, hst, hj, rfl, rfl⟩ := hfin
        obtain ⟨⟨fn, c, hf, hb, hnm⟩, hcalls⟩ := (hC.fn hcall).resolve_right fun ⟨_, ⟨t, x, e⟩, _⟩ => by
          have := evCallV_mem hcv
          rw [e] at this
          cases this with
          | tail _ h => cases h
        refine wpIn_rangeFunc fun fnid _ => ?_
        -- the record
        have s1 := s.mark
        have s2 := s1.new (.loop { state := .ready, pending := none, fn := fnid, tmps := a.tmps, params := ps, assign, body, defers := w.heap.size }) (.loop .ready none E' n ps assign body) ⟨w.heap.size + 1, 0, 0⟩ (by simp) (by
          refine ⟨_, by simpa using heap_alloc_new (w.alloc (.deferred (some []))) _, rfl, rfl, rfl, rfl, rfl, hs, he.mono (Pl.put_le (s.fresh (Nat.le_refl _))), ?_⟩
          have := s.size
          simp only [Bs.add]; omega)
        have hle := Pl.put_le (p := (⟨w.heap.size + 1, 0, 0⟩ : Place)) (s.fresh (Nat.le_refl _))
        have hgr := (evalO_rel he hgv).mono hle
        obtain ⟨x', y', hu, has⟩ := evCallV_call hcv hgr (VRels.cons (.yield h.length _ (Pl.put_same _ _ _)) (VRels.nil _))
        obtain ⟨W, hW⟩ : ∃ W, W = (w.alloc (.deferred (some []))).alloc (.loop { state := .ready, pending := none, fn := fnid, tmps := a.tmps, params := ps, assign, body, defers := w.heap.size }) := ⟨_, rfl⟩
        rw [← hW] at s2
        refine ⟨w.heap.size + 1, [markOf w.heap.size], W, ⟨.fn (.func f) y', x' ++ #[Value.func (.yield (w.heap.size + 1)) #[] #[]]⟩, W, f, (x'.toList ++ [Value.func (.yield (w.heap.size + 1)) #[] #[]] ++ y'.toList).toArray, W,
          by rw [hW]; exact run_enterLoop_outer fnid a.tmps ps assign body, ?_, fun _ _ => trivial, ?_, Fr_depth none nn, ?_⟩
        · simp only [resolve, List.map_toArray, List.map_cons, List.map_nil, hu]
          rfl
        · have e : (x'.toList ++ [Value.func (.yield (w.heap.size + 1)) #[] #[]] ++ y'.toList).toArray = x' ++ #[Value.func (.yield (w.heap.size + 1)) #[] #[]] ++ y' := by apply Array.ext'; simp
          rw [e]
          exact Go.MuLone.run_callFunc_enter hf hnm hb _ _
        · refine Fr_calls ((hcalls _ w0 _ _ _ s2 has).mono ?_)
          rintro e w' ⟨m', u, k1, k2, k3, rfl⟩
          have hp := k1.le _ _ (Pl.put_same m h.length ⟨w.heap.size + 1, 0, 0⟩)
          obtain ⟨l, hl, hl1, hl2, _⟩ := k2.loop hp h2o
          refine ⟨l.pending, _, run_endLoop hl (by rw [hl1]; exact hst), ?_⟩
          have s3 := k2.putLoop hp h2o hl (o := .dead) (l' := { l with state := .exhausted }) (.inl rfl)
          have hst2 : Stp m h m' (h2.set h.length .dead) := ((Stp.put _ (.loop .ready none E' n ps assign body) (s.fresh (Nat.le_refl _))).trans k1).at rfl (by simp)
          have hle2 := hst2.le
          have hpost : ∀ x, Post B w0 m h n a.defers x E' (h2.set h.length .dead) (exOf x) { a with defers := [markOf w.heap.size] ++ a.defers } (w'.putObj (w.heap.size + 1) (.loop { l with state := .exhausted })) := fun x =>
            ⟨rfl, [w.heap.size], m', hst2, s3, he.mono hle2, hs, rfl⟩
          have key : ∀ q, q = pend → (match q with
              | none => Post B w0 m h n a.defers x E' (h2.set h.length .dead) .normal { a with defers := [markOf w.heap.size] ++ a.defers } (w'.putObj (w.heap.size + 1) (.loop { l with state := .exhausted }))
              | some c => c.wpIn (Fr none) nn P (Post B w0 m h n a.defers x E' (h2.set h.length .dead)) { a with defers := [markOf w.heap.size] ++ a.defers } (w'.putObj (w.heap.size + 1) (.loop { l with state := .exhausted }))) := by
            intro q hq
            rcases jumpO_code hj with ⟨e1, rfl⟩ | ⟨e1, rfl⟩ | ⟨id, e1, rfl⟩
            · rw [hq, e1]; exact hpost .normal
            · rw [hq, e1]; exact wpIn_ret (hpost .ret)
            · rw [hq, e1]; exact wpIn_exit (hpost (.exit id))
          exact key _ hl2
      · cases ho
    · cases ho
  · cases ho

/-- A scope through which nothing jumps. -/
def noGoto (Q : Exit → Act → World → Prop) : Exit → Act → World → Prop
  | .goto _, _, _ => False
  | e, a, w => Q e a w
theorem wpIn_scope {F : Fence} {n : Nat} {Q : Exit → Act → World → Prop} {a : Act} {w : World} {c : Code} (h : c.wpIn F n P (noGoto Q) a w) : (Code.scope c).wpIn F n P Q a w := by
  intro b k cs hro hb hr
  have h0 : (lone (b.atR a (.code (.scope c) :: k)) cs w).fenced P F := fenced_calm hb hr rfl
  have s1 : step P (lone (b.atR a (.code (.scope c) :: k)) cs w) = .next (lone (b.atR a (.code c :: .inScope c :: k)) cs w) := step_lone_go (by simp [stepG, stepG.exec, Frame.atR])
  obtain ⟨e, a₁, w₁, hq, harr⟩ := h b (.inScope c :: k) cs hro hb hr
  have s2 : step P (lone (b.atR a₁ (.inScope c :: k)) cs w₁) = .next (lone (b.atR a₁ k) cs w₁) := step_lone_go (by simp [stepG, stepG.exec, Frame.atR])
  cases e with
  | normal => exact ⟨.normal, a₁, w₁, hq, .head h0 s1 (StepsIn.trans harr (.one (fenced_calm hb hr rfl) s2))⟩
  | exit id =>
    have hx : exitTo id (.inScope c :: k) = exitTo id k := by simp [exitTo]
    exact ⟨.exit id, a₁, w₁, hq, fun k' hk => .head h0 s1 (harr.1 k' (by rw [hx]; exact hk)), fun hr' hk => let ⟨k₁, h1, h2⟩ := harr.2 hr' (by rw [hx]; exact hk); ⟨k₁, h1, .head h0 s1 h2⟩⟩
  | goto l => exact hq.elim
  | ret => exact ⟨_, a₁, w₁, hq, .of_steps (.one h0 s1) harr⟩
  | panic ch => exact ⟨_, a₁, w₁, hq, .of_steps (.one h0 s1) harr⟩
  | outgrown => exact ⟨_, a₁, w₁, hq, .of_steps (.one h0 s1) harr⟩

theorem evCode_snd (hC : CSnd P C) (hmo : P.follows .mixedOrders = true) {k : Nat} : ∀ (c : Code) {E : Env} {h : Hp} {x : Ex} {E' : Env} {h' : Hp}, evCode P C k n rd.isSome c E h = some (x, E', h') →
    ∀ {B : Bs} {m : Pl} {a : Act} {w : World}, Sim B w0 m h w → EnvRel m E a.tmps → a.tmps.size = n → c.wpIn (Fr rd) nn P (Post B w0 m h n a.defers x E' h') a w := by
  intro c
  induction c with
  | skip => intro E h x E' h' ho B m a w s he hs; simp only [evCode] at ho; cases ho; exact wpIn_skip (Post.here s he hs .normal)
  | label l => intro E h x E' h' ho B m a w s he hs; simp only [evCode] at ho; cases ho; exact wpIn_label (Post.here s he hs .normal)
  | ret => intro E h x E' h' ho B m a w s he hs; simp only [evCode] at ho; cases ho; exact wpIn_ret (Post.here s he hs .ret)
  | exit id => intro E h x E' h' ho B m a w s he hs; simp only [evCode] at ho; cases ho; exact wpIn_exit (Post.here s he hs (.exit id))
  | seq c d ihc ihd =>
    intro E h x E' h' ho B m a w s he hs
    simp only [evCode] at ho
    refine wpIn_seq ?_
    split at ho
    · rename_i E1 h1 hc1
      refine wpIn_mono (ihc hc1 s he hs) ?_
      rintro e a' w' ⟨rfl, ks, m1, k1, k2, k3, k4, k5⟩
      show d.wpIn (Fr rd) nn P _ a' w'
      refine wpIn_mono (ihd ho k2 k3 k4) fun e a2 w2 hp => ?_
      rw [k5] at hp
      exact Post.trans k1 hp
    · rename_i hne
      refine wpIn_mono (ihc ho s he hs) ?_
      rintro e a' w' ⟨rfl, hp⟩
      cases x with
      | normal => exact absurd ho (hne _ _)
      | ret => exact ⟨rfl, hp⟩
      | exit id => exact ⟨rfl, hp⟩
  | cond q c d ihc ihd =>
    intro E h x E' h' ho B m a w s he hs
    simp only [evCode] at ho
    split at ho
    · rename_i hq
      have hv : a.eval q = .bool true := by have := evalO_rel he hq; generalize a.eval q = z at this; cases this; rfl
      exact wpIn_cond_true hv (ihc ho s he hs)
    · rename_i hq
      have hv : a.eval q = .bool false := by have := evalO_rel he hq; generalize a.eval q = z at this; cases this; rfl
      exact wpIn_cond_false hv (ihd ho s he hs)
    · cases ho
  | block id c ih =>
    intro E h x E' h' ho B m a w s he hs
    simp only [evCode] at ho
    refine wpIn_block ?_
    split at ho
    · rename_i j E1 h1 hc1
      refine wpIn_mono (ih hc1 s he hs) ?_
      rintro e a' w' ⟨rfl, hp⟩
      split at ho
      · rename_i hji
        cases ho
        have : j = id := Nat.eq_of_beq_eq_true hji
        subst this
        simp only [exOf, Exit.inBlock, if_true]
        exact ⟨rfl, hp⟩
      · rename_i hji
        cases ho
        have : j ≠ id := fun e => by subst e; rw [Nat.beq_refl] at hji; cases hji
        simp only [exOf, Exit.inBlock, if_neg this]
        exact ⟨rfl, hp⟩
    · rename_i hne
      refine wpIn_mono (ih ho s he hs) ?_
      rintro e a' w' ⟨rfl, hp⟩
      cases x with
      | normal => exact ⟨rfl, hp⟩
      | ret => exact ⟨rfl, hp⟩
      | exit j => exact absurd ho (hne _ _ _)
  | loop c ih =>
    intro E h x E' h' ho B m a w s he hs
    simp only [evCode] at ho
    refine wpIn_loop_rounds k ?_
    have key : ∀ (j : Nat) {E : Env} {h : Hp}, evLoop (evCode P C k n rd.isSome c) j E h = some (x, E', h') → ∀ {B : Bs} {m : Pl} {a : Act} {w : World}, Sim B w0 m h w → EnvRel m E a.tmps → a.tmps.size = n →
        Code.roundsIn (Fr rd) nn P c (Post B w0 m h n a.defers x E' h') j a w := by
      intro j
      induction j with
      | zero => intro E h ho; simp [evLoop] at ho
      | succ j ihj =>
        intro E h ho B m a w s he hs
        simp only [evLoop] at ho
        rw [roundsIn_succ]
        split at ho
        · rename_i E1 h1 hc1
          refine wpIn_mono (ih hc1 s he hs) ?_
          rintro e a' w' ⟨rfl, ks, m1, k1, k2, k3, k4, k5⟩
          have := ihj ho k2 k3 k4
          rw [k5] at this
          have up : ∀ (j : Nat) (a' : Act) (w' : World), Code.roundsIn (Fr rd) nn P c (Post (B.add ks) w0 m1 h1 n (ks.map markOf ++ a.defers) x E' h') j a' w' → Code.roundsIn (Fr rd) nn P c (Post B w0 m h n a.defers x E' h') j a' w' := by
            intro j
            induction j with
            | zero => intro a' w' h; exact h
            | succ j ihu =>
              intro a' w' h
              rw [roundsIn_succ] at h ⊢
              refine wpIn_mono h fun e a2 w2 hq => ?_
              cases e with
              | normal => exact ihu _ _ hq
              | ret => exact Post.trans k1 hq
              | exit id => exact Post.trans k1 hq
              | goto l => exact Post.trans k1 hq
              | panic ch => exact Post.trans k1 hq
              | outgrown => exact Post.trans k1 hq
          exact up j a' w' this
        · rename_i hne
          refine wpIn_mono (ih ho s he hs) ?_
          rintro e a' w' ⟨rfl, hp⟩
          cases x with
          | normal => exact absurd ho (hne _ _)
          | ret => exact ⟨rfl, hp⟩
          | exit id => exact ⟨rfl, hp⟩
    exact key k ho s he hs
  | region id ops dr =>
    intro E h x E' h' ho B m a w s he hs
    cases dr with
    | true =>
      simp only [evCode] at ho
      split at ho
      · rename_i E1 h1 hops
        cases ho
        refine evDraw_snd hC hmo hops s he hs fun m' a' w' k1 k2 k3 k4 k5 => ?_
        exact ⟨rfl, [], m', k1, k2, k3, k4, by simpa using k5⟩
      · cases ho
    | false =>
      simp only [evCode] at ho
      split at ho
      · rename_i E1 h1 hops
        cases ho
        refine wpIn_region_list (evOps_snd hC ops.toList hops s he hs fun m' a' w' k1 k2 k3 k4 k5 => ?_)
        exact ⟨rfl, [], m', k1, k2, k3, k4, by simpa using k5⟩
      · cases ho
  | rangeFunc g ps assign body _ _ =>
    intro E h x E' h' ho B m a w s he hs
    simp only [evCode] at ho
    split at ho
    · rename_i hrd
      have : rd = none := by simpa using hrd
      subst this
      exact evRange_snd hC ho s he hs
    · cases ho
  | scope c ih =>
    intro E h x E' h' ho B m a w s he hs
    simp only [evCode] at ho
    refine wpIn_scope (wpIn_mono (ih ho s he hs) ?_)
    rintro e a' w' ⟨rfl, hp⟩
    cases x <;> exact ⟨rfl, hp⟩
  | goto l => intro E h x E' h' ho; simp only [evCode] at ho; cases ho
  | refuse why => intro E h x E' h' ho; simp only [evCode] at ho; cases ho

end Go.Ev
