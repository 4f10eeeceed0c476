import Derived.Test.YtalfgifleahabaaGreatDoorSbEvPan
import Derived.Test.YtalfgifleahabaaGreatDoorSbEvCallSnd
import Derived.Test.YtalfgifleahabaaGreatDoorSbEvEqvSnd
namespace Go.Ev
open Go.RowKit

variable {P : Program} {C : CallF} {D : PanF}
variable {B : Bs} {w0 : World} {m : Pl} {h h' : Hp} {w : World} {E E' : Env} {a : Act} {n nn : Nat}

/-- A closure that was deferred. -/
def DRel (m : Pl) (x : Value × List Value) (d : Deferred) : Prop :=
  ∃ (f : FuncId) (p q : Array Value) (us : List Value) (z : Array Value), x.1 = .func (.func f) p q ∧ d = { target := .fn (.func f) z, args := us.toArray } ∧ VRels m (p.toList ++ x.2) us ∧ VRels m q.toList z.toList
def DRels (m : Pl) : List (Value × List Value) → List Deferred → Prop
  | [], l => l = []
  | x :: ds, l => ∃ d l', l = d :: l' ∧ DRel m x d ∧ DRels m ds l'
theorem DRel.mono {m m' : Pl} (hm : m.le m') {x : Value × List Value} {d : Deferred} : DRel m x d → DRel m' x d :=
  fun ⟨f, p, q, us, z, h1, h2, h3, h4⟩ => ⟨f, p, q, us, z, h1, h2, h3.mono hm, h4.mono hm⟩
theorem DRels.mono {m m' : Pl} (hm : m.le m') : ∀ {ds : List (Value × List Value)} {l : List Deferred}, DRels m ds l → DRels m' ds l
  | [], _, h => h
  | _ :: _, _, ⟨d, l', e, h1, h2⟩ => ⟨d, l', e, h1.mono hm, DRels.mono hm h2⟩

/-- What a call that panics comes to. -/
def Pans (B : Bs) (w0 : World) (m : Pl) (h : Hp) (v : Value) (h' : Hp) : Ending → World → Prop :=
  fun e w' => ∃ m' u, Stp m h m' h' ∧ Sim B w0 m' h' w' ∧ VRel m' v u ∧ e = .panicked [{ v := u, recovered := false }]
structure PSnd (P : Program) (D : PanF) : Prop where
  fn : ∀ {f args h v h'}, D f args h = some (v, h') → (∃ fn c, P.funcs[f]? = some fn ∧ fn.body = some c ∧ (fn.name == "runtime.NumGoroutine") = false) ∧
    ∀ B w0 m w us, Sim B w0 m h w → VRels m args us → Calls P f us.toArray w (Pans B w0 m h v h')

/-- What such code comes to. -/
def PX.Post (B : Bs) (w0 : World) (m : Pl) (h : Hp) (n : Nat) : PX → Exit → Act → World → Prop
  | .go x E' h' ds, e, a', w' => e = exOf x ∧ ∃ m', Stp m h m' h' ∧ Sim B w0 m' h' w' ∧ EnvRel m' E' a'.tmps ∧ a'.tmps.size = n ∧ DRels m' ds a'.defers
  | .pan v E' h' ds, e, a', w' => ∃ m' u, e = .panic [{ v := u, recovered := false }] ∧ Stp m h m' h' ∧ Sim B w0 m' h' w' ∧ VRel m' v u ∧ EnvRel m' E' a'.tmps ∧ a'.tmps.size = n ∧ DRels m' ds a'.defers
theorem PX.Post.trans {m1 : Pl} {h1 : Hp} {r : PX} {e : Exit} {a' : Act} {w' : World} (k : Stp m h m1 h1) (p : r.Post B w0 m1 h1 n e a' w') : r.Post B w0 m h n e a' w' := by
  cases r with
  | go x E' h' ds => obtain ⟨e1, m', q1, q2⟩ := p; exact ⟨e1, m', k.trans q1, q2⟩
  | pan v E' h' ds => obtain ⟨m', u, e1, q1, q2⟩ := p; exact ⟨m', u, e1, k.trans q1, q2⟩

theorem cleanE_look : ∀ (E : Env) (b : Nat) (t : Nat) (v : Value), look (cleanE b E) t = some v → Nat.testBit b t = false ∧ look E t = some v
  | [], b, t, v, hl => by simp [cleanE, look] at hl
  | (k, x) :: E, b, t, v, hl => by
    simp only [cleanE] at hl
    split at hl
    · rename_i hb
      obtain ⟨h1, h2⟩ := cleanE_look E b t v hl
      refine ⟨h1, ?_⟩
      rw [look_cons]
      split
      · rename_i e; subst e; rw [hb] at h1; cases h1
      · exact h2
    · rename_i hb
      rw [look_cons] at hl
      split at hl
      · rename_i e; subst e; cases hl
        exact ⟨hb, by rw [look_cons, if_pos rfl]⟩
      · rename_i e
        obtain ⟨h1, h2⟩ := cleanE_look E _ t v hl
        have h1 : (b ||| 1 <<< k).testBit t = false := h1
        rw [Nat.testBit_or, Bool.or_eq_false_iff] at h1
        exact ⟨h1.1, by rw [look_cons, if_neg e]; exact h2⟩

theorem EnvRel.clean {tmps : Array Value} (he : EnvRel m E tmps) : EnvRel m (cleanE 0 E) tmps :=
  fun t v hv => he t v (cleanE_look E 0 t v hv).2

theorem findG_snd : ∀ (h : Hp) (g i j : Nat), findG h g i = some j → i ≤ j ∧ ∃ c, h[j - i]? = some (.glob g c)
  | [], g, i, j, hf => by simp [findG] at hf
  | o :: r, g, i, j, hf => by
    have tail : findG r g (i + 1) = some j → i ≤ j ∧ ∃ c, (o :: r)[j - i]? = some (.glob g c) := fun hf => by
      obtain ⟨h1, c, h2⟩ := findG_snd r g (i + 1) j hf
      refine ⟨by omega, c, ?_⟩
      rw [show j - i = (j - (i + 1)) + 1 by omega]
      simpa using h2
    cases o with
    | glob k c =>
      simp only [findG] at hf
      split at hf
      · rename_i hb
        cases hf
        have : k = g := Nat.eq_of_beq_eq_true hb
        subst this
        exact ⟨Nat.le_refl _, c, by simp⟩
      · exact tail hf
    | dead => exact tail hf
    | cells => exact tail hf
    | loop => exact tail hf
    | mp => exact tail hf

theorem globO_snd (s : Sim B w0 m h w) (he : EnvRel m E a.tmps) {o : Oper} {v : Value} (ho : globO P h E o = some v) :
    (∀ c, o.op ≠ .defer c) ∧ ∃ u, VRel m v u ∧ (execOp a.eval o).run P w = .ok (.value u) w := by
  unfold globO at ho
  split at ho
  · rename_i t g ix hop
    refine And.intro (fun c hc => by rw [hop] at hc; cases hc) ?_
    split at ho
    · rename_i vi i h1 h2
      obtain ⟨_, c, h3⟩ := findG_snd h g 0 i h2
      rw [Nat.sub_zero] at h3
      obtain ⟨p, hp⟩ := s.gl i g c h3
      obtain ⟨o', ho', hr⟩ := s.real i p hp
      rw [h3] at ho'
      cases ho'
      obtain ⟨e1, e2, _⟩ := hr
      have hpt : VRel m (.pointer (some ⟨i, 0, none⟩)) (a.eval (.global g)) := by
        have := VRel.ptr (m := m) i 0 p hp
        rw [e1, e2] at this
        exact this
      obtain ⟨r, k1, k2⟩ := evIndexAddr_snd ho hpt (evalO_rel he h1) w
      refine ⟨r, k2, ?_⟩
      simp [execOp, hop, k1]
    · cases ho
  · rename_i t x hop
    refine And.intro (fun c hc => by rw [hop] at hc; cases hc) ?_
    split at ho
    · rename_i va h1
      have hx := evalO_rel he h1
      unfold evLoadG at ho
      split at ho
      · rename_i i off
        split at ho
        · rename_i g c h3
          split at ho
          · rename_i ha
            obtain ⟨p, hp, hu⟩ := hx.ptr_inv
            obtain ⟨o', ho', hr⟩ := s.real i p hp
            rw [h3] at ho'
            cases ho'
            obtain ⟨e1, e2, _, arr, ty, fz, hw, hsz, hcs⟩ := hr
            obtain ⟨u, hu1, hu2⟩ := hcs.get ho
            refine ⟨u, hu2, ?_⟩
            have hlt : off < c.length := (List.getElem?_eq_some_iff.1 ho).1
            have hget : arr[off]? = some u := by
              rw [List.getElem?_take_of_lt hlt] at hu1
              simpa using hu1
            simp only [execOp, hop, hu]
            have := aggSize_none ha
            simp [Instr.loadAt, Instr.sureAddr, asAddr, loadVar, this, e1, e2, hw, hget, World.cell?]
          · cases ho
        · cases ho
      · cases ho
    · cases ho
  · cases ho

theorem evXOps_snd (hC : CSnd P C) (hD : PSnd P D) {ops : Array Oper} {Q : Exit → Act → World → Prop} {r : PX} : ∀ (l : List Oper) {E : Env} {h : Hp} {ds : List (Value × List Value)} {m : Pl} {a : Act} {w : World}, evXOps P C D n ops l E h ds = some r →
    Sim B w0 m h w → EnvRel m E a.tmps → a.tmps.size = n → DRels m ds a.defers → (∀ e a' w', r.Post B w0 m h n e a' w' → Q e a' w') → wpListIn (Fr none) nn P ops Q l a w
  | [], E, h, ds, m, a, w, ho, s, he, hs, hd, hk => by
    simp only [evXOps] at ho; cases ho
    exact hk _ a w ⟨rfl, m, .refl _ _, s, he, hs, hd⟩
  | o :: l, E, h, ds, m, a, w, ho, s, he, hs, hd, hk => by
    simp only [evXOps] at ho
    unfold wpListIn
    split at ho
    · rename_i hw
      rw [if_neg (by rw [wantedO_rel he hw]; simp)]
      refine ⟨fun _ _ => trivial, ?_⟩
      split at ho
      · rename_i E1 hput
        obtain ⟨q1, q2, q3⟩ := putE_rel he hs hput (VRel.refl m undef rfl)
        exact evXOps_snd hC hD l ho s q1 q2 (by rw [q3]; exact hd) hk
      · cases ho
    · cases ho
    · rename_i hw
      rw [if_pos (wantedO_rel he hw)]
      split at ho
      · -- panic
        rename_i x hx
        have hop : o.op = .panic x := by unfold panO at hx; split at hx <;> cases hx; assumption
        split at ho
        · rename_i t v hv
          cases ho
          obtain ⟨y, hu, hy⟩ := (evalO_rel he hv).iface_inv
          refine ⟨fun _ _ => trivial, ?_⟩
          have hsem : (o.semAt (Fr none).round a.eval).run P w = .halt (.panic (.iface t y)) w := by
            show (o.semAt none a.eval).run P w = _
            rw [Oper.semAt_none]
            simp [execOp, hop, hu, Instr.panic, goPanic]
          rw [hsem]
          show Q _ a w
          exact hk _ a w ⟨m, _, rfl, .refl _ _, s, VRel.iface t _ _ hy, he, hs, hd⟩
        · cases ho
      · split at ho
        · -- defer
          rename_i c hx
          have hop : o.op = .defer c := by unfold deferO at hx; split at hx <;> cases hx; assumption
          split at ho
          · rename_i f hcal
            split at ho
            · rename_i g p q al hf hal
              split at ho
              · rename_i E1 hput
                obtain ⟨x', y', hu, v1, v2⟩ := (evalO_rel he hf).func_inv
                have v3 := evalL_rel he hal
                obtain ⟨d, hdd⟩ : ∃ d : Deferred, d = { target := .fn (.func g) y', args := x' ++ c.args.map a.eval } := ⟨_, rfl⟩
                refine ⟨fun _ _ => trivial, ?_⟩
                have hsem : (o.semAt (Fr none).round a.eval).run P w = .ok (.defer d) w := by
                  show (o.semAt none a.eval).run P w = _
                  rw [Oper.semAt_none]
                  simp [execOp, hop, resolve, hcal, hu, Deferred.ofValue, hdd]
                rw [hsem, Oper.uponIn_defer]
                obtain ⟨q1, q2, q3⟩ := putE_rel (a := { a with defers := d :: a.defers }) he hs hput (VRel.refl m undef rfl)
                refine evXOps_snd hC hD l ho s q1 q2 ?_ hk
                rw [q3]
                refine ⟨d, a.defers, rfl, ⟨g, p, q, x'.toList ++ c.args.toList.map a.eval, y', rfl, ?_, v1.append v3, v2⟩, hd⟩
                rw [hdd]
                congr 1
                apply Array.ext'
                simp
              · cases ho
            · cases ho
          · cases ho
        · split at ho
          · rename_i v h1 hst
            split at ho
            · rename_i E1 hput
              refine evStep_snd hC s he hst fun m1 u w1 k1 k2 k3 => ?_
              obtain ⟨q1, q2, q3⟩ := putE_rel (he.mono k1.le) hs hput k3
              exact evXOps_snd hC hD l ho k2 q1 q2 (by rw [q3]; exact hd.mono k1.le) fun e a' w' hp => hk e a' w' (hp.trans k1)
            · cases ho
          · split at ho
            · rename_i v hgl
              split at ho
              · rename_i E1 hput
                obtain ⟨hnd, u, k1, k2⟩ := globO_snd s he hgl
                refine ⟨fun _ _ => trivial, ?_⟩
                rw [Oper.semAt_eq _ _ _ hnd, k2, Oper.uponIn_value]
                obtain ⟨q1, q2, q3⟩ := putE_rel he hs hput k1
                exact evXOps_snd hC hD l ho s q1 q2 (by rw [q3]; exact hd) hk
              · cases ho
            · split at ho
              · rename_i f args hop
                split at ho
                · rename_i v h1 hpan
                  cases ho
                  obtain ⟨us, hus, hr⟩ := evOp_snd s he hop
                  obtain ⟨⟨fn, c, hf, hb, hnm⟩, hcall⟩ := hD.fn hpan
                  refine ⟨fun _ _ => trivial, ?_⟩
                  rw [Oper.semAt_eq _ _ _ (no_defer hop), hr, Go.MuLone.run_callFunc_enter hf hnm hb, Oper.uponIn_enter]
                  refine ⟨Fr_depth none nn, Fr_calls ((hcall B w0 m w us s hus).mono ?_)⟩
                  rintro e w' ⟨m', u, k1, k2, k3, rfl⟩
                  exact hk _ a w' ⟨m', u, rfl, k1, k2, k3, he.mono k1.le, hs, hd.mono k1.le⟩
                · cases ho
              · cases ho

theorem dropE_look {ops : Array Oper} : ∀ {E : Env} {t : Nat} {v : Value}, look (dropE ops E) t = some v → look E t = some v ∧ ∀ (i : Nat) o, ops[i]? = some o → o.dst ≠ some t
  | [], t, v, hl => by simp [dropE, look] at hl
  | (k, x) :: E, t, v, hl => by
    simp only [dropE] at hl
    split at hl
    · rename_i hb
      obtain ⟨h1, h2⟩ := dropE_look hl
      refine ⟨?_, h2⟩
      rw [look_cons, if_neg ?_]
      · exact h1
      · intro e
        subst e
        obtain ⟨o, ho, hw⟩ := List.any_eq_true.1 hb
        obtain ⟨i, hi⟩ := List.mem_iff_getElem?.1 ho
        exact h2 i o (by simpa using hi) (writes_iff.1 hw)
    · rename_i hb
      rw [look_cons] at hl
      split at hl
      · rename_i e
        subst e
        cases hl
        refine ⟨by rw [look_cons, if_pos rfl], fun i o ho hd => ?_⟩
        have : ops.toList.any (writes · k) = true := List.any_eq_true.2 ⟨o, List.mem_of_getElem? (i := i) (by simpa using ho), writes_iff.2 hd⟩
        rw [hb] at this
        cases this
      · rename_i e
        obtain ⟨h1, h2⟩ := dropE_look hl
        exact ⟨by rw [look_cons, if_neg e]; exact h1, h2⟩

theorem badV_rel {u : Value} : ¬ VRel m (.slice none 1 0) u := fun h => by cases h
theorem isBad_rel {x u : Value} (hb : isBad x = true) : ¬ VRel m x u := by
  intro h
  unfold isBad at hb
  split at hb
  · exact badV_rel h
  · cases h with
    | agg a b hs e => exact badV_rel (e 0 (by simp) (by rw [← hs]; simp))
  · cases h with
    | tuple a b hs e => exact badV_rel (e 0 (by simp) (by rw [← hs]; simp))
  · cases hb

theorem evDrawX_snd (hC : CSnd P C) (hD : PSnd P D) (hmo : P.follows .mixedOrders = true) {id : Nat} {ops : Array Oper} {ds : List (Value × List Value)} {r : PX} (ho : evDrawX P C D n (drawOps ops) E h ds = some r)
    (s : Sim B w0 m h w) (he : EnvRel m E a.tmps) (hs : a.tmps.size = n) (hd : DRels m ds a.defers) : (Code.region id ops true).wpIn (Fr none) nn P (r.Post B w0 m h n) a w := by
  unfold evDrawX at ho
  split at ho
  · rename_i v0 h1 d hfind
    split at ho
    · rename_i E1 h2 hdraw
      split at ho
      · rename_i x hx
        split at ho
        · rename_i hbad
          cases ho
          refine evDraw_sndM hmo ?_ hdraw s he hs ?_
          · intro m1 h3 w1 E3 a1 o v h4 next k1 k2 k3 k4 k5 k6 k7 k8
            have real : evStep P C h3 E3 o = some (v, h4) → o.wpIn (Fr none) nn P a1 w1 next (PX.Post B w0 m h n (.pan v0 (dropE (drawOps ops) E) h1 ds)) := fun hst => evStep_snd hC k2 k3 hst k8
            cases hop : evOp P h3 E3 o with
            | none => unfold evStep at k7; rw [hop] at k7; cases k7
            | some out =>
              cases out with
              | val v' h' => exact real (by unfold evStep at k7 ⊢; rw [hop] at k7 ⊢; exact k7)
              | yield i args =>
                refine real ?_
                unfold evStep at k7 ⊢
                rw [hop] at k7 ⊢
                simp only at k7 ⊢
                unfold fakeC at k7
                split at k7
                · rename_i q hq; cases k7; exact hq
                · cases k7
              | call f args =>
                unfold evStep at k7
                rw [hop] at k7
                simp only at k7
                unfold fakeC at k7
                split at k7
                · rename_i q hq
                  cases k7
                  exact real (by unfold evStep; rw [hop]; exact hq)
                · simp only at k7
                  split at k7
                  · rename_i v1 h5 hpan
                    split at k7
                    · rename_i heq
                      simp only [Bool.and_eq_true] at heq
                      have e1 := eqV_eq 20 _ _ heq.1
                      have e2 := eqHp_eq 20 _ _ heq.2
                      subst e1
                      subst e2
                      obtain ⟨us, hus, hr⟩ := evOp_snd k2 k3 hop
                      obtain ⟨⟨fn, c, hf, hb, hnm⟩, hcall⟩ := hD.fn hpan
                      refine ⟨fun _ _ => trivial, ?_⟩
                      rw [Oper.semAt_eq _ _ _ (no_defer hop), hr, Go.MuLone.run_callFunc_enter hf hnm hb, Oper.uponIn_enter]
                      refine ⟨Fr_depth none nn, Fr_calls ((hcall B w0 m1 w1 us k2 hus).mono ?_)⟩
                      rintro e w' ⟨m', u, q1, q2, q3, rfl⟩
                      refine ⟨m', u, rfl, k1.trans q1, q2, q3, fun t v hv => ?_, k4, ?_⟩
                      · obtain ⟨g1, g2⟩ := dropE_look hv
                        obtain ⟨y, y1, y2⟩ := k6 t v g1 g2
                        exact ⟨y, y1, y2.mono q1.le⟩
                      · rw [k5]; exact hd.mono (k1.trans q1).le
                    · cases k7
                  · cases k7
          · intro m' a' w' k1 k2 k3 k4 k5
            obtain ⟨u, _, hu⟩ := k3 d x hx
            exact absurd hu (isBad_rel hbad)
        · cases ho
      · cases ho
    · cases ho
  · cases ho

theorem evXCode_snd (hC : CSnd P C) (hD : PSnd P D) (hmo : P.follows .mixedOrders = true) {k : Nat} : ∀ (c : Code) {E : Env} {h : Hp} {ds : List (Value × List Value)} {r : PX}, evXCode P C D k n c E h ds = some r →
    ∀ {m : Pl} {a : Act} {w : World}, Sim B w0 m h w → EnvRel m E a.tmps → a.tmps.size = n → DRels m ds a.defers → c.wpIn (Fr none) nn P (r.Post B w0 m h n) a w := by
  intro c
  induction c with
  | skip => intro E h ds r ho m a w s he hs hd; simp only [evXCode] at ho; cases ho; exact wpIn_skip ⟨rfl, m, .refl _ _, s, he, hs, hd⟩
  | label l => intro E h ds r ho m a w s he hs hd; simp only [evXCode] at ho; cases ho; exact wpIn_label ⟨rfl, m, .refl _ _, s, he, hs, hd⟩
  | ret => intro E h ds r ho m a w s he hs hd; simp only [evXCode] at ho; cases ho; exact wpIn_ret ⟨rfl, m, .refl _ _, s, he, hs, hd⟩
  | exit id => intro E h ds r ho m a w s he hs hd; simp only [evXCode] at ho; cases ho; exact wpIn_exit ⟨rfl, m, .refl _ _, s, he, hs, hd⟩
  | seq c d ihc ihd =>
    intro E h ds r ho m a w s he hs hd
    simp only [evXCode] at ho
    refine wpIn_seq ?_
    split at ho
    · rename_i E1 h1 ds1 hc1
      refine wpIn_mono (ihc hc1 s he hs hd) ?_
      rintro e a' w' ⟨rfl, m1, k1, k2, k3, k4, k5⟩
      show d.wpIn (Fr none) nn P _ a' w'
      exact wpIn_mono (ihd ho k2 k3 k4 k5) fun e a2 w2 hp => hp.trans k1
    · rename_i hne
      refine wpIn_mono (ihc ho s he hs hd) fun e a' w' hp => ?_
      cases r with
      | go x E1 h1 ds1 =>
        obtain ⟨rfl, hp⟩ := hp
        cases x with
        | normal => exact absurd ho (hne _ _ _)
        | ret => exact ⟨rfl, hp⟩
        | exit id => exact ⟨rfl, hp⟩
      | pan v E1 h1 ds1 =>
        obtain ⟨m', u, rfl, hp⟩ := hp
        exact ⟨m', u, rfl, hp⟩
  | cond q c d ihc ihd =>
    intro E h ds r ho m a w s he hs hd
    simp only [evXCode] at ho
    split at ho
    · rename_i hq
      have hv : a.eval q = .bool true := by have := evalO_rel he hq; generalize a.eval q = z at this; cases this; rfl
      exact wpIn_cond_true hv (ihc ho s he hs hd)
    · rename_i hq
      have hv : a.eval q = .bool false := by have := evalO_rel he hq; generalize a.eval q = z at this; cases this; rfl
      exact wpIn_cond_false hv (ihd ho s he hs hd)
    · cases ho
  | block id c ih =>
    intro E h ds r ho m a w s he hs hd
    simp only [evXCode] at ho
    refine wpIn_block ?_
    split at ho
    · rename_i j E1 h1 ds1 hc1
      refine wpIn_mono (ih hc1 s he hs hd) ?_
      rintro e a' w' ⟨rfl, hp⟩
      split at ho
      · rename_i hji
        cases ho
        have : j = id := Nat.eq_of_beq_eq_true hji
        subst this
        simp only [exOf, Exit.inBlock, if_true]
        exact ⟨rfl, hp⟩
      · rename_i hji
        cases ho
        have : j ≠ id := fun e => by subst e; rw [Nat.beq_refl] at hji; cases hji
        simp only [exOf, Exit.inBlock, if_neg this]
        exact ⟨rfl, hp⟩
    · rename_i hne
      refine wpIn_mono (ih ho s he hs hd) fun e a' w' hp => ?_
      cases r with
      | go x E1 h1 ds1 =>
        obtain ⟨rfl, hp⟩ := hp
        cases x with
        | normal => exact ⟨rfl, hp⟩
        | ret => exact ⟨rfl, hp⟩
        | exit j => exact absurd ho (hne _ _ _ _)
      | pan v E1 h1 ds1 =>
        obtain ⟨m', u, rfl, hp⟩ := hp
        exact ⟨m', u, rfl, hp⟩
  | scope c ih =>
    intro E h ds r ho m a w s he hs hd
    simp only [evXCode] at ho
    refine wpIn_scope (wpIn_mono (ih ho s he hs hd) fun e a' w' hp => ?_)
    cases r with
    | go x E1 h1 ds1 => obtain ⟨rfl, hp⟩ := hp; cases x <;> exact ⟨rfl, hp⟩
    | pan v E1 h1 ds1 => obtain ⟨m', u, rfl, hp⟩ := hp; exact ⟨m', u, rfl, hp⟩
  | loop c ih =>
    intro E h ds r ho m a w s he hs hd
    simp only [evXCode] at ho
    refine wpIn_loop_rounds k ?_
    have key : ∀ (j : Nat) {E : Env} {h : Hp} {ds : List (Value × List Value)}, evXLoop (evXCode P C D k n c) j E h ds = some r → ∀ {m : Pl} {a : Act} {w : World}, Sim B w0 m h w → EnvRel m E a.tmps → a.tmps.size = n → DRels m ds a.defers →
        Code.roundsIn (Fr none) nn P c (r.Post B w0 m h n) j a w := by
      intro j
      induction j with
      | zero => intro E h ds ho; simp [evXLoop] at ho
      | succ j ihj =>
        intro E h ds ho m a w s he hs hd
        simp only [evXLoop] at ho
        rw [roundsIn_succ]
        split at ho
        · rename_i E1 h1 ds1 hc1
          refine wpIn_mono (ih hc1 s he hs hd) ?_
          rintro e a' w' ⟨rfl, m1, k1, k2, k3, k4, k5⟩
          have := ihj ho k2 k3.clean k4 k5
          have up : ∀ (j : Nat) (a' : Act) (w' : World), Code.roundsIn (Fr none) nn P c (r.Post B w0 m1 h1 n) j a' w' → Code.roundsIn (Fr none) nn P c (r.Post B w0 m h n) j a' w' := by
            intro j
            induction j with
            | zero => intro a' w' h; exact h
            | succ j ihu =>
              intro a' w' h
              rw [roundsIn_succ] at h ⊢
              refine wpIn_mono h fun e a2 w2 hq => ?_
              cases e with
              | normal => exact ihu _ _ hq
              | ret => exact hq.trans k1
              | exit id => exact hq.trans k1
              | goto l => exact hq.trans k1
              | panic ch => exact hq.trans k1
              | outgrown => exact hq.trans k1
          exact up j a' w' this
        · rename_i hne
          refine wpIn_mono (ih ho s he hs hd) fun e a' w' hp => ?_
          cases r with
          | go x E1 h1 ds1 =>
            obtain ⟨rfl, hp⟩ := hp
            cases x with
            | normal => exact absurd ho (hne _ _ _)
            | ret => exact ⟨rfl, hp⟩
            | exit id => exact ⟨rfl, hp⟩
          | pan v E1 h1 ds1 =>
            obtain ⟨m', u, rfl, hp⟩ := hp
            exact ⟨m', u, rfl, hp⟩
    exact key k ho s he hs hd
  | region id ops dr =>
    intro E h ds r ho m a w s he hs hd
    cases dr with
    | true =>
      simp only [evXCode] at ho
      split at ho
      · rename_i E1 h1 hops
        cases ho
        refine evDraw_snd hC hmo hops s he hs fun m' a' w' k1 k2 k3 k4 k5 => ?_
        exact ⟨rfl, m', k1, k2, k3, k4, by rw [k5]; exact hd.mono k1.le⟩
      · exact evDrawX_snd hC hD hmo ho s he hs hd
    | false =>
      simp only [evXCode] at ho
      exact wpIn_region_list (evXOps_snd hC hD ops.toList ho s he hs hd fun e a' w' hp => hp)
  | rangeFunc g ps assign body _ _ => intro E h ds r ho; simp only [evXCode] at ho; cases ho
  | goto l => intro E h ds r ho; simp only [evXCode] at ho; cases ho
  | refuse why => intro E h ds r ho; simp only [evXCode] at ho; cases ho

theorem enterE_rel {us args : List Value} (hus : VRels m args us) (k : Nat) : EnvRel m (enterE 0 args) (us.toArray ++ Array.replicate k undef) := by
  intro t v hv
  obtain ⟨_, h2⟩ := enterE_look args 0 t v hv
  obtain ⟨u, hu, hur⟩ := hus.get h2
  have ht : t < us.length := (List.getElem?_eq_some_iff.1 (by simpa using hu)).1
  refine ⟨u, ?_, hur⟩
  rw [Array.getElem?_append_left (by simpa using ht)]
  simpa using hu

end Go.Ev
