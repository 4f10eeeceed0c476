import Derived.Test.YtalfgifleahabaaGreatDoorSbEvCodeSnd
import Derived.Laws.Externs
namespace Go.Ev
open Go.RowKit

variable {P : Program} {C : CallF}
variable {B : Bs} {w0 : World} {m : Pl} {h h' : Hp} {w : World} {E E' : Env} {a : Act} {n nn : Nat} {rd : Option Nat}

/-- No function bears the one name that the machine treats by itself. -/
def NamesOk (P : Program) : Prop := ∀ (f : Nat) (fn : Func), P.funcs[f]? = some fn → (fn.name == "runtime.NumGoroutine") = false

theorem enterE_look : ∀ (l : List Value) (i : Nat) (t : Nat) (v : Value), look (enterE i l) t = some v → i ≤ t ∧ l[t - i]? = some v
  | [], i, t, v, hl => by simp [enterE, look] at hl
  | x :: l, i, t, v, hl => by
    simp only [enterE] at hl
    rw [look_cons] at hl
    split at hl
    · rename_i e; subst e; cases hl; exact ⟨Nat.le_refl _, by simp⟩
    · rename_i e
      obtain ⟨h1, h2⟩ := enterE_look l (i + 1) t v hl
      refine ⟨by omega, ?_⟩
      rw [show t - i = (t - (i + 1)) + 1 by omega]
      simpa using h2

/-- A result variable, read. -/
def resF (tmps : Array Value) : ResultVar → Sem Value
  | .tmp t => pure (tmps.getD t undef)
  | .cell q t => do loadVar t (← asAddr (tmps.getD q undef))

theorem results_eq (fn : Func) (tmps : Array Value) : results fn tmps = (do
    let vs ← fn.results.mapM (resF tmps)
    pure (if h : vs.size = 1 then vs[0] else .tuple vs)) := rfl

theorem evResult_snd (s : Sim B w0 m h w) (he : EnvRel m E a.tmps) {r : ResultVar} {v : Value} (hr : evResult P E h r = some v) :
    ∃ u, VRel m v u ∧ (resF a.tmps r).run P w = .ok u w := by
  cases r with
  | tmp t =>
    obtain ⟨u, hu, hur⟩ := he t v hr
    exact ⟨u, hur, by simp [resF, Array.getD_eq_getD_getElem?, hu]⟩
  | cell q t =>
    simp only [evResult] at hr
    split at hr
    · rename_i x hx
      obtain ⟨u, hu, hur⟩ := he q x hx
      obtain ⟨y, hy, hyr⟩ := evLoad_snd s hr hur
      refine ⟨y, hyr, ?_⟩
      have hd : a.tmps.getD q undef = u := by simp [Array.getD_eq_getD_getElem?, hu]
      simp only [resF, hd]
      unfold evLoad at hr
      split at hr
      · obtain ⟨p, hp, rfl⟩ := hur.ptr_inv
        simpa [Instr.loadAt, Instr.sureAddr, asAddr] using hy
      · cases hr
    · cases hr

theorem evResultL_snd (s : Sim B w0 m h w) (he : EnvRel m E a.tmps) : ∀ {l : List ResultVar} {vs : List Value}, evResultL P E h l = some vs →
    ∃ us : List Value, VRels m vs us ∧ (l.mapM (resF a.tmps)).run P w = .ok us w
  | [], vs, hr => by simp only [evResultL] at hr; cases hr; exact ⟨[], VRels.nil m, by simp⟩
  | r :: l, vs, hr => by
    simp only [evResultL] at hr
    split at hr
    · rename_i v vs' h1 h2
      cases hr
      obtain ⟨u, hu, hrun⟩ := evResult_snd s he h1
      obtain ⟨us, hus, hruns⟩ := evResultL_snd s he h2
      refine ⟨u :: us, .cons hu hus, ?_⟩
      rw [List.mapM_cons]
      simp [hrun, hruns]
    · cases hr

theorem evResults_snd (s : Sim B w0 m h w) (he : EnvRel m E a.tmps) {fn : Func} {v : Value} (hr : evResults P fn E h = some v) : ∃ u, VRel m v u ∧ (results fn a.tmps).run P w = .ok u w := by
  unfold evResults at hr
  have key : ∀ {vs : List Value}, evResultL P E h fn.results.toList = some vs → ∃ us : List Value, VRels m vs us ∧ (results fn a.tmps).run P w = .ok (if h : us.toArray.size = 1 then us.toArray[0] else .tuple us.toArray) w := by
    intro vs hvs
    obtain ⟨us, hus, hrun⟩ := evResultL_snd s he hvs
    refine ⟨us, hus, ?_⟩
    rw [results_eq, Array.mapM_eq_mapM_toList, Sem.run_bind, Sem.run_map]
    rw [hrun]
    rfl
  split at hr
  · rename_i x hx
    cases hr
    obtain ⟨us, hus, hrun⟩ := key hx
    match us, hus with
    | [u], hus =>
      refine ⟨u, hus.2 0 _ _ rfl rfl, ?_⟩
      rw [hrun]
      simp
    | [], hus => exact absurd hus.1 (by simp)
    | _ :: _ :: _, hus => exact absurd hus.1 (by simp)
  · rename_i vs hne hx
    cases hr
    obtain ⟨us, hus, hrun⟩ := key hx
    refine ⟨.tuple us.toArray, VRel.tuple_l hus, ?_⟩
    rw [hrun]
    have hl : us.toArray.size ≠ 1 := by
      intro e
      have h1 : vs.length = 1 := by have := hus.1; simp at e; omega
      match vs, h1 with
      | [y], _ => exact hne y rfl
    rw [dif_neg hl]
  · cases hr

/-- A body left: the marks are come to, one after the other. -/
theorem leaves_marks {fn : Func} {R : Ending → World → Prop} (ks : List Nat) : ∀ {w : World}, Sim (B.add ks) w0 m h w → EnvRel m E a.tmps → ∀ {v : Value}, evResults P fn E h = some v →
    (∀ u w', Sim B w0 m h w' → VRel m v u → R (.returned u) w') → LeavesInM (Fr none) nn P fn a.tmps R (ks.map markOf) .returning w := by
  induction ks with
  | nil =>
    intro w s he v hv hR
    obtain ⟨u, hu, hrun⟩ := evResults_snd s he hv
    exact ⟨u, hrun, hR u w s hu⟩
  | cons b ks ih =>
    intro w s he v hv hR
    refine ⟨by simp, .inl ⟨b, _, rfl, run_takeDeferred (s.marks b (by simp [Bs.add])).2, ?_⟩⟩
    exact ih s.unmark he hv hR

theorem evBody_snd (hC : CSnd P C) (hmo : P.follows .mixedOrders = true) {k : Nat} {f : FuncId} {args : List Value} {r : Value} (ho : evBody P C k f args h = some (r, h')) (hN : NamesOk P) :
    (∃ fn c, P.funcs[f]? = some fn ∧ fn.body = some c ∧ (fn.name == "runtime.NumGoroutine") = false) ∧
    ∀ B w0 m w us, Sim B w0 m h w → VRels m args us → Calls P f us.toArray w (Back B w0 m h r h') := by
  unfold evBody at ho
  split at ho
  · rename_i fn hf
    split at ho
    · rename_i c hb
      refine ⟨⟨fn, c, hf, hb, hN f fn hf⟩, fun B w0 m w us s hus => ?_⟩
      refine (callsIn_wide (n := 0)).1 (callsIn_of_wp_marks hf hb trivial ?_)
      have hsz : us.toArray.size = args.length := by simp [hus.1]
      have he : EnvRel m (enterE 0 args) (us.toArray ++ Array.replicate (fn.ntmps - us.toArray.size) undef) := by
        intro t v hv
        obtain ⟨_, h2⟩ := enterE_look args 0 t v hv
        obtain ⟨u, hu, hur⟩ := hus.get h2
        have ht : t < us.length := (List.getElem?_eq_some_iff.1 (by simpa using hu)).1
        refine ⟨u, ?_, hur⟩
        rw [Array.getElem?_append_left (by simpa using ht)]
        simpa using hu
      have hs : (us.toArray ++ Array.replicate (fn.ntmps - us.toArray.size) undef).size = args.length + (fn.ntmps - args.length) := by
        rw [Array.size_append, hsz]; simp
      have fin : ∀ {x : Ex} {E1 : Env} {h1 : Hp}, evCode P C k (args.length + (fn.ntmps - args.length)) false c (enterE 0 args) h = some (x, E1, h1) → (x = .normal ∨ x = .ret) → evResults P fn E1 h1 = some r → h1 = h' →
          c.wpIn (Fr none) 0 P (bodyPostM (Fr none) 0 P fn (Back B w0 m h r h')) { tmps := us.toArray ++ Array.replicate (fn.ntmps - us.toArray.size) undef, defers := [] } w := by
        intro x E1 h1 hc hx hres hh
        subst hh
        refine wpIn_mono (evCode_snd (rd := none) (nn := 0) hC hmo c hc s he hs) ?_
        rintro e a' w' ⟨rfl, ks, m', k1, k2, k3, k4, k5⟩
        have hlv : LeavesInM (Fr none) 0 P fn a'.tmps (Back B w0 m h r h1) a'.defers .returning w' := by
          rw [k5, List.append_nil]
          exact leaves_marks ks k2 k3 hres fun u w'' s' hu => ⟨m', u, k1, s', hu, rfl⟩
        rcases hx with rfl | rfl
        · exact hlv
        · exact hlv
      split at ho
      · rename_i E1 h1 hc
        split at ho
        · rename_i v hres
          cases ho
          exact fin hc (.inl rfl) hres rfl
        · cases ho
      · rename_i E1 h1 hc
        split at ho
        · rename_i v hres
          cases ho
          exact fin hc (.inr rfl) hres rfl
        · cases ho
      · cases ho
    · cases ho
  · cases ho

theorem setRound_some {i : Nat} {st : LoopState} {pend : Option Code} (hr : setRound h i st pend = some h') : ∃ st0 pend0 E n ps assign body, h[i]? = some (.loop st0 pend0 E n ps assign body) ∧ h' = h.set i (.loop st pend E n ps assign body) := by
  unfold setRound at hr
  split at hr
  · rename_i heq; cases hr; exact ⟨_, _, _, _, _, _, _, heq, rfl⟩
  · cases hr

theorem setRound_len {i : Nat} {st : LoopState} {pend : Option Code} (hr : setRound h i st pend = some h') : h.length = h'.length := by
  obtain ⟨_, _, _, _, _, _, _, _, rfl⟩ := setRound_some hr
  simp

theorem setRound_snd (s : Sim B w0 m h w) {i : Nat} {p : Place} (hp : m i = some p) {st : LoopState} {pend : Option Code} (hr : setRound h i st pend = some h') {l : Loop} (hl : w.heap[p.block]? = some (.loop l)) :
    Sim B w0 m h' (w.putObj p.block (.loop { l with state := st, pending := pend })) := by
  obtain ⟨st0, pend0, E, n, ps, assign, body, ho, rfl⟩ := setRound_some hr
  obtain ⟨l', hl', h1, h2, h3, h4, h5, h6, h7, h8⟩ := s.loop hp ho
  rw [hl] at hl'; cases hl'
  refine s.putLoop hp ho hl (.inr ⟨{ l with state := st, pending := pend }, ?_, rfl, rfl, h3, h4, h5, h6, h7, h8⟩)
  exact World.putObj_heap_same (Array.getElem?_eq_some_iff.1 hl).1

theorem params_rel : ∀ (l : List (Tmp × Value)) (us : List Value) {E : Env} {tmps : Array Value}, EnvRel m E tmps → tmps.size = n → VRels m (l.map (·.2)) us → (∀ x ∈ l, x.1 < n) →
    EnvRel m (l.foldl (fun E x => x :: E) E) (((l.map (·.1)).zip us).foldl (fun tmps (t, x) => tmps.setIfInBounds t x) tmps) ∧ (((l.map (·.1)).zip us).foldl (fun tmps (t, x) => tmps.setIfInBounds t x) tmps).size = n
  | [], us, E, tmps, he, hs, _, _ => by simpa using ⟨he, hs⟩
  | (t, v) :: l, [], E, tmps, he, hs, hv, _ => absurd hv.1 (by simp)
  | (t, v) :: l, u :: us, E, tmps, he, hs, hv, hlt => by
    have ht := hlt (t, v) (by simp)
    simp only [List.foldl_cons, List.map_cons, List.zip_cons_cons]
    refine params_rel l us ?_ (by simp [hs]) ⟨by have := hv.1; simpa using this, fun j x y hx hy => hv.2 (j + 1) x y (by simpa using hx) (by simpa using hy)⟩ (fun x hx => hlt x (by simp [hx]))
    have := putE_rel (a := ⟨tmps, []⟩) (E' := (t, v) :: E) (dst := some t) (u := u) he hs (by simp [putE, show Nat.blt t n = true from Nat.ble_eq_true_of_le ht]) (hv.2 0 v u rfl rfl)
    exact this.1

theorem evRound_snd (hC : CSnd P C) (hmo : P.follows .mixedOrders = true) {k i : Nat} {args : List Value} {r : Value} (ho : evRound P C k i args h = some (r, h')) {us : List Value} {p : Place} (s : Sim B w0 m h w) (hus : VRels m args us) (hp : m i = some p) :
    ∃ l : Loop, w.heap[p.block]? = some (.loop l) ∧ us.toArray.size = l.params.size ∧
      ∀ nn, RoundIn Fence.wide nn P p.block l.fn ((l.params.zip us.toArray).foldl (fun tmps (t, x) => tmps.setIfInBounds t x) l.tmps) l.assign l.body w (Back B w0 m h r h') := by
  unfold evRound at ho
  split at ho
  · rename_i st0 pend0 E n ps assign body hobj
    obtain ⟨l, hl, h1, h2, h3, h4, h5, h6, h7, h8⟩ := s.loop hp hobj
    split at ho
    · rename_i hlen hall
      have hlen' : ps.toList.length = args.length := Nat.eq_of_beq_eq_true hlen
      refine ⟨l, hl, by rw [h3]; simp at hlen' ⊢; rw [hlen', hus.1], fun nn => ?_⟩
      rw [h3, h4, h5]
      have hmap1 : (ps.toList.zip args).map (·.1) = ps.toList := List.map_fst_zip (by omega)
      have hmap2 : (ps.toList.zip args).map (·.2) = args := List.map_snd_zip (by omega)
      have hpar := params_rel (m := m) (n := n) (ps.toList.zip args) us h7 h6 (by rw [hmap2]; exact hus) (fun x hx => by
        have := (List.of_mem_zip hx).1
        exact Nat.le_of_ble_eq_true (show Nat.ble (x.1 + 1) n = true from List.all_eq_true.1 hall x.1 this))
      rw [hmap1] at hpar
      have hfold : (ps.zip us.toArray).foldl (fun tmps (t, x) => tmps.setIfInBounds t x) l.tmps = (ps.toList.zip us).foldl (fun tmps (t, x) => tmps.setIfInBounds t x) l.tmps := by
        rw [← Array.foldl_toList, Array.toList_zip]
      rw [hfold]
      have conv : ∀ {R : Ending → World → Prop} {tm : Array Value}, RoundIn (Fr (some p.block)) nn P p.block l.fn tm assign body w R → RoundIn Fence.wide nn P p.block l.fn tm assign body w R := fun h => h
      refine conv (roundIn_of_wpIn (F := Fence.wide) trivial ?_)
      split at ho
      · rename_i E2 h2c hca
        split at ho
        · rename_i pend2 E3 n3 ps3 as3 bd3 h2o
          split at ho
          · rename_i h3c hset
            have hw1 := evCode_snd (rd := some p.block) (nn := nn) hC hmo assign hca s (a := ⟨_, []⟩) hpar.1 hpar.2
            refine wpIn_mono hw1 ?_
            rintro e a1 w1 ⟨rfl, ks, m1, k1, k2, k3, k4, k5⟩
            have hp1 := k1.le _ _ hp
            obtain ⟨l1, hl1, g1, _⟩ := k2.loop hp1 h2o
            have hrest : ∀ {x : Ex} {E4 : Env} {h4c h5c : Hp} {st : LoopState} {pd : Option Code} {b : Bool}, evCode P C k n true body E2 h3c = some (x, E4, h4c) → setRound h4c i st pd = some h5c → h5c = h' → r = .bool b →
                (∀ (w3 : World) (l3 : Loop), w3.heap[p.block]? = some (.loop l3) → ∃ w4, (match x with
                  | .normal => (Instr.endRound p.block none).run P w3
                  | .ret => (Instr.endRound p.block (some .ret)).run P w3
                  | .exit id => (Instr.endRound p.block (some (.exit id))).run P w3) = .ok (.bool b) w4 ∧ w4 = w3.putObj p.block (.loop { l3 with state := st, pending := pd })) →
                ∃ w₂, (Instr.beginRound p.block).run P w1 = .ok () w₂ ∧ body.wpIn (Fr (some p.block)) nn P (roundPost P p.block (Back B w0 m h r h')) a1 w₂ := by
              intro x E4 h4c h5c st pd b hcb hset2 hh hr hend
              subst hh; subst hr
              refine ⟨_, run_beginRound hl1 g1, ?_⟩
              have hpend : pend2 = l1.pending := by
                obtain ⟨l1', hl1', _, q2, _⟩ := k2.loop hp1 h2o
                rw [hl1] at hl1'; cases hl1'
                exact q2.symm
              have s2 := setRound_snd k2 hp1 hset hl1
              rw [hpend] at s2
              refine wpIn_mono (evCode_snd (rd := some p.block) (nn := nn) hC hmo body hcb s2 k3 k4) ?_
              rintro e a3 w3 ⟨rfl, ks3, m3, q1, q2, q3, q4, q5⟩
              have hp3 := q1.le _ _ hp1
              obtain ⟨st5, pd5, E5, n5, ps5, as5, bd5, ho5, _⟩ := setRound_some hset2
              obtain ⟨l3, hl3, _⟩ := q2.loop hp3 ho5
              have s5 := setRound_snd q2 hp3 hset2 hl3
              obtain ⟨w4, he4, hw4⟩ := hend w3 l3 hl3
              rw [← hw4] at s5
              -- the marks of a round's own loops are none: 'rangeFunc' is not taken in a round
              have hb : Back B w0 m h (.bool b) h5c (.returned (.bool b)) w4 := by
                refine ⟨m3, .bool b, ((k1.at rfl (setRound_len hset)).trans q1).at rfl (setRound_len hset2), ?_, .bool b, rfl⟩
                exact ⟨s5.below, s5.base, fun c hc => s5.marks c (by simp [Bs.add, hc]), by
                  have := s5.nodup
                  simp only [Bs.add] at this
                  exact (List.nodup_append.1 (List.nodup_append.1 this).2.1).2.1, s5.real, s5.inj, s5.gl⟩
              cases x with
              | normal => exact ⟨_, _, he4, hb⟩
              | ret => exact ⟨_, _, he4, hb⟩
              | exit id => exact ⟨_, _, he4, hb⟩
            show ∃ w₂, _ ∧ _
            split at ho
            · rename_i E4 h4c hcb
              split at ho
              · rename_i h5c hset2
                cases ho
                exact hrest hcb hset2 rfl rfl fun w3 l3 hl3 => ⟨_, run_endRound none hl3, rfl⟩
              · cases ho
            · rename_i E4 h4c hcb
              split at ho
              · rename_i h5c hset2
                cases ho
                exact hrest hcb hset2 rfl rfl fun w3 l3 hl3 => ⟨_, run_endRound (some .ret) hl3, rfl⟩
              · cases ho
            · rename_i id E4 h4c hcb
              split at ho
              · rename_i h5c hset2
                cases ho
                exact hrest hcb hset2 rfl rfl fun w3 l3 hl3 => ⟨_, run_endRound (some (.exit id)) hl3, rfl⟩
              · cases ho
            · cases ho
          · cases ho
        · cases ho
      · cases ho
    · cases ho
  · cases ho

/-- What a call does beyond the old blocks is not seen. -/
theorem Sim.closed {B : Bs} {w0 : World} {m : Pl} {h : Hp} {w w' : World} (s : Sim B w0 m h w) (hb : Below w.heap.size w w') : Sim B w0 m h w' := by
  refine ⟨s.below.trans (hb.mono s.size), s.base, fun b hk => ⟨(s.marks b hk).1, ?_⟩, s.nodup, fun i p hi => ?_, s.inj, s.gl⟩
  · rw [hb.block b (Array.getElem?_eq_some_iff.1 (s.marks b hk).2).1]; exact (s.marks b hk).2
  · obtain ⟨o, ho, hr⟩ := s.real i p hi
    exact ⟨o, ho, hr.frame fun hd => hb.block _ (hr.lt hd)⟩

/-- The function that copies a map: another map with the same entries. -/
theorem externO_snd {f : FuncId} {args : List Value} {r : Value} (hb : bodyless P f = true) (ho : externO P f args h = some (r, h')) :
    (∃ fn, P.funcs[f]? = some fn ∧ fn.body = none) ∧ (∃ t x, args = [.iface t x]) ∧ (∃ t x, r = .iface t x) ∧ ∀ B w0 m w us, Sim B w0 m h w → VRels m args us → ∃ m' u w', Stp m h m' h' ∧ Sim B w0 m' h' w' ∧ VRel m' r u ∧ (callFunc f us.toArray).run P w = .ok (.value u) w' := by
  unfold bodyless at hb
  unfold externO at ho
  split at ho
  · rename_i fn hf
    simp only [hf] at hb
    have hbody : fn.body = none := by
      split at hb
      · cases hb
      · assumption
    split at ho
    · rename_i hname
      simp only [Bool.and_eq_true, beq_iff_eq] at hname
      obtain ⟨hn, horg⟩ := hname
      unfold cloneO at ho
      split at ho
      · rename_i t i
        split at ho
        · rename_i es hes
          simp only [Option.some.injEq, Prod.mk.injEq] at ho
          obtain ⟨rfl, rfl⟩ := ho
          refine ⟨⟨fn, hf, hbody⟩, ⟨_, _, rfl⟩, ⟨_, _, rfl⟩, fun B w0 m w us s hus => ?_⟩
          obtain ⟨u, rfl⟩ : ∃ u, us = [u] := by
            match us, hus.1 with
            | [u], _ => exact ⟨u, rfl⟩
          obtain ⟨u1, rfl, hu1⟩ := (hus.2 0 _ _ rfl rfl).iface_inv
          obtain ⟨p, hp, rfl⟩ := hu1.map_inv
          obtain ⟨arr, clock, hblk, ha, hvs, hg, _⟩ := s.mp hp (mpAt_some hes)
          have hs := s.new (.map arr clock) (.mp es) ⟨w.heap.size, 0, 0⟩ rfl ⟨arr, clock, by simpa using heap_alloc_new w _, ha, hvs.mono (Pl.put_le (s.fresh (Nat.le_refl _))), hg, s.size⟩
          refine ⟨_, .iface t (.map (some w.heap.size)), _, Stp.put _ _ (s.fresh (Nat.le_refl _)), hs, VRel.iface t _ _ (VRel.map (m := m.put h.length ⟨w.heap.size, 0, 0⟩) h.length _ (Pl.put_same _ _ _)), ?_⟩
          have h1 : Extern.find fn = some Extern.MapsClone.clone := by
            unfold Extern.find
            simp only [hn]
            rfl
          have h2 : Extern.findNext fn = none := by
            unfold Extern.findNext
            simp only [hn, horg]
            rfl
          rw [run_callFunc_extern hf (by rw [hn]; rfl) (by rw [hbody]; rfl) h2 h1]
          have e : Extern.MapsClone.clone #[.iface t (.map (some p.block))] = (getObj p.block >>= fun o => match o with
              | .map entries clock => (newObj (.map entries clock) >>= fun n => pure (.iface t (.map (some n))))
              | _ => stuck "maps.clone: a map expected") := rfl
          show ((Extern.MapsClone.clone #[.iface t (.map (some p.block))]).run P w).andThen _ = _
          rw [e]
          simp [MapKept.run_getObj_map hblk, Result.andThen]
        · cases ho
      · cases ho
    · cases ho
  · cases ho

theorem evCall_snd (hN : NamesOk P) (hmo : P.follows .mixedOrders = true) : ∀ k, CSnd P (evCall P k)
  | 0 => ⟨fun ho => by simp [evCall] at ho, fun ho => by simp [evCall] at ho⟩
  | k + 1 => by
    have ih := evCall_snd hN hmo k
    refine ⟨fun {f args h r h'} ho => ?_, fun ho B w0 m w us p s hus hp => evRound_snd ih hmo (by simpa only [evCall] using ho) s hus hp⟩
    simp only [evCall] at ho
    split at ho
    · rename_i hc
      simp only [Bool.and_eq_true, List.isEmpty_iff] at hc
      obtain ⟨rfl, _⟩ := hc
      unfold closedO at ho
      split at ho
      · rename_i v h1 he
        split at ho
        · rename_i hg
          simp only [Option.some.injEq, Prod.mk.injEq] at ho
          obtain ⟨rfl, rfl⟩ := ho
          obtain ⟨q1, q2⟩ := evBody_snd ih hmo he hN
          refine .inl ⟨q1, fun B w0 m w us s hus => ?_⟩
          have hus' : us = [] := List.length_eq_zero_iff.1 hus.1.symm
          subst hus'
          have s0 : Sim ⟨w.heap.size, []⟩ w (fun _ => none) [] w := ⟨Below.refl _ _, Nat.le_refl _, fun b hb => (by cases hb), List.nodup_nil, fun i p hi => (by cases hi), fun i j p q o o' hi => (by cases hi), fun i g c hi => (by simp at hi)⟩
          refine (q2 _ _ _ _ _ s0 (.nil _)).mono fun e w' ⟨m', u, _, s1, hu, he'⟩ => ?_
          have := VRel.ground hu hg
          subst this
          exact ⟨m, _, .refl m h, s.closed s1.below, VRel.refl _ _ hg, he'⟩
        · cases ho
      · cases ho
    · cases hb : bodyless P f with
      | true => simp only [hb] at ho; exact .inr (externO_snd hb ho)
      | false => simp only [hb] at ho; exact .inl (evBody_snd ih hmo ho hN)

end Go.Ev
