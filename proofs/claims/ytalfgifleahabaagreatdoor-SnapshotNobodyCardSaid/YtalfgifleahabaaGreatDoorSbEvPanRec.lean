import Derived.Test.YtalfgifleahabaaGreatDoorSbEvPanSnd
import Derived.RecoverIn
namespace Go.Ev
open Go.RowKit

variable {P : Program} {C : CallF} {D : PanF}
variable {B : Bs} {w0 : World} {m : Pl} {h h' : Hp} {w : World} {E E' : Env} {a : Act} {n nn : Nat}

theorem noPan_snd : PSnd P noPan := ⟨fun h => by cases h⟩

/-- The code of a deferred closure: recover hands over 'u', and turns the frames below to 'cs1'. -/
theorem evRec_snd (hC : CSnd P C) (hmo : P.follows .mixedOrders = true) {k : Nat} {pv : Value} {cs cs1 : List Frame} {u : Value}
    (hrec : ((recoverD cs = some (u, cs1)) ∨ (recoverD cs = none ∧ u = .nilIface ∧ cs1 = cs))) : ∀ (c : Code) {E : Env} {h : Hp} {r : PX}, evRec P C k n pv c E h = some r →
    ∀ {m : Pl} {a : Act} {w : World}, VRel m pv u → Sim B w0 m h w → EnvRel m E a.tmps → a.tmps.size = n → a.defers = [] → c.wpSIn (Fr none) nn P (fun e a' cs' w' => cs' = cs1 ∧ r.Post B w0 m h n e a' w') a cs w := by
  intro c
  induction c with
  | seq c d ihc ihd =>
    intro E h r ho m a w hv s he hs hd
    unfold evRec at ho
    split at ho
    · rename_i id o
      split at ho
      · rename_i hro
        split at ho
        · rename_i E1 hput
          refine wpSIn_seq (wpSIn_region ?_)
          have hop : ∃ cl, o.op = .call cl ∧ o.guard = none ∧ cl.callee = .builtin .recover := by
            unfold recO at hro
            split at hro
            · rename_i cl h1 h2
              split at hro
              · rename_i h3; exact ⟨cl, h1, h2, h3⟩
              · cases hro
            · cases hro
          obtain ⟨cl, h1, h2, h3⟩ := hop
          have hex : (execOp a.eval o).run P w = .ok .recover w := by
            simp [execOp, h1, resolve, h3, invoke, builtin, Result.andThen]
          obtain ⟨q1, q2, q3⟩ := putE_rel he hs hput hv
          have fin : d.wpSIn (Fr none) nn P (fun e a' cs' w' => cs' = cs1 ∧ r.Post B w0 m h n e a' w') (a.put o.dst u) cs1 w :=
            wpSIn_of_wpIn rfl (wpIn_mono (evXCode_snd (nn := nn) hC noPan_snd hmo d ho s q1 q2 (by show DRels m [] _; rw [q3]; exact hd)) fun e a' w' hp => ⟨rfl, hp⟩)
          have hwant : Region.wanted o (yielded (⟨[o]⟩ : Array Oper) a.tmps) = true := by simp [Region.wanted, h2]
          show wpOpsSIn (Fr none) nn P ⟨[o]⟩ _ [0] a cs w
          have hget : (⟨[o]⟩ : Array Oper)[0]? = some o := rfl
          unfold wpOpsSIn
          simp only [hget]
          refine ⟨fun _ _ => trivial, ?_⟩
          rw [if_pos hwant, hex]
          rcases hrec with hr | ⟨hr, rfl, rfl⟩
          · simp only [hr]
            exact fin
          · simp only [hr]
            exact fin
        · cases ho
      · cases ho
    · split at ho
      · rename_i E1 h1 hc1
        refine wpSIn_seq ?_
        obtain ⟨dum⟩ : Nonempty Unit := ⟨()⟩
        have := ihc hc1 hv s he hs hd
        refine fun b k hb hr hF hroom => ?_
        obtain ⟨e, a', cs', w', hl, ⟨rfl, rfl, m1, k1, k2, k3, k4, k5⟩, harr⟩ := this b k hb hr hF hroom
        refine ⟨_, a', cs', w', hl, ?_, harr⟩
        have k5 : a'.defers = [] := k5
        exact wpSIn_of_wpIn rfl (wpIn_mono (evXCode_snd (nn := nn) hC noPan_snd hmo d ho k2 k3 k4 (by show DRels m1 [] _; exact k5)) fun e a2 w2 hp => ⟨rfl, hp.trans k1⟩)
      · cases ho
  | _ => intro E h r ho; cases ho

theorem wpSIn_mono {F : Fence} {Q Q' : Exit → Act → List Frame → World → Prop} {cs : List Frame} {c : Code} (h : c.wpSIn F nn P Q a cs w) (hq : ∀ e a' cs' w', Q e a' cs' w' → Q' e a' cs' w') : c.wpSIn F nn P Q' a cs w :=
  fun b k hb hr hF hroom => let ⟨e, a', cs', w', l, q, r⟩ := h b k hb hr hF hroom; ⟨e, a', cs', w', l, hq _ _ _ _ q, r⟩

/-- How a frame leaves: without a panic, or with one that is not yet recovered. -/
inductive Lv (m : Pl) : Value → FrameMode → FrameMode → Prop where
  | calm : Lv m .nilIface .returning .returning
  | pan (v u : Value) (h : VRel m v u) : Lv m v (.panicking [{ v := u, recovered := false }]) (.panicking [{ v := u, recovered := true }])
theorem Lv.settled {v : Value} {u u' : FrameMode} (l : Lv m v u u') : settle u' = .returning := by cases l <;> rfl
theorem Lv.notRun {v : Value} {u u' : FrameMode} (l : Lv m v u u') : u ≠ .run := by cases l <;> simp

theorem evDeferred_snd (hC : CSnd P C) (hN : NamesOk P) (hmo : P.follows .mixedOrders = true) {k : Nat} {fv : Value} {al : List Value} {pv : Value} {h2 : Hp} (ho : evDeferred P C k fv al pv h = some h2) {u u' : FrameMode} (lv : Lv m pv u u')
    (s : Sim B w0 m h w) {d : Deferred} (hd : DRel m (fv, al) d) : ∃ fn' cap f args, d.target = .fn fn' cap ∧ (invoke d.target d.args).run P w = .ok (.enter f args) w ∧
      CallsDIn (Fr none) nn P f args u w fun e u1 w' => u1 = u' ∧ (∃ v, e = .returned v) ∧ ∃ m', Stp m h m' h2 ∧ Sim B w0 m' h2 w' := by
  obtain ⟨g, p, q, us, z, e1, rfl, v1, v2⟩ := hd
  simp only at e1
  subst e1
  simp only [evDeferred] at ho
  · split at ho
    · rename_i fn hf
      split at ho
      · rename_i c hb
        have hus : VRels m (p.toList ++ al ++ q.toList) (us ++ z.toList) := v1.append v2
        refine ⟨.func g, z, g, us.toArray ++ z, rfl, ?_, ?_⟩
        · show (callFunc g (us.toArray ++ z)).run P w = _
          exact Go.MuLone.run_callFunc_enter hf (hN g fn hf) hb _ _
        · refine callsDIn_of_wpSIn hf hb trivial fun c₀ cs hmode => ?_
          have earr : us.toArray ++ z = (us ++ z.toList).toArray := by apply Array.ext'; simp
          have hsz : (us.toArray ++ z).size = (p.toList ++ al ++ q.toList).length := by rw [earr]; simpa using hus.1.symm
          have hs : (us.toArray ++ z ++ Array.replicate (fn.ntmps - (us.toArray ++ z).size) undef).size = (p.toList ++ al ++ q.toList).length + (fn.ntmps - (p.toList ++ al ++ q.toList).length) := by
            rw [Array.size_append, hsz]; simp
          have he : EnvRel m (enterE 0 (p.toList ++ al ++ q.toList)) (us.toArray ++ z ++ Array.replicate (fn.ntmps - (us.toArray ++ z).size) undef) := by
            rw [earr]; exact enterE_rel hus _
          have hrec : ∃ uv, VRel m pv uv ∧ ((recoverD (c₀ :: cs) = some (uv, { c₀ with mode := u' } :: cs)) ∨ (recoverD (c₀ :: cs) = none ∧ uv = .nilIface ∧ { c₀ with mode := u' } :: cs = c₀ :: cs)) := by
            cases lv with
            | calm => exact ⟨.nilIface, VRel.refl m _ rfl, .inr ⟨by simp [recoverD, hmode], rfl, by cases c₀; simp only at hmode; subst hmode; rfl⟩⟩
            | pan v uv hv => exact ⟨uv, hv, .inl (by simp [recoverD, hmode])⟩
          obtain ⟨uv, hvv, hrec⟩ := hrec
          have fin : ∀ {x : Ex} {E1 : Env} {h1 : Hp}, evRec P C k ((p.toList ++ al ++ q.toList).length + (fn.ntmps - (p.toList ++ al ++ q.toList).length)) pv c (enterE 0 (p.toList ++ al ++ q.toList)) h = some (.go x E1 h1 []) → (x = .normal ∨ x = .ret) → (∃ v, evResults P fn E1 h1 = some v) → h1 = h2 →
              c.wpSIn (Fr none) nn P (bodyPostS P fn c₀ cs fun e u1 w' => u1 = u' ∧ (∃ v, e = .returned v) ∧ ∃ m', Stp m h m' h2 ∧ Sim B w0 m' h2 w') { tmps := us.toArray ++ z ++ Array.replicate (fn.ntmps - (us.toArray ++ z).size) undef, defers := [] } (c₀ :: cs) w := by
            intro x E1 h1 hx hxx ⟨v, hv⟩ hh
            subst hh
            refine wpSIn_mono (evRec_snd (nn := nn) hC hmo hrec c hx hvv s he hs rfl) ?_
            rintro e a' cs' w' ⟨rfl, rfl, m', k1, k2, k3, k4, k5⟩
            obtain ⟨y, _, hy⟩ := evResults_snd k2 k3 hv
            rcases hxx with rfl | rfl
            · exact ⟨k5, u', rfl, y, hy, rfl, ⟨y, rfl⟩, m', k1, k2⟩
            · exact ⟨k5, u', rfl, y, hy, rfl, ⟨y, rfl⟩, m', k1, k2⟩
          split at ho
          · rename_i E1 h1 hx
            split at ho
            · rename_i v hv
              cases ho
              exact fin hx (.inl rfl) ⟨v, hv⟩ rfl
            · cases ho
          · rename_i E1 h1 hx
            split at ho
            · rename_i v hv
              cases ho
              exact fin hx (.inr rfl) ⟨v, hv⟩ rfl
            · cases ho
          · cases ho
      · cases ho
    · cases ho

/-- A function that defers nothing, or one closure, which recovers: it returns. -/
theorem evGuard_snd (hC : CSnd P C) (hD : PSnd P D) (hN : NamesOk P) (hmo : P.follows .mixedOrders = true) {k : Nat} {f : FuncId} {args : List Value} {z : Bool} {r : Value} (ho : evGuard P C D k f args h = some (z, r, h')) :
    (∃ fn c, P.funcs[f]? = some fn ∧ fn.body = some c ∧ (fn.name == "runtime.NumGoroutine") = false) ∧
    ∀ B w0 m w us, Sim B w0 m h w → VRels m args us → Calls P f us.toArray w (match z with
      | true => Back B w0 m h r h'
      | false => Pans B w0 m h r h') := by
  unfold evGuard at ho
  split at ho
  · rename_i fn hf
    split at ho
    · rename_i c hb
      refine ⟨⟨fn, c, hf, hb, hN f fn hf⟩, fun B w0 m w us s hus => ?_⟩
      refine (callsIn_wide (n := 0)).1 (callsIn_of_wp_marks hf hb trivial ?_)
      have hsz : us.toArray.size = args.length := by simp [hus.1]
      have hs : (us.toArray ++ Array.replicate (fn.ntmps - us.toArray.size) undef).size = args.length + (fn.ntmps - args.length) := by
        rw [Array.size_append, hsz]; simp
      -- what stands behind the body: the closure, then the results
      have out : ∀ {fv pv v : Value} {al : List Value} {E1 : Env} {h1 h2 : Hp} {m1 : Pl} {w1 : World} {tmps : Array Value} {ds : List Deferred} {u u' : FrameMode}, evLeave P C k fn E1 h1 fv al pv = some (v, h2) → Lv m1 pv u u' → Stp m h m1 h1 → Sim B w0 m1 h1 w1 → EnvRel m1 E1 tmps → DRels m1 [(fv, al)] ds →
          LeavesInM (Fr none) 0 P fn tmps (Back B w0 m h v h2) ds u w1 := by
        intro fv pv v al E1 h1 h2 m1 w1 tmps ds u u' hlv lv k1 k2 k3 k4
        unfold evLeave at hlv
        split at hlv
        · rename_i h3 hdef
          split at hlv
          · rename_i v2 hres
            simp only [Option.some.injEq, Prod.mk.injEq] at hlv
            obtain ⟨rfl, rfl⟩ := hlv
            obtain ⟨d, l', rfl, hd, hl⟩ := k4
            have hl : l' = [] := hl
            subst hl
            obtain ⟨fn', cap, g, al', e1, e2, e3⟩ := evDeferred_snd (nn := 0 - 1) hC hN hmo hdef lv k2 hd
            refine ⟨lv.notRun, .inr ⟨Fr_depth none 0, fn', cap, g, al', e1, e2, fun _ _ => trivial, e3.mono ?_⟩⟩
            rintro e u1 w' ⟨rfl, ⟨y, rfl⟩, m2, q1, q2⟩
            show LeavesInM (Fr none) 0 P fn tmps (Back B w0 m h v2 h3) [] (settle u1) w'
            rw [lv.settled]
            obtain ⟨z, hz, hrun⟩ := evResults_snd (a := ⟨tmps, []⟩) q2 (k3.mono q1.le) hres
            exact ⟨z, hrun, m2, z, k1.trans q1, q2, hz, rfl⟩
          · cases hlv
        · cases hlv
      have ret : ∀ {o : Option (Value × Hp)}, retX o = some (z, r, h') → z = true ∧ o = some (r, h') := by
        intro o h
        unfold retX at h
        split at h
        · simp only [Option.some.injEq, Prod.mk.injEq] at h
          rename_i q
          obtain ⟨rfl, h⟩ := h
          exact ⟨rfl, by rw [h]⟩
        · cases h
      have out0 : ∀ {x : Ex} {E1 : Env} {h1 : Hp}, evXCode P C D k (args.length + (fn.ntmps - args.length)) c (enterE 0 args) h [] = some (.go x E1 h1 []) → (x = .normal ∨ x = .ret) → evGo P fn E1 h1 = some (r, h') →
          c.wpIn (Fr none) 0 P (bodyPostM (Fr none) 0 P fn (Back B w0 m h r h')) { tmps := us.toArray ++ Array.replicate (fn.ntmps - us.toArray.size) undef, defers := [] } w := by
        intro x E1 h1 hx hxx hgo
        unfold evGo at hgo
        split at hgo
        · rename_i v hres
          simp only [Option.some.injEq, Prod.mk.injEq] at hgo
          obtain ⟨rfl, rfl⟩ := hgo
          refine wpIn_mono (evXCode_snd (nn := 0) hC hD hmo c hx s (enterE_rel hus _) hs rfl) ?_
          rintro e a' w' ⟨rfl, m', k1, k2, k3, k4, k5⟩
          have k5 : a'.defers = [] := k5
          obtain ⟨u, hu, hrun⟩ := evResults_snd k2 k3 hres
          have hlv : LeavesInM (Fr none) 0 P fn a'.tmps (Back B w0 m h v h1) a'.defers .returning w' := by
            rw [k5]
            exact ⟨u, hrun, m', u, k1, k2, hu, rfl⟩
          rcases hxx with rfl | rfl
          · exact hlv
          · exact hlv
        · cases hgo
      split at ho
      · rename_i E1 h1 hx
        obtain ⟨rfl, e⟩ := ret ho
        exact out0 hx (.inl rfl) e
      · rename_i E1 h1 hx
        obtain ⟨rfl, e⟩ := ret ho
        exact out0 hx (.inr rfl) e
      · rename_i E1 h1 fv al hx
        obtain ⟨rfl, e⟩ := ret ho
        refine wpIn_mono (evXCode_snd (nn := 0) hC hD hmo c hx s (enterE_rel hus _) hs rfl) ?_
        rintro e' a' w' ⟨rfl, m', k1, k2, k3, k4, k5⟩
        exact out e .calm k1 k2 k3 k5
      · rename_i E1 h1 fv al hx
        obtain ⟨rfl, e⟩ := ret ho
        refine wpIn_mono (evXCode_snd (nn := 0) hC hD hmo c hx s (enterE_rel hus _) hs rfl) ?_
        rintro e' a' w' ⟨rfl, m', k1, k2, k3, k4, k5⟩
        exact out e .calm k1 k2 k3 k5
      · rename_i pv E1 h1 fv al hx
        obtain ⟨rfl, e⟩ := ret ho
        refine wpIn_mono (evXCode_snd (nn := 0) hC hD hmo c hx s (enterE_rel hus _) hs rfl) ?_
        rintro e' a' w' ⟨m', u, rfl, k1, k2, k3, k4, k5, k6⟩
        exact out e (.pan _ _ k3) k1 k2 k4 k6
      · rename_i pv E1 h1 hx
        simp only [Option.some.injEq, Prod.mk.injEq] at ho
        obtain ⟨rfl, rfl, rfl⟩ := ho
        refine wpIn_mono (evXCode_snd (nn := 0) hC hD hmo c hx s (enterE_rel hus _) hs rfl) ?_
        rintro e a' w' ⟨m', u, rfl, k1, k2, k3, k4, k5, k6⟩
        have k6 : a'.defers = [] := k6
        show LeavesInM (Fr none) 0 P fn a'.tmps (Pans B w0 m h pv h1) a'.defers (.panicking [{ v := u, recovered := false }]) w'
        rw [k6]
        exact ⟨m', u, k1, k2, k3, rfl⟩
      · cases ho
    · cases ho
  · cases ho

end Go.Ev
