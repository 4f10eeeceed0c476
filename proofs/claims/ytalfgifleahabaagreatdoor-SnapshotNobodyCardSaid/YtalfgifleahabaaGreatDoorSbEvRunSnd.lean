import Derived.Test.YtalfgifleahabaaGreatDoorSbEvRun
import Derived.TacticsIn
import Derived.LoopNIn
import Derived.RangeFuncLeaves
import Derived.RangeFuncRecord
import Derived.Conc.MuLone
namespace Go.Ev
open Go.RowKit

variable {P : Program} {C : CallF}

/-- The wide fence, in a round or not. -/
def Fr (rd : Option Nat) : Fence := { Fence.wide with round := rd }

theorem Fr_calls {rd : Option Nat} {nn : Nat} {f : FuncId} {args : Array Value} {w : World} {R : Ending → World → Prop} (h : Calls P f args w R) : CallsIn (Fr rd) nn P f args w R :=
  (callsIn_wide (n := nn)).2 h
theorem Fr_depth (rd : Option Nat) (n : Nat) : (Fr rd).depth.isSome = true → 1 ≤ n := by simp [Fr, Fence.wide]

/-- What a call comes back with. -/
def Back (B : Bs) (w0 : World) (m : Pl) (h : Hp) (r : Value) (h' : Hp) : Ending → World → Prop :=
  fun e w' => ∃ m' u, Stp m h m' h' ∧ Sim B w0 m' h' w' ∧ VRel m' r u ∧ e = .returned u

structure CSnd (P : Program) (C : CallF) : Prop where
  fn : ∀ {f args h r h'}, C (.fn f) args h = some (r, h') → ((∃ fn c, P.funcs[f]? = some fn ∧ fn.body = some c ∧ (fn.name == "runtime.NumGoroutine") = false) ∧
    ∀ B w0 m w us, Sim B w0 m h w → VRels m args us → Calls P f us.toArray w (Back B w0 m h r h')) ∨
    ((∃ fn, P.funcs[f]? = some fn ∧ fn.body = none) ∧ (∃ t x, args = [.iface t x]) ∧ (∃ t x, r = .iface t x) ∧ ∀ B w0 m w us, Sim B w0 m h w → VRels m args us → ∃ m' u w', Stp m h m' h' ∧ Sim B w0 m' h' w' ∧ VRel m' r u ∧ (callFunc f us.toArray).run P w = .ok (.value u) w')
  round : ∀ {i args h r h'}, C (.round i) args h = some (r, h') → ∀ B w0 m w us p, Sim B w0 m h w → VRels m args us → m i = some p →
    ∃ l : Loop, w.heap[p.block]? = some (.loop l) ∧ us.toArray.size = l.params.size ∧
      ∀ nn, RoundIn Fence.wide nn P p.block l.fn ((l.params.zip us.toArray).foldl (fun tmps (t, x) => tmps.setIfInBounds t x) l.tmps) l.assign l.body w (Back B w0 m h r h')

variable {B : Bs} {w0 : World} {m : Pl} {h h' : Hp} {w : World} {E E' : Env} {a : Act} {n nn : Nat} {rd : Option Nat}

theorem putE_rel (he : EnvRel m E a.tmps) (hs : a.tmps.size = n) {dst : Option Tmp} {v u : Value} (hp : putE n E dst v = some E') (hr : VRel m v u) :
    EnvRel m E' (a.put dst u).tmps ∧ (a.put dst u).tmps.size = n ∧ (a.put dst u).defers = a.defers := by
  unfold putE at hp
  cases dst with
  | none => cases hp; exact ⟨he, hs, rfl⟩
  | some d =>
    simp only at hp
    split at hp
    · rename_i hlt
      cases hp
      have hd : d < a.tmps.size := by rw [hs]; exact Nat.le_of_ble_eq_true (show Nat.ble (d + 1) n = true from hlt)
      refine ⟨fun t x hx => ?_, by simp [Act.put, hs], rfl⟩
      rw [look_cons] at hx
      simp only [Act.put, Array.getElem?_setIfInBounds]
      split at hx
      · rename_i e; subst e; cases hx; exact ⟨u, by simp [hd], hr⟩
      · rename_i e
        obtain ⟨y, hy, hyr⟩ := he t x hx
        exact ⟨y, by simp [e, hy], hyr⟩
    · cases hp

theorem wantedO_rel (he : EnvRel m E a.tmps) {ops : Array Oper} {o : Oper} {b : Bool} (hw : wantedO ops E o = some b) : Region.wanted o (yielded ops a.tmps) = b := by
  unfold wantedO at hw
  split at hw
  · rename_i hg; cases hw; simp [Region.wanted, hg]
  · rename_i j want hg
    split at hw
    · rename_i d hd
      split at hw
      · rename_i x hx
        cases hw
        obtain ⟨u, hu, hr⟩ := he d _ hx
        have : u = .bool x := by cases hr; rfl
        subst this
        simp [Region.wanted, hg, yielded, hd, hu]
      · rename_i hx
        cases hw
        obtain ⟨u, hu, hr⟩ := he d _ hx
        cases hr with
        | tuple x y hs e => simp [Region.wanted, hg, yielded, hd, hu]
      · cases hw
    · cases hw

theorem no_defer {o : Oper} {out : Out} (ho : evOp P h E o = some out) : ∀ c, o.op ≠ .defer c := by
  intro c hc
  unfold evOp at ho
  rw [hc] at ho
  cases ho

theorem evStep_snd (hC : CSnd P C) (s : Sim B w0 m h w) (he : EnvRel m E a.tmps) {o : Oper} {v : Value} (ho : evStep P C h E o = some (v, h')) {next : Act → World → Prop} {Q : Exit → Act → World → Prop}
    (hk : ∀ m' u w', Stp m h m' h' → Sim B w0 m' h' w' → VRel m' v u → next (a.put o.dst u) w') : o.wpIn (Fr rd) nn P a w next Q := by
  unfold evStep at ho
  split at ho
  · rename_i v1 h1 hop
    cases ho
    have hs := evOp_snd s he hop
    obtain ⟨m', u, w', h1, h2, h3, h4, _⟩ := hs
    refine ⟨fun _ _ => trivial, ?_⟩
    rw [Oper.semAt_eq _ _ _ (no_defer hop)]
    rcases h4 with h4 | ⟨h4, rfl⟩
    · rw [h4, Oper.uponIn_value]; exact hk m' u w' h1 h2 h3
    · rw [h4, Oper.uponIn_skip]; exact hk m' undef w' h1 h2 h3
  · rename_i f args hop
    obtain ⟨us, hus, hr⟩ := evOp_snd s he hop
    rcases hC.fn ho with ⟨⟨fn, c, hf, hb, hn⟩, hcall⟩ | ⟨_, _, _, hext⟩
    · refine ⟨fun _ _ => trivial, ?_⟩
      rw [Oper.semAt_eq _ _ _ (no_defer hop), hr, Go.MuLone.run_callFunc_enter hf hn hb, Oper.uponIn_enter]
      refine ⟨Fr_depth rd nn, Fr_calls ((hcall B w0 m w us s hus).mono ?_)⟩
      rintro e w' ⟨m', u, k1, k2, k3, rfl⟩
      exact hk m' u w' k1 k2 k3
    · obtain ⟨m', u, w', k1, k2, k3, k4⟩ := hext B w0 m w us s hus
      refine ⟨fun _ _ => trivial, ?_⟩
      rw [Oper.semAt_eq _ _ _ (no_defer hop), hr, k4, Oper.uponIn_value]
      exact hk m' u w' k1 k2 k3
  · rename_i i args hop
    obtain ⟨us, p, hus, hp, hr⟩ := evOp_snd s he hop
    obtain ⟨l, hl, hsz, hround⟩ := hC.round ho B w0 m w us p s hus hp
    refine ⟨fun _ _ => trivial, ?_⟩
    rw [Oper.semAt_eq _ _ _ (no_defer hop), hr, run_yield hl hsz, Oper.uponIn_round]
    refine ⟨Fr_depth rd nn, ?_⟩
    have := (hround (nn - 1)).mono (R' := fun
      | .returned v, w'' => next (a.put o.dst v) w''
      | .panicked chain, w'' => Q (.panic chain) a w''
      | .outgrown, _ => LetsOut Q) (by
        rintro e w' ⟨m', u, k1, k2, k3, rfl⟩
        exact hk m' u w' k1 k2 k3)
    exact this
  · cases ho

theorem evOps_snd (hC : CSnd P C) {ops : Array Oper} {Q : Exit → Act → World → Prop} : ∀ (l : List Oper) {E : Env} {h : Hp} {m : Pl} {a : Act} {w : World}, evOps P C n ops l E h = some (E', h') →
    Sim B w0 m h w → EnvRel m E a.tmps → a.tmps.size = n →
    (∀ m' a' w', Stp m h m' h' → Sim B w0 m' h' w' → EnvRel m' E' a'.tmps → a'.tmps.size = n → a'.defers = a.defers → Q .normal a' w') → wpListIn (Fr rd) nn P ops Q l a w
  | [], E, h, m, a, w, ho, s, he, hs, hk => by
    simp only [evOps] at ho; cases ho
    exact hk m a w (.refl _ _) s he hs rfl
  | o :: l, E, h, m, a, w, ho, s, he, hs, hk => by
    simp only [evOps] at ho
    unfold wpListIn
    split at ho
    · rename_i hw
      rw [if_pos (wantedO_rel he hw)]
      split at ho
      · rename_i v h1 hst
        split at ho
        · rename_i E1 hput
          refine evStep_snd hC s he hst fun m1 u w1 k1 k2 k3 => ?_
          obtain ⟨q1, q2, q3⟩ := putE_rel (he.mono k1.le) hs hput k3
          exact evOps_snd hC l ho k2 q1 q2 fun m' a' w' r1 r2 r3 r4 r5 => hk m' a' w' (k1.trans r1) r2 r3 r4 (by rw [r5, q3])
        · cases ho
      · cases ho
    · rename_i hw
      rw [if_neg (by rw [wantedO_rel he hw]; simp)]
      refine ⟨fun _ _ => trivial, ?_⟩
      split at ho
      · rename_i E1 hput
        obtain ⟨q1, q2, q3⟩ := putE_rel he hs hput (VRel.refl m undef rfl)
        exact evOps_snd hC l ho s q1 q2 fun m' a' w' r1 r2 r3 r4 r5 => hk m' a' w' r1 r2 r3 r4 (by rw [r5, q3])
      · cases ho
    · cases ho

end Go.Ev
