import Derived.Test.YtalfgifleahabaaGreatDoorSbEvGo
import Derived.Test.YtalfgifleahabaaGreatDoorSbEvPanRec
import Derived.Test.YtalfgifleahabaaGreatDoorSbEvEqvSnd
namespace Go.Ev
open Go.RowKit

variable {P : Program} {R : FuncId → Bool} {T : CallF}
variable {B : Bs} {w0 : World} {m : Pl} {h h' : Hp} {w : World}

theorem noT_snd : CSnd P noT := ⟨fun h => (by cases h), fun h => (by cases h)⟩
theorem orT_snd {A C : CallF} (ha : CSnd P A) (hc : CSnd P C) : CSnd P (orT A C) := by
  refine ⟨fun {f args h r h'} ho => ?_, fun {i args h r h'} ho => ?_⟩
  · unfold orT at ho
    split at ho
    · rename_i q hq; cases ho; exact ha.fn hq
    · exact hc.fn ho
  · unfold orT at ho
    split at ho
    · rename_i q hq; cases ho; exact ha.round hq
    · exact hc.round ho
theorem retX_some {o : Option (Value × Hp)} {z : Bool} {r : Value × Hp} (h : retX o = some (z, r)) : z = true ∧ o = some r := by
  unfold retX at h
  split at h
  · simp only [Option.some.injEq, Prod.mk.injEq] at h
    rename_i q
    obtain ⟨rfl, h⟩ := h
    exact ⟨rfl, by rw [h]⟩
  · cases h
theorem okX_some {X : XF} {t : Tgt} {a : List Value} {r : Value × Hp} (ho : okX X t a h = some r) : X t a h = some (true, r) := by
  unfold okX at ho
  split at ho
  · rename_i q hq; cases ho; exact hq
  · cases ho
theorem panX_some {X : XF} {f : FuncId} {a : List Value} {r : Value × Hp} (ho : panX X f a h = some r) : X (.fn f) a h = some (false, r) := by
  unfold panX at ho
  split at ho
  · rename_i q hq; cases ho; exact hq
  · cases ho

theorem leHp_spec (k : Nat) : ∀ (l r : Hp), leHp k l r = true → l.length = r.length ∧ ∀ (i : Nat) o, l[i]? = some o → o = .dead ∨ r[i]? = some o
  | [], [], _ => ⟨rfl, fun i o h => by simp at h⟩
  | x :: l, y :: r, h => by
    have key : leHp k l r = true → (x = .dead ∨ x = y) → (x :: l).length = (y :: r).length ∧ ∀ (i : Nat) o, (x :: l)[i]? = some o → o = .dead ∨ (y :: r)[i]? = some o := fun h hx => by
      obtain ⟨h1, h2⟩ := leHp_spec k l r h
      refine ⟨by simp [h1], fun i o ho => ?_⟩
      cases i with
      | zero =>
        simp at ho
        subst ho
        rcases hx with e | e
        · exact .inl e
        · exact .inr (by simp [e])
      | succ i => exact h2 i o (by simpa using ho)
    simp only [leHp] at h
    split at h
    · exact key h (.inl rfl)
    · split at h
      · rename_i hb; exact key h (.inr (eqObj_eq k _ _ hb))
      · cases h
  | [], _ :: _, h => by cases h
  | _ :: _, [], h => by cases h

theorem Sim.weaken {k : Nat} {l : Hp} (s : Sim B w0 m h w) (hl : leHp k l h = true) : Sim B w0 m l w := by
  obtain ⟨e, hd⟩ := leHp_spec k l h hl
  have get : ∀ (i : Nat) (o : AObj), l[i]? = some o → o.owns = true → h[i]? = some o := fun i o ho hw => by
    rcases hd i o ho with e | e
    · subst e; cases hw
    · exact e
  refine ⟨s.below, s.base, s.marks, s.nodup, fun i p hi => ?_, fun i j p q o o' hi hj ho ho' hw hw' => s.inj i j p q o o' hi hj (get i o ho hw) (get j o' ho' hw') hw hw', fun i g c hi => ?_⟩
  · obtain ⟨o, ho, hr⟩ := s.real i p hi
    have hlt : i < l.length := by rw [e]; exact (List.getElem?_eq_some_iff.1 ho).1
    refine ⟨l[i], List.getElem?_eq_getElem hlt, ?_⟩
    rcases hd i _ (List.getElem?_eq_getElem hlt) with e1 | e1
    · rw [e1]; trivial
    · rw [ho] at e1; cases e1; exact hr
  · rcases hd i _ hi with e1 | e1
    · cases e1
    · exact s.gl i g c e1

theorem tabOk_spec {o : Option (Bool × Value × Hp)} {r : Value} {l : Hp} (h : tabOk o r l = true) : ∃ h1, o = some (true, r, h1) ∧ leHp 20 l h1 = true := by
  unfold tabOk at h
  split at h
  · rename_i v h1
    split at h
    · rename_i hv
      exact ⟨h1, by rw [eqV_eq 20 _ _ hv], h⟩
    · cases h
  · cases h
theorem newOk_spec {o : Option (Bool × Value × Hp)} {n z : Nat} {cs : List Value} (h : newOk o n z cs = true) : ∃ i h1, o = some (true, .slice (some ⟨i, 0, none⟩) n z, h1) ∧ h1[i]? = some (.cells cs true) := by
  unfold newOk at h
  split at h
  · rename_i i k y h1
    split at h
    · rename_i c hc
      simp only [Bool.and_eq_true] at h
      have e1 := Nat.eq_of_beq_eq_true h.1
      have e2 := Nat.eq_of_beq_eq_true h.2.1
      have e3 := eqVs_eq (eqV_eq 20) _ _ h.2.2
      subst e1; subst e2; subst e3
      exact ⟨i, h1, rfl, hc⟩
    · cases h
  · cases h

theorem tabO_snd {X : XF} (hX : CSnd P (okX X)) {F : FuncId} {args : List Value} {r : Value} (hk : tabOk (X (.fn F) args h) r h' = true) : CSnd P (tabO F args h r h') := by
  obtain ⟨h1, hx, hle⟩ := tabOk_spec hk
  have hk : okX X (.fn F) args h = some (r, h1) := by unfold okX; rw [hx]
  refine ⟨fun {f a hh r1 h2} ho => ?_, fun ho => by cases ho⟩
  unfold tabO at ho
  simp only at ho
  split at ho
  · rename_i g1
    split at ho
    · rename_i g2
      split at ho
      · rename_i g3
        simp only [Option.some.injEq, Prod.mk.injEq] at ho
        obtain ⟨rfl, rfl⟩ := ho
        have e1 : f = F := Nat.eq_of_beq_eq_true g1
        have e2 := eqVs_eq (eqV_eq 20) _ _ g2
        have e3 := eqHp_eq 20 _ _ g3
        subst e1; subst e2; subst e3
        obtain ⟨e, _⟩ := leHp_spec 20 _ _ hle
        rcases hX.fn hk with ⟨q1, q2⟩ | ⟨q1, q2, q3, q4⟩
        · refine .inl ⟨q1, fun B w0 m w us s hus => (q2 B w0 m w us s hus).mono ?_⟩
          rintro e1 w' ⟨m', u, k1, k2, k3, k4⟩
          exact ⟨m', u, k1.at rfl e.symm, k2.weaken hle, k3, k4⟩
        · refine .inr ⟨q1, q2, q3, fun B w0 m w us s hus => ?_⟩
          obtain ⟨m', u, w', k1, k2, k3, k4⟩ := q4 B w0 m w us s hus
          exact ⟨m', u, w', k1.at rfl e.symm, k2.weaken hle, k3, k4⟩
      · cases ho
    · cases ho
  · cases ho

theorem newT_snd {X : XF} (hC : CSnd P (okX X)) {F g n z : Nat} {c cs : List Value} (hk : newOk (X (.fn F) [] [.glob g c]) n z cs = true)
    (hn : n ≠ 0) (hcs : cs.all ground = true) (hg : c.all ground = true) : CSnd P (newT F g c n z cs) := by
  obtain ⟨i, hh, hx, hi⟩ := newOk_spec hk
  have hk : okX X (.fn F) [] [.glob g c] = some (.slice (some ⟨i, 0, none⟩) n z, hh) := by unfold okX; rw [hx]
  refine ⟨fun {f a h r1 h1} ho => ?_, fun ho => by cases ho⟩
  unfold newT at ho
  simp only at ho
  split at ho
  · rename_i hf
    split at ho
    · split at ho
      · rename_i j hj
        split at ho
        · rename_i gg d hd
          split at ho
          · rename_i he
            simp only [Option.some.injEq, Prod.mk.injEq] at ho
            obtain ⟨rfl, rfl⟩ := ho
            have e1 : f = F := Nat.eq_of_beq_eq_true hf
            subst e1
            have e2 := eqVs_eq (eqV_eq 20) _ _ he
            subst e2
            obtain ⟨_, c', h3⟩ := findG_snd h g 0 j hj
            rw [Nat.sub_zero, hd] at h3
            cases h3
            rcases hC.fn hk with ⟨q1, q2⟩ | ⟨_, ⟨t, x, q⟩, _⟩
            · refine .inl ⟨q1, fun B w0 m w us s hus => ?_⟩
              have hus' : us = [] := List.length_eq_zero_iff.1 hus.1.symm
              subst hus'
              obtain ⟨p, hp⟩ := s.gl j g d hd
              obtain ⟨o', ho', hr⟩ := s.real j p hp
              rw [hd] at ho'
              cases ho'
              obtain ⟨e1, e2, e3, arr, ty, fz, hw, hsz, hcr⟩ := hr
              have hlt : g < w.heap.size := (Array.getElem?_eq_some_iff.1 hw).1
              have gr : ∀ {m : Pl} {l us : List Value}, l.all ground = true → VRels m l us → us = l := by
                intro m l us hl hr
                refine (List.ext_getElem? fun j => ?_)
                cases hx : l[j]? with
                | none =>
                  rw [List.getElem?_eq_none_iff] at hx
                  exact List.getElem?_eq_none_iff.2 (by rw [← hr.1]; exact hx)
                | some x =>
                  obtain ⟨u, hu, hur⟩ := hr.get hx
                  rw [hu, VRel.ground hur (List.all_eq_true.1 hl x (List.mem_of_getElem? hx))]
              have rf : ∀ (m : Pl) {l : List Value}, l.all ground = true → VRels m l l := fun m l hl =>
                ⟨rfl, fun j v u hv hu => by rw [hv] at hu; cases hu; exact VRel.refl m v (List.all_eq_true.1 hl v (List.mem_of_getElem? hv))⟩
              have s0 : Sim ⟨w.heap.size, []⟩ w (fun i => if i = 0 then some ⟨g, 0, 0⟩ else none) [.glob g d] w := by
                refine ⟨Below.refl _ _, Nat.le_refl _, fun b hb => (by cases hb), List.nodup_nil, fun i q hq => ?_, fun i k q r a b hq hr ha hb oa ob => ?_, fun i k x hx => ?_⟩
                · split at hq
                  · rename_i ei
                    subst ei
                    cases hq
                    refine ⟨_, rfl, rfl, rfl, hlt, arr, ty, fz, hw, hsz, ?_⟩
                    have := gr hg hcr
                    rw [this]
                    exact rf _ hg
                  · cases hq
                · split at hq
                  · rename_i ei
                    subst ei
                    simp at ha
                    subst ha
                    cases oa
                  · cases hq
                · have : i = 0 := by
                    have := (List.getElem?_eq_some_iff.1 hx).1
                    simpa using this
                  exact ⟨_, by rw [if_pos this]⟩
              refine (q2 _ _ _ _ _ s0 (.nil _)).mono fun e w' ⟨m', u, _, s1, hu, he'⟩ => ?_
              have sw := s.closed s1.below
              obtain ⟨hz, hcase⟩ := hu.slice_inv
              rcases hcase with ⟨p, c2, hp, hc, hlen, rfl⟩ | ⟨rfl, bb, rfl⟩
              · obtain ⟨o', ho', hr⟩ := s1.real i p hp
                rw [hi] at ho'
                cases ho'
                obtain ⟨arr2, t2, fz2, k1, k2, k3, k4, k5⟩ := hr
                rw [if_pos rfl] at k5
                have hge : w.heap.size ≤ p.block := k5.2
                have hnew := sw.adopt (o := .cells cs true) (p := p) ⟨arr2, t2, fz2, k1, k2, k3, by rw [gr hcs k4]; exact rf _ hcs, by rw [if_pos rfl]; exact ⟨k5.1, Nat.le_trans s.size hge⟩⟩ (fun j q o' hj ho' hw' e => by
                  obtain ⟨o2, ho2, hr2⟩ := s.real j q hj
                  rw [ho'] at ho2
                  cases ho2
                  have := hr2.lt (by intro e; rw [e] at hw'; cases hw')
                  omega)
                refine ⟨_, _, Stp.put _ _ (s.fresh (Nat.le_refl _)), hnew, ?_, he'⟩
                exact VRel.slice (m := m.put h.length p) h.length 0 n z c2 p (Pl.put_same _ _ _) hc hlen hz
              · exact absurd rfl hn
            · cases q
          · cases ho
        · cases ho
      · cases ho
    · cases ho
  · cases ho

theorem evX_snd (hN : NamesOk P) (hmo : P.follows .mixedOrders = true) (hT : CSnd P T) : ∀ k, CSnd P (okX (evX P R T k)) ∧ PSnd P (panX (evX P R T k))
  | 0 => ⟨⟨fun ho => by have := okX_some ho; simp [evX] at this, fun ho => by have := okX_some ho; simp [evX] at this⟩, ⟨fun ho => by have := panX_some ho; simp [evX] at this⟩⟩
  | k + 1 => by
    obtain ⟨ihC, ihD⟩ := evX_snd hN hmo hT k
    refine ⟨⟨fun {f args h r h'} ho => ?_, fun {i args h r h'} ho B w0 m w us p s hus hp => ?_⟩, ⟨fun {f args h v h'} ho => ?_⟩⟩
    · have ho := okX_some ho
      simp only [evX] at ho
      split at ho
      · rename_i q hq
        cases ho
        exact hT.fn hq
      · split at ho
        · rename_i hb; exact .inr (externO_snd hb (retX_some ho).2)
        · split at ho
          · exact .inl (evBody_snd ihC hmo (retX_some ho).2 hN)
          · exact .inl (evGuard_snd ihC ihD hN hmo ho)
    · have ho := okX_some ho
      simp only [evX] at ho
      exact evRound_snd ihC hmo (retX_some ho).2 s hus hp
    · have ho := panX_some ho
      simp only [evX] at ho
      split at ho
      · rename_i q hq
        cases ho
      · split at ho
        · exact absurd (retX_some ho).1 (by simp)
        · split at ho
          · exact absurd (retX_some ho).1 (by simp)
          · exact evGuard_snd ihC ihD hN hmo ho

end Go.Ev
