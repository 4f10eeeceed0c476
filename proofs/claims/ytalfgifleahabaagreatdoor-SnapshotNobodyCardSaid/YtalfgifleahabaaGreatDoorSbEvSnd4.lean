import Derived.Test.YtalfgifleahabaaGreatDoorSbEvSnd3
namespace Go.Ev
open Go.RowKit

variable {P : Program} {B : Bs} {w0 : World} {m : Pl} {h : Hp} {w : World} {E : Env} {a : Act}

/-- A row grown into a new block. -/
theorem grown_good (s : Sim B w0 m h w) {olds news us : List Value} {n size c : Nat} {e : TypeId} {z : Value} (hz : z.cells.size = size) (hsz : 0 < size) (ho : VRels m olds news) (hu : us.length = n * size)
    {vs : List Value} (hv : VRels m vs us) {k : Nat} (hk : news.length = k * size) (hc : k + n ≤ c) :
    ∃ m' w', Stp m h m' (h ++ [.cells (olds ++ vs) true]) ∧ Sim B w0 m' (h ++ [.cells (olds ++ vs) true]) w' ∧ VRel m' (.slice (some ⟨h.length, 0, none⟩) (k + n) size) (.slice (some ⟨w.heap.size, 0, none⟩) (k + n) c) ∧
      w' = w.drew.alloc (.cells ((news ++ us) ++ (Builtin.zeroCells z.cells (c - (k + n))).toList).toArray e) := by
  have hs := (s.drew).newCells (olds ++ vs) (news ++ us) (Builtin.zeroCells z.cells (c - (k + n))).toList e (ho.append hv)
  have hl : (news ++ us).length + (Builtin.zeroCells z.cells (c - (k + n))).toList.length = c * size := by
    simp only [List.length_append, Array.length_toList, size_zeroCells, hz, hk, hu, ← Nat.add_mul]
    congr 1; omega
  rw [hl] at hs
  refine ⟨_, _, Stp.put _ _ (s.fresh (Nat.le_refl _)), hs, ?_, rfl⟩
  have := VRel.slice (m := m.put h.length ⟨w.drew.heap.size, 0, c * size⟩) h.length 0 (k + n) size c _ (Pl.put_same _ _ _) (by simp) hc hsz
  simpa using this

theorem evAppend_snd (s : Sim B w0 m h w) {ts : List TypeId} {x y v ux uy : Value} {h' : Hp} (ty : TypeId) (hl : evAppend P h ts x y = some (v, h')) (hx : VRel m x ux) (hy : VRel m y uy) :
    Good B w0 m h v h' ((Builtin.append_ ts.toArray ty #[ux, uy]).run P w) := by
  unfold evAppend at hl
  split at hl
  · rename_i st xt
    split at hl
    · rename_i e hu
      split at hl
      · rename_i inf k news hinf hnews
        have hsz : sizeO P e = some inf.size := by simp [sizeO, hinf]
        have hnl := news_size hnews hsz
        rcases evNews_snd s hnews hy hsz with ⟨hty, hsrc⟩ | ⟨rfl, rfl, ⟨kd, rfl⟩, kk, hkk⟩
        rotate_left
        · -- a row of no zeros
          simp only at hl
          have key : ∀ (base : Option Addr) (n cap : Nat), n ≤ cap → (Builtin.append_ [st, xt].toArray ty #[.slice base n cap, .int kd 0]).run P w = .ok (.slice base n cap) w := by
            intro base n cap hn
            have hw : IntKind.i64.wrap 0 = 0 := by decide
            cases base <;> simp [Builtin.append_, run_underlying hu, run_underlying hkk, sizeOf, typeInfo, hinf, asInt, asIntOf, hw, hn, storeCells]
          split at hl
          · cases hl
            have := hx.slice_nil_inv
            subst this
            exact ⟨m, _, w, Stp.refl m h, s, .sliceNil, key none 0 0 (Nat.le_refl _), fun _ => rfl⟩
          · rename_i i off n z
            cases hl
            have hx' := hx
            obtain ⟨hz, hcase⟩ := hx.slice_inv
            rcases hcase with ⟨p, c, hp, hc, hlen, rfl⟩ | ⟨rfl, bb, rfl⟩
            · exact ⟨m, _, w, Stp.refl m h, s, hx', key _ _ _ hlen, fun _ => rfl⟩
            · exact ⟨m, _, w, Stp.refl m h, s, hx', key _ _ _ (Nat.le_refl _), fun _ => rfl⟩
          · cases hl
        have src : ∃ us, VRels m news us ∧ Src P w inf.size xt uy k us := by
          rcases hsrc with ⟨rfl, rfl, rfl⟩ | ⟨b, c, us, rfl, hus, hlen, hcell⟩
          · exact ⟨[], VRels.nil m, Src.none hty⟩
          · exact ⟨us, hus, Src.some hty hlen hcell⟩
        obtain ⟨us, hus, hS⟩ := src
        split at hl
        · -- nothing is appended
          have hnil : news = [] := List.eq_nil_of_length_eq_zero (by simpa using hnl)
          subst hnil
          have hus0 : us = [] := List.eq_nil_of_length_eq_zero (by have := hus.1; simpa using this.symm)
          subst hus0
          obtain ⟨ee, hee⟩ := hS.ty
          have key : ∀ (base : Option Addr) (n cap : Nat), n ≤ cap → (Builtin.append_ [st, xt].toArray ty #[.slice base n cap, uy]).run P w = .ok (.slice base n cap) w := by
            intro base n cap hn
            cases base <;> simp [Builtin.append_, run_underlying hu, run_underlying hee, sizeOf, typeInfo, hinf, hS.len, hn, hS.first, storeCells]
          split at hl
          · cases hl
            have := hx.slice_nil_inv
            subst this
            exact ⟨m, _, w, Stp.refl m h, s, .sliceNil, key none 0 0 (Nat.le_refl _), fun _ => rfl⟩
          · rename_i i off n z
            cases hl
            have hx' := hx
            obtain ⟨hz, hcase⟩ := hx.slice_inv
            rcases hcase with ⟨p, c, hp, hc, hlen, rfl⟩ | ⟨rfl, bb, rfl⟩
            · exact ⟨m, _, w, Stp.refl m h, s, hx', key _ _ _ hlen, fun _ => rfl⟩
            · exact ⟨m, _, w, Stp.refl m h, s, hx', key _ _ _ (Nat.le_refl _), fun _ => rfl⟩
          · cases hl
        · rename_i k0 z hz
          split at hl
          · rename_i hg hzs hpos hone
            have hzs' : z.cells.size = inf.size := Nat.eq_of_beq_eq_true hzs
            have hpos' : 0 < inf.size := Nat.le_of_ble_eq_true hpos
            have hone' := hus.one hone
            split at hl
            · -- onto nil
              split at hl
              · rename_i hb1 hb2
                cases hl
                have hb1' := Nat.le_of_ble_eq_true hb1
                have hb2' := Nat.le_of_ble_eq_true hb2
                have := hx.slice_nil_inv
                subst this
                obtain ⟨c, hc, hrun⟩ := run_append_out (st := st) (xt := xt) (ty := ty) hu hinf hz (base := none) (n := 0) (cap := 0) (olds := []) (run_firstCells_none w.drew inf.size 0 0 0) hS (by omega) (by omega) (by simpa using hb1')
                obtain ⟨m', w', h1, h2, h3, h4⟩ := grown_good s (olds := []) (news := []) (k := 0) (e := e) hzs' hpos' (VRels.nil m) hS.size hus (by simp) hc
                refine ⟨m', _, w', h1.at rfl (by simp), by simpa using h2, by simpa using h3, ?_, fun e => hp_longer e⟩
                rw [h4]
                simpa using hrun
              · cases hl
            · rename_i i off n zz
              split at hl
              · rename_i c hown hb1 hb2 hzz
                have hb1' := Nat.le_of_ble_eq_true hb1
                have hb2' := Nat.le_of_ble_eq_true hb2
                have ezz : zz = inf.size := Nat.eq_of_beq_eq_true hzz
                subst ezz
                split at hl
                · rename_i olds hcut
                  cases hl
                  obtain ⟨hle, rfl⟩ := cut_some hcut
                  have ho := ownAt_some hown
                  obtain ⟨_, hcase⟩ := hx.slice_inv
                  -- a new block
                  have grow : ∀ (base : Option Addr) (cap : Nat) (os : List Value), VRels m ((c.drop off).take (n * inf.size)) os → os.length = n * inf.size →
                      (Builtin.firstCells inf.size n (.slice base n cap)).run P w.drew = .ok os.toArray w.drew → cap < n + (k0 + 1) →
                      Good B w0 m h (.slice (some ⟨h.length, 0, none⟩) (n + (k0 + 1)) inf.size) (h.set i .dead ++ [.cells ((c.drop off).take (n * inf.size) ++ news) true])
                        ((Builtin.append_ [st, xt].toArray ty #[.slice base n cap, uy]).run P w) := by
                    intro base cap os hos hol hf hcap
                    obtain ⟨c', hc', hrun⟩ := run_append_out (st := st) (xt := xt) (ty := ty) hu hinf hz (base := base) (n := n) (cap := cap) (olds := os) hf hS hcap hb2' hb1'
                    obtain ⟨m', w', h1, h2, h3, h4⟩ := grown_good (s.kill i) (e := e) hzs' hpos' hos hS.size hus hol hc'
                    simp only [List.length_set] at h3
                    refine ⟨m', _, w', h1.at (by simp) rfl, h2, h3, ?_, fun e => hp_longer' e⟩
                    rw [h4]
                    exact hrun
                  rcases hcase with ⟨p, cap, hp, hcap, hlen, rfl⟩ | ⟨rfl, bb, rfl⟩
                  · by_cases hroom : n + (k0 + 1) ≤ cap
                    · -- in place
                      obtain ⟨arr, t, fz, g1, g2, g3, g4, g5⟩ := s.get hp ho
                      rw [if_pos rfl] at g5
                      obtain ⟨rfl, hB⟩ := g5
                      have hul : us.length = (k0 + 1) * inf.size := hS.size
                      have hmul : (n + (k0 + 1)) * inf.size ≤ cap * inf.size := Nat.mul_le_mul_right _ hroom
                      rw [Nat.add_mul] at hmul
                      have hrun := run_append_in (st := st) (xt := xt) (ty := ty) hu hinf (o := p.base + off) g1 hS hone' hroom (by omega)
                      have st1 := s.trash hp ho ((arr.toList.take (p.base + off + n * inf.size) ++ us ++ arr.toList.drop (p.base + off + n * inf.size + us.length)).toArray)
                      have hb := setRow_heap w p.block arr (arr.toList.take (p.base + off + n * inf.size) ++ us ++ arr.toList.drop (p.base + off + n * inf.size + us.length)).toArray t _ g1
                      have hnl' : news.length = us.length := hus.1
                      have hlen0 : ((c.drop off).take (n * inf.size)).length = n * inf.size := by simp; omega
                      have hf : m (h.set i .dead).length = none := by rw [List.length_set]; exact s.fresh (Nat.le_refl _)
                      have hle' := Pl.put_le (p := (⟨p.block, p.base + off, p.ext - off⟩ : Place)) hf
                      have st2 := st1.adopt (o := .cells ((c.drop off).take (n * inf.size) ++ news) true) (p := ⟨p.block, p.base + off, p.ext - off⟩) ?_ ?_
                      · rw [List.length_set] at st2 hle'
                        refine ⟨_, _, _, (Stp.put _ .dead (s.fresh (Nat.le_refl _))).at rfl (by simp), st2, ?_, hrun, fun e => hp_longer' e⟩
                        exact VRel.slice (m := m.put h.length ⟨p.block, p.base + off, p.ext - off⟩) h.length 0 (n + (k0 + 1)) inf.size cap _ (Pl.put_same _ _ _) (by simp; omega) hroom hpos'
                      · refine ⟨_, t, (0, 0), hb, ?_, ?_, ?_, by simp [hB]⟩
                        · simp; omega
                        · rw [List.length_append, hlen0, hnl']; simp; omega
                        · rw [List.length_append, hlen0, hnl']
                          have key : ((arr.toList.take (p.base + off + n * inf.size) ++ us ++ arr.toList.drop (p.base + off + n * inf.size + us.length)).toArray.toList.drop (p.base + off)).take (n * inf.size + us.length) =
                              (((arr.toList.drop p.base).take c.length).drop off).take (n * inf.size) ++ us := by
                            apply List.ext_getElem?
                            intro j
                            simp only [List.getElem?_take, List.getElem?_drop, List.getElem?_append, List.length_append, List.length_take, List.length_drop, Array.length_toList]
                            have e1 : min (n * inf.size) (min c.length (arr.size - p.base) - off) = n * inf.size := by omega
                            have e2 : min (p.base + off + n * inf.size) arr.size = p.base + off + n * inf.size := by omega
                            simp only [e1, e2]
                            by_cases k1 : j < n * inf.size
                            · have a1 : j < n * inf.size + us.length := by omega
                              have a2 : p.base + off + j < p.base + off + n * inf.size + us.length := by omega
                              have a3 : p.base + off + j < p.base + off + n * inf.size := by omega
                              have a4 : off + j < c.length := by omega
                              simp [k1, a1, a4, Nat.add_assoc]
                            · by_cases k2 : j < n * inf.size + us.length
                              · have a2 : p.base + off + j < p.base + off + n * inf.size + us.length := by omega
                                have a3 : ¬ p.base + off + j < p.base + off + n * inf.size := by omega
                                have a4 : p.base + off + j - (p.base + off + n * inf.size) = j - n * inf.size := by omega
                                simp [k1, k2, a2, a3, a4]
                              · have a5 : us[j - n * inf.size]? = none := List.getElem?_eq_none (by omega)
                                simp [k1, k2, a5]
                          rw [key]
                          exact (((g4.drop off).take (n * inf.size)).mono hle').append (hus.mono hle')
                      · intro j q o' hq ho' hown'
                        by_cases hji : j = i
                        · subst hji
                          rw [List.getElem?_set_self (List.getElem?_eq_some_iff.1 ho).1] at ho'
                          cases ho'
                          simp [AObj.owns] at hown'
                        · rw [List.getElem?_set_ne (Ne.symm hji)] at ho'
                          exact fun e => hji (s.inj j i q p o' _ hq hp ho' ho hown' rfl e)
                    · obtain ⟨os, hos, hol, hcell⟩ := s.cells hp ho hle
                      exact grow _ cap os hos hol (run_firstCells_some w.drew inf.size n _ n cap os hol hcell) (by omega)
                  · have h0 : 0 * inf.size = 0 := Nat.zero_mul _
                    refine grow _ 0 [] (by rw [h0]; simpa using VRels.nil m) (by simp) ?_ (by omega)
                    exact run_firstCells_some w.drew inf.size 0 bb 0 0 [] (by simp) (by simp)
                · cases hl
              · cases hl
            · cases hl
          · cases hl
        · cases hl
      · cases hl
    · cases hl
  · cases hl

end Go.Ev
