import Derived.Test.YtalfgifleahabaaGreatDoorSbEvSnd2
namespace Go.Ev
open Go.RowKit

variable {P : Program} {B : Bs} {w0 : World} {m : Pl} {h : Hp} {w : World} {E : Env} {a : Act}

theorem VRel.slice_nil_inv {u : Value} (hr : VRel m (.slice none 0 0) u) : u = .slice none 0 0 := by
  cases hr with
  | sliceNil => rfl

theorem evSlice_snd {t : TypeId} {x u v : Value} {lo hi ulo uhi : Option Value} (hl : evSlice P t x lo hi = some v) (hr : VRel m x u) (hlo : ORel m lo ulo) (hhi : ORel m hi uhi) (w : World) :
    ∃ r, (Instr.sliceAt t u ulo uhi none).run P w = .ok r w ∧ VRel m v r := by
  unfold evSlice at hl
  split at hl
  · rename_i e i off len z hu
    obtain ⟨hz, hcase⟩ := hr.slice_inv
    split at hl
    · rename_i b sz hb hsz
      split at hl
      · rename_i a' ha hzs
        cases hl
        have ez : z = sz := Nat.eq_of_beq_eq_true hzs
        subst ez
        rcases hcase with ⟨p, k, hp, hk, hlen, rfl⟩ | ⟨rfl, bb, rfl⟩
        · obtain ⟨hsb, hab, hbl⟩ := sliceBounds_ok (P := P) hb ha hlo hhi hlen w
          by_cases hka : k = a'
          · subst hka
            have e0 : b - k = 0 := by omega
            refine ⟨.slice (some ⟨p.block, p.base + off, none⟩) (b - k) (k - k), ?_, ?_⟩
            · simp [Instr.sliceAt, run_underlying hu, Instr.slice, hsb, run_sizeO hsz]
            · rw [e0, Nat.sub_self]
              exact .sliceEnd i _ z _ hz
          · refine ⟨.slice (some ⟨p.block, p.base + (off + a' * z), none⟩) (b - a') (k - a'), ?_, ?_⟩
            · simp [Instr.sliceAt, run_underlying hu, Instr.slice, hsb, run_sizeO hsz, hka, add_addr, Nat.add_assoc]
            · refine .slice i _ _ z _ p hp ?_ (by omega) hz
              have hle : a' ≤ k := by omega
              have : a' * z + (k - a') * z = k * z := by rw [← Nat.add_mul]; congr 1; omega
              omega
        · obtain ⟨hsb, hab, hbl⟩ := sliceBounds_ok (P := P) hb ha hlo hhi (Nat.le_refl _) w
          have hb0 : b = 0 := by omega
          have ha0 : a' = 0 := by omega
          subst hb0; subst ha0
          refine ⟨.slice (some bb) 0 0, ?_, ?_⟩
          · simp [Instr.sliceAt, run_underlying hu, Instr.slice, hsb, run_sizeO hsz]
          · exact .sliceEnd i _ z _ hz
      · cases hl
    · cases hl
  · rename_i e hu
    have := hr.slice_nil_inv
    subst this
    split at hl
    · rename_i b a' sz hb ha hsz
      cases hl
      have hb0 : b = 0 := by
        rcases boundO_some hb hhi with ⟨_, _, e5⟩ | ⟨_, _, _, _, e6, e7⟩ <;> omega
      subst hb0
      obtain ⟨hsb, hab, hbl⟩ := sliceBounds_ok (P := P) hb ha hlo hhi (Nat.le_refl _) w
      have ha0 : a' = 0 := by omega
      subst ha0
      exact ⟨.slice none 0 0, by simp [Instr.sliceAt, run_underlying hu, Instr.slice, hsb, run_sizeO hsz], .sliceNil⟩
    · cases hl
  · cases hl

/-! ### append -/
/-- The block of an object that dies takes whatever cells. -/
theorem Sim.trash (s : Sim B w0 m h w) {i : Nat} {p : Place} {c : List Value} (hi : m i = some p) (ho : h[i]? = some (.cells c true)) (cs : Array Value) : Sim B w0 m (h.set i .dead) (w.setRow p.block cs) := by
  have hr0 := s.get hi ho
  have hB : B.n ≤ p.block := hr0.owns_ge rfl
  obtain ⟨arr0, t0, fz0, g0, _⟩ := hr0
  have sk := s.kill i
  refine ⟨below_setRow s.below hB _, s.base, fun b hb => ⟨(s.marks b hb).1, by
    rw [setRow_other w p.block b _ (fun e => by have := (s.marks b hb).2; rw [e, g0] at this; cases this)]; exact (s.marks b hb).2⟩, s.nodup, fun j q hq => ?_, sk.inj, sk.gl⟩
  obtain ⟨o', ho', hr'⟩ := sk.real j q hq
  refine ⟨o', ho', hr'.frame fun hd => ?_⟩
  have hji : j ≠ i := by
    intro e; subst e
    rw [List.getElem?_set_self (List.getElem?_eq_some_iff.1 ho).1] at ho'
    cases ho'; exact hd rfl
  rw [List.getElem?_set_ne (Ne.symm hji)] at ho'
  refine setRow_other w p.block q.block _ fun e => ?_
  cases o' with
  | dead => exact hd rfl
  | cells c' rw' =>
    cases rw' with
    | true => exact hji (s.inj j i q p _ _ hq hi ho' ho rfl rfl e)
    | false => obtain ⟨_, _, _, _, _, _, _, h6⟩ := hr'; simp at h6; omega
  | loop st pending E n params assign body => exact hji (s.inj j i q p _ _ hq hi ho' ho rfl rfl e)
  | mp es => exact hji (s.inj j i q p _ _ hq hi ho' ho rfl rfl e)
  | glob g c => obtain ⟨e1, _, e3, _⟩ := hr'; omega

/-- A block that nobody owns is taken by a new object. -/
theorem Sim.adopt (s : Sim B w0 m h w) {o : AObj} {p : Place} (hr : Real B.n (m.put h.length p) w p o) (hn : ∀ j q o', m j = some q → h[j]? = some o' → o'.owns = true → q.block ≠ p.block) :
    Sim B w0 (m.put h.length p) (h ++ [o]) w := by
  have hf : m h.length = none := s.fresh (Nat.le_refl _)
  have hle := Pl.put_le (p := p) hf
  have hlt : ∀ j q, m j = some q → j < h.length := fun j q hq => by
    rcases Nat.lt_or_ge j h.length with k | k
    · exact k
    · rw [s.fresh k] at hq; cases hq
  refine ⟨s.below, s.base, s.marks, s.nodup, fun i q hq => ?_, fun i j q r a b hq hr' ha hb oa ob hbl => ?_, fun i g c hi => gl_app s.gl hi⟩
  · unfold Pl.put at hq
    split at hq
    · rename_i e; subst e; cases hq; exact ⟨o, by simp, hr⟩
    · obtain ⟨o', ho', hr'⟩ := s.real i q hq
      have hi := hlt i q hq
      exact ⟨o', by rw [List.getElem?_append_left hi]; exact ho', hr'.mono hle⟩
  · have key : ∀ (k : Nat) (q : Place) (a : AObj), (m.put h.length p) k = some q → (h ++ [o])[k]? = some a → a.owns = true → (k = h.length ∧ q = p) ∨ (k < h.length ∧ m k = some q ∧ h[k]? = some a) := by
      intro k q a hq ha oa
      unfold Pl.put at hq
      split at hq
      · rename_i e; cases hq; exact .inl ⟨e, rfl⟩
      · have hk := hlt k q hq
        rw [List.getElem?_append_left hk] at ha
        exact .inr ⟨hk, hq, ha⟩
    rcases key i q a hq ha oa with ⟨e1, e2⟩ | ⟨e1, e2, e3⟩ <;> rcases key j r b hr' hb ob with ⟨f1, f2⟩ | ⟨f1, f2, f3⟩
    · omega
    · subst e2; exact absurd hbl.symm (hn j r b f2 f3 ob)
    · subst f2; exact absurd hbl (hn i q a e2 e3 oa)
    · exact s.inj i j q r a b e2 f2 e3 f3 oa ob hbl

theorem evNews_snd (s : Sim B w0 m h w) {e xt : TypeId} {x u : Value} {k : Nat} {news : List Value} (hn : evNews P h e xt x = some (k, news)) (hr : VRel m x u) {sz : Nat} (hsz : sizeO P e = some sz) :
    ((∃ ee, P.underlying xt = some (.slice ee)) ∧ ((u = .slice none 0 0 ∧ k = 0 ∧ news = []) ∨ (∃ b c us, u = .slice (some b) k c ∧ VRels m news us ∧ us.length = k * sz ∧ ∀ j y, us[j]? = some y → w.cell? (b.add j) = some y))) ∨ (k = 0 ∧ news = [] ∧ (∃ kd, u = .int kd 0) ∧ ∃ kk, P.underlying xt = some (.int kk)) := by
  unfold evNews at hn
  split at hn
  · have := hr.slice_nil_inv
    subst this
    split at hn
    · rename_i ee hu; cases hn; exact .inl ⟨⟨_, hu⟩, .inl ⟨rfl, rfl, rfl⟩⟩
    · cases hn
  · rename_i j o kk z
    obtain ⟨hz, hcase⟩ := hr.slice_inv
    split at hn
    · rename_i ee sz' c hu hsz' hc
      rw [hsz] at hsz'; cases hsz'
      obtain ⟨rw, ho⟩ := cellsAt_some hc
      split at hn
      · rename_i l hcut hzs
        cases hn
        obtain ⟨hle, rfl⟩ := cut_some hcut
        refine .inl ⟨⟨_, hu⟩, .inr ?_⟩
        rcases hcase with ⟨p, kc, hp, hk, hlen, rfl⟩ | ⟨rfl, bb, rfl⟩
        · obtain ⟨us, hus, hlen', hcell⟩ := s.cells hp ho hle
          exact ⟨_, _, us, rfl, hus, hlen', hcell⟩
        · exact ⟨bb, 0, [], rfl, by simpa using VRels.nil m, by simp, by simp⟩
      · cases hn
    · cases hn
  · split at hn
    · rename_i kk hu
      cases hn
      cases hr
      exact .inr ⟨rfl, rfl, ⟨_, rfl⟩, _, hu⟩
    · cases hn
  · cases hn

theorem news_size {e xt : TypeId} {x : Value} {k : Nat} {news : List Value} (hn : evNews P h e xt x = some (k, news)) {sz : Nat} (hsz : sizeO P e = some sz) : news.length = k * sz := by
  unfold evNews at hn
  split at hn
  · split at hn
    · cases hn; simp
    · cases hn
  · split at hn
    · rename_i ee sz' c hu hsz' hc
      rw [hsz] at hsz'; cases hsz'
      split at hn
      · rename_i l hcut _
        cases hn
        obtain ⟨hle, rfl⟩ := cut_some hcut
        simp; omega
      · cases hn
    · cases hn
  · split at hn
    · cases hn; simp
    · cases hn
  · cases hn

/-- What an append reads of its source. -/
structure Src (P : Program) (w : World) (size : Nat) (xt : TypeId) (u : Value) (k : Nat) (us : List Value) : Prop where
  ty : ∃ ee, P.underlying xt = some (.slice ee)
  len : ∀ w' : World, (Builtin.lenOf u).run P w' = .ok k w'
  first : (Builtin.firstCells size k u).run P w = .ok us.toArray w
  first' : (Builtin.firstCells size k u).run P w.drew = .ok us.toArray w.drew
  size : us.length = k * size

theorem Src.none {size : Nat} {xt : TypeId} (ht : ∃ ee, P.underlying xt = some (.slice ee)) : Src P w size xt (.slice none 0 0) 0 [] :=
  ⟨ht, fun _ => by simp [Builtin.lenOf], run_firstCells_none w size 0 0 0, run_firstCells_none w.drew size 0 0 0, by simp⟩
theorem Src.some {size : Nat} {xt : TypeId} (ht : ∃ ee, P.underlying xt = .some (.slice ee)) {b : Addr} {k c : Nat} {us : List Value} (hl : us.length = k * size) (hc : ∀ j y, us[j]? = .some y → w.cell? (b.add j) = .some y) :
    Src P w size xt (.slice (.some b) k c) k us :=
  ⟨ht, fun _ => by simp [Builtin.lenOf], run_firstCells_some w size k b k c us hl hc, run_firstCells_some w.drew size k b k c us hl hc, hl⟩

theorem run_append_in {st xt ty e : TypeId} {i : TypeInfo} (ht : P.underlying st = some (.slice e)) (hi : P.info? e = some i) {g o n cap : Nat} {cur : Array Value} {et : TypeId} (hg : w.heap[g]? = some (.cells cur et (0, 0)))
    {u : Value} {k : Nat} {us : List Value} (hs : Src P w i.size xt u k us) (h1 : ∀ y ∈ us, y.oneCell' = true) (hroom : n + k ≤ cap) (hfit : o + n * i.size + us.length ≤ cur.size) :
    (Builtin.append_ #[st, xt] ty #[.slice (some ⟨g, o, none⟩) n cap, u]).run P w =
      .ok (.slice (some ⟨g, o, none⟩) (n + k) cap) (w.setRow g (cur.toList.take (o + n * i.size) ++ us ++ cur.toList.drop (o + n * i.size + us.length)).toArray) := by
  obtain ⟨ee, hee⟩ := hs.ty
  have hst := run_storeCells_at P g (o + n * i.size) et us 0 cur w hg (by simpa using hfit) h1
  simp only [Nat.add_zero] at hst
  simp [Builtin.append_, run_underlying ht, run_underlying hee, sizeOf, typeInfo, hi, hs.len, hroom, hs.first, add_addr, hst]

theorem run_append_out {st xt ty e : TypeId} {i : TypeInfo} {z : Value} (ht : P.underlying st = some (.slice e)) (hi : P.info? e = some i) (hz : i.zero = some z) {base : Option Addr} {n cap : Nat} {olds : List Value}
    (hb : (Builtin.firstCells i.size n (.slice base n cap)).run P w.drew = .ok olds.toArray w.drew)
    {u : Value} {k : Nat} {us : List Value} (hs : Src P w i.size xt u k us) (hg : cap < n + k) (h63 : n + k ≤ 9007199254740992) (h48 : (n + k) * i.bytes ≤ 140737488355328) :
    ∃ c, n + k ≤ c ∧ (Builtin.append_ #[st, xt] ty #[.slice base n cap, u]).run P w =
      .ok (.slice (some ⟨w.heap.size, 0, none⟩) (n + k) c) (w.drew.alloc (.cells ((olds ++ us) ++ (Builtin.zeroCells z.cells (c - (n + k))).toList).toArray e)) := by
  obtain ⟨ee, hee⟩ := hs.ty
  refine ⟨grownCap w (n + k) cap e, grownCap_ge _ _ _ _, ?_⟩
  have hn : ¬ (n + k ≤ cap) := by omega
  have h63' : ¬ (9223372036854775807 < ((n : Int) + (k : Int))) := by omega
  have h48' : ¬ (281474976710656 < Builtin.nextslicecap (n + k) cap * i.bytes) := by have := growslice_fits hg h48; omega
  simp [Builtin.append_, run_underlying ht, run_underlying hee, sizeOf, typeInfo, zeroValue, hi, hz, hs.len, hn, h63', h48', Question.forced, hs.first', hb, newRow, grownCap]
  congr 2
  apply Array.ext'
  simp

end Go.Ev
