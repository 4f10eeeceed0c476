import Derived.Test.YtahomnlkkafbjaaWithinE
set_option linter.unusedVariables false
namespace Go.Proofs.Ytahomnlkkafbjaa.tr
open Go Go.Ev
set_option maxRecDepth 100000
set_option linter.unusedVariables false
set_option linter.constructorNameAsVariable false

/-! ### TreeWithin: the plain law -/

/-- What stands in a way up. -/
def okL (t : TS) (p : Pr) : Prop := (p.1 = 1 ∧ ∃ m x, p.2 = ((m + 1 : Nat) : Int) ∧ t.tks[m]? = some x ∧ x.en = false) ∨ (p.1 = 2 ∧ ∃ s y, p.2 = ((s + 1 : Nat) : Int) ∧ t.scs[s]? = some y ∧ y.ov = false) ∨ p.1 = 3
theorem chainG_ok {t : TS} {c : Nat} (ok : TOk c t) (W : WI none t) : ∀ (f k top : Nat) (x : Tk), k < f → t.tks[k]? = some x → x.en = false →
    (∀ p, p ∈ t.chainG f k top → okL t p) ∧ ∃ m z, (t.chainG f k top).getLast? = some (1, ((m + 1 : Nat) : Int)) ∧ t.tks[m]? = some z ∧ z.inn = none := by
  intro f
  induction f with
  | zero => intro k top x hk; omega
  | succ f ih =>
    intro k top x hk hx he
    have pre : ∀ p, p ∈ (x.opn.take top).reverse.map lkP ++ [((1 : Int), ((k + 1 : Nat) : Int))] → okL t p := fun p hp => by
      rcases List.mem_append.1 hp with hp | hp
      · obtain ⟨v, hv, rfl⟩ := List.mem_map.1 hp
        have hm := List.mem_of_mem_take (List.mem_reverse.1 hv)
        cases v with
        | none => exact .inr (.inr rfl)
        | some s =>
          obtain ⟨y, hy⟩ : ∃ y, t.scs[s]? = some y := ⟨_, List.getElem?_eq_getElem (ok.opn k x s hx hm)⟩
          exact .inr (.inl ⟨rfl, s, y, rfl, hy, (open_ov W hx hm hy).1⟩)
      · rw [List.mem_singleton] at hp
        subst hp
        exact .inl ⟨rfl, k, x, rfl, hx, he⟩
    rw [TS.chainG]
    simp only [hx]
    cases hi : x.inn with
    | none =>
      simp only [List.append_nil]
      exact ⟨pre, k, x, by simp, hx, hi⟩
    | some s =>
      obtain ⟨y, zz, hy, hz, hov, hin, hen, hlt⟩ := W.above ok hx he hi
      simp only [hy, hz]
      obtain ⟨h1, m, w, h2, h3, h4⟩ := ih y.ow (ixO (some s) zz.opn) zz (by omega) hz hen
      refine ⟨fun p hp => ?_, m, w, ?_, h3, h4⟩
      · rcases List.mem_append.1 hp with hp | hp
        · exact pre p hp
        · rcases List.mem_cons.1 hp with rfl | hp
          · exact .inr (.inl ⟨rfl, s, y, rfl, hy, hov⟩)
          · exact h1 p hp
      · have hne : t.chainG f y.ow (ixO (some s) zz.opn) ≠ [] := fun e => by rw [e] at h2; cases h2
        rw [List.getLast?_append, List.getLast?_cons, h2]
        simp

def lastT (l : List Pr) : Pr := l.foldl (fun a p => if p.1 = 1 then p else a) (0, 0)
theorem lastT_last {l : List Pr} {p : Pr} (h : l.getLast? = some p) (hp : p.1 = 1) : lastT l = p := by
  have hne : l ≠ [] := fun e => by rw [e] at h; cases h
  have e := List.dropLast_concat_getLast hne
  rw [List.getLast?_eq_some_getLast hne] at h
  simp only [Option.some.injEq] at h
  rw [h] at e
  rw [lastT, ← e, List.foldl_append]
  simp [hp]
theorem lastT_one (l : List Pr) (p : Pr) : lastT (l ++ [p]) = if p.1 = 1 then p else lastT l := by simp [lastT, List.foldl_append]

theorem stat5 : (Asm.stat (drawN Try.f5 0)).holds Try.prog := show statOk (drawN Try.f5 0) = true by kernel_rfl

section
variable {h : Hp} {ρ : Lay} {t : TS} {c b : Nat}

theorem within_links (a : TAt h ρ t) (ok : TOk c t) (hc : c ≤ 1000) (hr : ρ .root = some b) {l : List Pr} {o d11 : Nat} {n : Int} (hb : l.length ≤ 1000000) (good : ∀ p, p ∈ l → okL t p) {g0 : Hp} (K0 : Keep (fun _ => False) h g0) (ho : g0[o]? = some (.cells (prL l) true)) (hd : h.length ≤ d11) (hne : o ≠ d11) :
    ∀ (r j : Nat) (E : Env) (g : Hp), j + r = l.length → EnvLe [(73, .int .i64 (j : Int)), (72, .int .i64 (Int.ofNat l.length)), (71, .slice (some ⟨o, 0, none⟩) l.length 2), (6, .int .i64 n), (5, ptr b), (7, .slice (some ⟨o, 0, none⟩) l.length 2), (11, ptr d11)] E →
      Keep (fun q => q = d11) g0 g → g[d11]? = some (.cells (prC (lastT (l.take j))) true) →
      ∃ E1 g', EnvLe [(6, .int .i64 n), (5, ptr b), (7, .slice (some ⟨o, 0, none⟩) l.length 2), (11, ptr d11)] E1 ∧ LRun Try.prog 130 false (loopN Try.f5 1) E g (.exit 2) E1 g' ∧ Keep (fun q => q = d11) g0 g' ∧ g'[d11]? = some (.cells (prC (lastT l)) true) := by
  intro r
  induction r with
  | zero =>
    intro j E g hj hE K hg
    have e : j = l.length := by omega
    subst e
    rw [List.take_length] at hg
    obtain ⟨E2, q1, q2⟩ := pvC 0 hE (r40p.wl_out b d11 0 0 0 o l.length 0 0 none n l.length 0 0 0 0 0 0 0 0 false false ⟨#[]⟩ g g) ⟨ltF (by simp), trivial⟩
    exact ⟨E2, g, .trans (.add (.add (.add (.add (.nil _) rfl) rfl) rfl) rfl) q1, .last q2 (by simp), K, hg⟩
  | succ r ih =>
    intro j E g hj hE K hg
    obtain ⟨p, hp⟩ : ∃ p, l[j]? = some p := ⟨_, List.getElem?_eq_getElem (by omega)⟩
    have n64 := ok.n64
    have n200 := ok.n200
    have ll := prL_len l
    have hog := K.2 _ _ ho hne
    have hat : ((prL l).drop (j * 2)).take 2 = prC p := by have := prL_at (l := l) (k := j) (p := p) [] hp; rwa [List.append_nil] at this
    have K0g : Keep (fun _ => False) h g := K0.trans_new K fun q hq e => by omega
    have dl := get_lt hg
    have hlt : lastT (l.take (j + 1)) = if p.1 = 1 then p else lastT (l.take j) := by rw [take_one hp, lastT_one]
    have Ka : Keep (fun _ => False) g ((g ++ [AObj.cells [.int .i64 0, .int .i64 0] true]).set g.length (.cells (prC p) true)) := ((Keep.refl (fun _ => False) g).pushN _).setN (Nat.le_refl _) _
    have hn : ((g ++ [AObj.cells [.int .i64 0, .int .i64 0] true]).set g.length (.cells (prC p) true))[g.length]? = some (.cells (prC p) true) := get_set_eq (get_new _ _)
    have aa := a.grow (K0g.trans Ka)
    have B1 : (Asm.cmp .lss (j : Int) (Int.ofNat l.length) true).holds Try.prog := ltT (by simp; omega)
    have B2 : (Asm.off (j * 2) 0 (j : Int) l.length 2).holds Try.prog := offI (q := j) rfl (by omega) (by omega)
    have B3 : (Asm.ldn (.is g) o (j * 2) 2 (prC p)).holds Try.prog := a_ldn hog (by omega) hat
    have B5 : (Asm.st (.push (.is g) (.cells [.int .i64 0, .int .i64 0] true)) g.length 0 (prC p) (prC p)).holds Try.prog := a_st (get_new _ _) (by simp [prC]) rfl
    have B6 : (Asm.ld1 (.set (.push (.is g) (.cells [.int .i64 0, .int .i64 0] true)) g.length (.cells (prC p) true)) g.length 0 (.int .i64 p.1)).holds Try.prog := a_ld1 hn rfl
    have B7 : (Asm.ld1 (.set (.push (.is g) (.cells [.int .i64 0, .int .i64 0] true)) g.length (.cells (prC p) true)) g.length 1 (.int .i64 p.2)).holds Try.prog := a_ld1 hn rfl
    have B9 : (Asm.arith .add .i64 (j : Int) 1 ((j + 1 : Nat) : Int)).holds Try.prog := addI rfl (by omega) (by omega)
    rcases good p (List.mem_of_getElem? hp) with ⟨h1, m, x, h2, hx, he⟩ | ⟨h1, s, y, h2, hy, hov⟩ | h3
    · obtain ⟨v, g2, r1, K2, V⟩ := task_run aa ok (by omega) hr p.2
      rw [h2, task_at hx] at r1 V
      rw [← h2] at r1
      obtain ⟨_, ov, zv, rfl, _⟩ := V.g
      have he' : (tkV x).en = false := he
      obtain ⟨z0, hz0⟩ : ∃ z0 : List Value, z0 = [.int .i64 0, .bool false, .bool false, .int .i64 0, .string ⟨#[]⟩, .slice none 0 0] := ⟨_, rfl⟩
      have K3 : Keep (fun _ => False) g2 ((g2 ++ [AObj.cells z0 true]).set g2.length (.cells ((tkV x).C (.slice ov (tkV x).op.length zv)) true)) := ((Keep.refl (fun _ => False) g2).pushN _).setN (Nat.le_refl _) _
      have hn3 : ((g2 ++ [AObj.cells z0 true]).set g2.length (.cells ((tkV x).C (.slice ov (tkV x).op.length zv)) true))[g2.length]? = some (.cells ((tkV x).C (.slice ov (tkV x).op.length zv)) true) := get_set_eq (get_new _ _)
      have C1 : (Asm.st (.push (.is g2) (.cells z0 true)) g2.length 0 ((tkV x).C (.slice ov (tkV x).op.length zv)) ((tkV x).C (.slice ov (tkV x).op.length zv))).holds Try.prog := a_st (get_new _ _) (by simp [hz0, TkV.C]) (by rw [hz0]; rfl)
      have C2 : (Asm.ld1 (.set (.push (.is g2) (.cells z0 true)) g2.length (.cells ((tkV x).C (.slice ov (tkV x).op.length zv)) true)) g2.length 1 (.bool (tkV x).en)).holds Try.prog := a_ld1 hn3 rfl
      have hpn := K3.2 _ _ (K2.2 _ _ hn id) id
      have C3 : (Asm.ldn (.set (.push (.is g2) (.cells z0 true)) g2.length (.cells ((tkV x).C (.slice ov (tkV x).op.length zv)) true)) g.length 0 2 (prC p)).holds Try.prog := a_ldn hpn (by simp [prC]) rfl
      have hd3 := K3.2 _ _ (K2.2 _ _ (Ka.2 _ _ hg id) id) id
      have C4 : (Asm.st (.set (.push (.is g2) (.cells z0 true)) g2.length (.cells ((tkV x).C (.slice ov (tkV x).op.length zv)) true)) d11 0 (prC p) (prC p)).holds Try.prog := a_st hd3 (by simp [prC]) (by simp [prC])
      have KK : Keep (fun q => q = d11) g0 (((g2 ++ [AObj.cells z0 true]).set g2.length (.cells ((tkV x).C (.slice ov (tkV x).op.length zv)) true)).set d11 (.cells (prC p) true)) :=
        (K.trans ((Ka.trans (K2.trans K3)).mono fun _ _ e => e.elim)).trans (Keep.set (fp := fun q => q = d11) rfl _)
      have hgd := get_set_eq (x := AObj.cells (prC p) true) hd3
      rw [hz0] at C1 C2 C3 C4 KK hgd
      simp only [TkV.C, he'] at r1 C1 C2 C3 C4 KK hgd
      obtain ⟨E2, q1, q2⟩ := pvC 0 hE (r40p.wl_t b d11 g.length g2.length (j * 2) o l.length (tkV x).op.length zv ov n j ((j + 1 : Nat) : Int) p.1 p.2 (tkV x).sc (tkV x).fk 0 0 0 (tkV x).lv false (tkV x).ft g g2)
        ⟨B1, B2, B3, rfl, B5, B6, eqT h1, B7, r1, rfl, C1, neF rfl, C2, C3, C4, B9, trivial⟩
      obtain ⟨E3, g5, s1, s2, s3, s4⟩ := ih (j + 1) E2 _ (by omega) (.trans (.add (.add (.add (.add (.add (.add (.add (.nil _) rfl) rfl) rfl) rfl) rfl) rfl) rfl) q1) KK (by rw [hlt, if_pos h1]; exact hgd)
      exact ⟨E3, g5, s1, .step q2 s2, s3, s4⟩
    · obtain ⟨v, g2, r1, K2, V⟩ := sco_run aa ok (by omega) hr p.2
      rw [h2, sco_at hy] at r1 V
      rw [← h2] at r1
      obtain ⟨_, ov, zv, rfl, _⟩ := V.g
      have he' : (scV y).ov = false := hov
      obtain ⟨z0, hz0⟩ : ∃ z0 : List Value, z0 = [.int .i64 0, .bool false, .bool false, .slice none 0 0, .int .i64 0, .string ⟨#[]⟩] := ⟨_, rfl⟩
      have K3 : Keep (fun _ => False) g2 ((g2 ++ [AObj.cells z0 true]).set g2.length (.cells ((scV y).C (.slice ov (scV y).tk.length zv)) true)) := ((Keep.refl (fun _ => False) g2).pushN _).setN (Nat.le_refl _) _
      have hn3 : ((g2 ++ [AObj.cells z0 true]).set g2.length (.cells ((scV y).C (.slice ov (scV y).tk.length zv)) true))[g2.length]? = some (.cells ((scV y).C (.slice ov (scV y).tk.length zv)) true) := get_set_eq (get_new _ _)
      have C1 : (Asm.st (.push (.is g2) (.cells z0 true)) g2.length 0 ((scV y).C (.slice ov (scV y).tk.length zv)) ((scV y).C (.slice ov (scV y).tk.length zv))).holds Try.prog := a_st (get_new _ _) (by simp [hz0, ScV.C]) (by rw [hz0]; rfl)
      have C2 : (Asm.ld1 (.set (.push (.is g2) (.cells z0 true)) g2.length (.cells ((scV y).C (.slice ov (scV y).tk.length zv)) true)) g2.length 2 (.bool (scV y).ov)).holds Try.prog := a_ld1 hn3 rfl
      have hd3 := K3.2 _ _ (K2.2 _ _ (Ka.2 _ _ hg id) id) id
      have KK : Keep (fun q => q = d11) g0 ((g2 ++ [AObj.cells z0 true]).set g2.length (.cells ((scV y).C (.slice ov (scV y).tk.length zv)) true)) := K.trans ((Ka.trans (K2.trans K3)).mono fun _ _ e => e.elim)
      rw [hz0] at C1 C2 KK hd3
      simp only [ScV.C, he'] at r1 C1 C2 KK hd3
      obtain ⟨E2, q1, q2⟩ := pvC 0 hE (r40p.wl_s b d11 g.length g2.length (j * 2) o l.length (scV y).tk.length zv ov n j ((j + 1 : Nat) : Int) p.1 p.2 0 0 0 (scV y).ow (scV y).fk false (scV y).su (scV y).ft g g2)
        ⟨B1, B2, B3, rfl, B5, B6, eqF (by omega), eqT h1, B7, r1, rfl, C1, neF rfl, C2, B9, trivial⟩
      obtain ⟨E3, g5, s1, s2, s3, s4⟩ := ih (j + 1) E2 _ (by omega) (.trans (.add (.add (.add (.add (.add (.add (.add (.nil _) rfl) rfl) rfl) rfl) rfl) rfl) rfl) q1) KK (by rw [hlt, if_neg (by omega)]; exact hd3)
      exact ⟨E3, g5, s1, .step q2 s2, s3, s4⟩
    · obtain ⟨E2, q1, q2⟩ := pvC 0 hE (r40p.wl_x b d11 g.length 0 (j * 2) o l.length 0 0 none n j ((j + 1 : Nat) : Int) p.1 p.2 0 0 0 0 0 false false ⟨#[]⟩ g g)
        ⟨B1, B2, B3, rfl, B5, B6, eqF (by omega), eqF (by omega), B9, trivial⟩
      obtain ⟨E3, g5, s1, s2, s3, s4⟩ := ih (j + 1) E2 _ (by omega) (.trans (.add (.add (.add (.add (.add (.add (.add (.nil _) rfl) rfl) rfl) rfl) rfl) rfl) rfl) q1) (K.trans (Ka.mono fun _ _ e => e.elim)) (by rw [hlt, if_neg (by omega)]; exact Ka.2 _ _ hg id)
      exact ⟨E3, g5, s1, .step q2 s2, s3, s4⟩

theorem chainG_len {t : TS} {c : Nat} (ok : TOk c t) : ∀ (f k top : Nat), (t.chainG f k top).length ≤ f * (c + 2)
  | 0, _, _ => by simp [TS.chainG]
  | f + 1, k, top => by
    rw [TS.chainG]
    cases hx : t.tks[k]? with
    | none => simp
    | some x =>
      have hl := ok.len k x hx
      have e : (f + 1) * (c + 2) = f * (c + 2) + (c + 2) := by rw [Nat.add_mul, Nat.one_mul]
      have h1 : ((x.opn.take top).reverse.map lkP).length ≤ c := by simp; omega
      simp only [List.length_append, List.length_singleton]
      rw [e]
      cases hi : x.inn with
      | none => simp only [List.length_nil]; omega
      | some s =>
        simp only
        cases hy : t.scs[s]? with
        | none => simp only [List.length_nil]; omega
        | some y =>
          simp only
          cases hz : t.tks[y.ow]? with
          | none => simp only [List.length_nil]; omega
          | some z =>
            have := chainG_len ok f y.ow (ixO (some s) z.opn)
            simp only [List.length_cons]
            omega

theorem runs_at {t : TS} {k : Nat} {x : Tk} (hx : t.tks[k]? = some x) : t.runs ((k + 1 : Nat) : Int) = if x.en then (none, 6) else (some k, 0) := by
  have hl := get_lt' hx
  unfold TS.runs
  have e : (((k + 1 : Nat) : Int) - 1).toNat = k := by omega
  simp only [e, hx]
  rw [if_neg (by omega)]
theorem runs_out {t : TS} {k : Nat} (h : t.tks.length ≤ k) : t.runs ((k + 1 : Nat) : Int) = (none, 6) := by
  unfold TS.runs
  rw [if_pos (by omega)]
theorem task_out {t : TS} {k : Nat} (h : t.tks.length ≤ k) : t.task ((k + 1 : Nat) : Int) = (.zero, 6) := by
  unfold TS.task
  rw [if_pos (by omega)]

theorem within_loop (a : TAt h ρ t) (ok : TOk c t) (hc : c ≤ 1000) (W : WI none t) (hr : ρ .root = some b) :
    ∀ (r k : Nat) (E : Env) (g : Hp), k + r = 64 → EnvLe [(6, .int .i64 ((k + 1 : Nat) : Int)), (5, ptr b)] E → Keep (fun _ => False) h g →
      ∃ E1 g', LRun Try.prog 130 false (loopN Try.f5 0) E g (.exit 0) E1 g' := by
  intro r
  induction r with
  | zero =>
    intro k E g hk hE K
    obtain ⟨E2, q1, q2⟩ := pvC 0 hE (r40p.wi_out b 0 0 0 0 0 0 0 0 0 0 none none ((k + 1 : Nat) : Int) 0 0 0 0 0 0 0 0 0 0 false false false false ⟨#[]⟩ ⟨#[]⟩ (.bool true) g g g g g) ⟨leF (by omega), trivial⟩
    exact ⟨E2, g, .last q2 (by simp)⟩
  | succ r ih =>
    intro k E g hk hE K
    have ag := a.grow K
    obtain ⟨v, g1, r1, K1, V1⟩ := chain_run ag ok hc W hr ((k + 1 : Nat) : Int)
    obtain ⟨v2, g2, r2, K2, V2⟩ := task_run (ag.grow K1) ok (by omega) hr ((k + 1 : Nat) : Int)
    obtain ⟨_, oa, za, rfl, _⟩ := V2.g
    obtain ⟨z0, hz0⟩ : ∃ z0 : List Value, z0 = [.int .i64 0, .bool false, .bool false, .int .i64 0, .string ⟨#[]⟩, .slice none 0 0] := ⟨_, rfl⟩
    have D1 : (Asm.cmp .leq ((k + 1 : Nat) : Int) 64 true).holds Try.prog := leT (by omega)
    have DA : (Asm.arith .add .i64 ((k + 1 : Nat) : Int) 1 ((k + 1 + 1 : Nat) : Int)).holds Try.prog := addI rfl (by omega) (by omega)
    have next : ∀ {E2 : Env} {g' : Hp}, EnvLe [(6, .int .i64 ((k + 1 + 1 : Nat) : Int)), (5, ptr b)] E2 → CRun Try.prog 130 false (loopN Try.f5 0) E g .normal E2 g' → Keep (fun _ => False) g g' → ∃ E1 g', LRun Try.prog 130 false (loopN Try.f5 0) E g (.exit 0) E1 g' := fun h1 h2 h3 => by
      obtain ⟨E3, g9, s1⟩ := ih (k + 1) _ _ (by omega) h1 (K.trans h3)
      exact ⟨E3, g9, .step h2 s1⟩
    have K3 : ∀ w : TkV, Keep (fun _ => False) g2 ((g2 ++ [AObj.cells z0 true]).set g2.length (.cells (w.C (.slice oa w.op.length za)) true)) := fun w => ((Keep.refl (fun _ => False) g2).pushN _).setN (Nat.le_refl _) _
    have hn3 : ∀ w : TkV, ((g2 ++ [AObj.cells z0 true]).set g2.length (.cells (w.C (.slice oa w.op.length za)) true))[g2.length]? = some (.cells (w.C (.slice oa w.op.length za)) true) := fun w => get_set_eq (get_new _ _)
    have C1 : ∀ w : TkV, (Asm.st (.push (.is g2) (.cells z0 true)) g2.length 0 (w.C (.slice oa w.op.length za)) (w.C (.slice oa w.op.length za))).holds Try.prog := fun w => a_st (get_new _ _) (by simp [hz0, TkV.C]) (by rw [hz0]; rfl)
    by_cases hkl : t.tks.length ≤ k
    · rw [task_out hkl] at r2
      have e1 : t.chain ((k + 1 : Nat) : Int) = ([], 6) := by simp only [TS.chain, runs_out hkl]
      rw [e1] at r1
      have C1' := C1 .zero
      have K3' := K3 .zero
      rw [hz0] at C1' K3'
      obtain ⟨E2, q1, q2⟩ := pvC 0 hE (r40p.wi_none b g2.length 0 0 0 0 0 0 za 0 0 oa none ((k + 1 : Nat) : Int) ((k + 1 + 1 : Nat) : Int) 6 0 0 0 0 0 0 0 0 false false false false ⟨#[]⟩ ⟨#[]⟩ v g g1 g2 g2 g2)
        ⟨D1, r1, r2, rfl, C1', neT (by omega), eqF (by omega), neT (by omega), neF rfl, DA, trivial⟩
      exact next (.trans (.add (.add (.nil _) rfl) rfl) q1) q2 (K1.trans (K2.trans K3'))
    · obtain ⟨x, hx⟩ : ∃ x, t.tks[k]? = some x := ⟨_, List.getElem?_eq_getElem (by omega)⟩
      rw [task_at hx] at r2
      have C1' := C1 (tkV x)
      have K3' := K3 (tkV x)
      have hn3' := hn3 (tkV x)
      rw [hz0] at C1' K3' hn3'
      cases he : x.en with
      | true =>
        have he' : (tkV x).en = true := he
        have e1 : t.chain ((k + 1 : Nat) : Int) = ([], 6) := by simp only [TS.chain, runs_at hx, he, if_true]
        rw [e1] at r1
        have C2 : (Asm.ld1 (.set (.push (.is g2) (.cells [.int .i64 0, .bool false, .bool false, .int .i64 0, .string ⟨#[]⟩, .slice none 0 0] true)) g2.length (.cells ((tkV x).C (.slice oa (tkV x).op.length za)) true)) g2.length 1 (.bool (tkV x).en)).holds Try.prog := a_ld1 hn3' rfl
        simp only [TkV.C, he'] at r2 C1' C2 K3'
        obtain ⟨E2, q1, q2⟩ := pvC 0 hE (r40p.wi_end b g2.length 0 0 0 0 0 (tkV x).op.length za 0 0 oa none ((k + 1 : Nat) : Int) ((k + 1 + 1 : Nat) : Int) 6 (tkV x).sc 0 (tkV x).fk 0 0 0 0 0 false (tkV x).lv false false (tkV x).ft ⟨#[]⟩ v g g1 g2 g2 g2)
          ⟨D1, r1, r2, rfl, C1', neT (by omega), eqT rfl, C2, neF rfl, DA, trivial⟩
        exact next (.trans (.add (.add (.nil _) rfl) rfl) q1) q2 (K1.trans (K2.trans K3'))
      | false =>
        have e1 : t.chain ((k + 1 : Nat) : Int) = (t.chainG (k + 1) k x.opn.length, 0) := by simp only [TS.chain, runs_at hx, he, Bool.false_eq_true, if_false, hx]
        obtain ⟨good, m, zz, hlast, hz, hzi⟩ := chainG_ok ok W (k + 1) k x.opn.length x (by omega) hx he
        have hll := chainG_len ok (k + 1) k x.opn.length
        have hlb : (t.chainG (k + 1) k x.opn.length).length ≤ 1000000 := Nat.le_trans hll (Nat.le_trans (Nat.mul_le_mul (show k + 1 ≤ 64 by omega) (show c + 2 ≤ 1002 by omega)) (by omega))
        rw [e1] at r1 V1
        obtain ⟨cl, hcl⟩ : ∃ cl, cl = t.chainG (k + 1) k x.opn.length := ⟨_, rfl⟩
        rw [← hcl] at r1 V1 good hlast hlb
        simp only at r1 V1
        have hne : cl ≠ [] := fun e => by rw [e] at hlast; cases hlast
        have hln : cl.length ≠ 0 := fun e => hne (List.length_eq_zero_iff.1 e)
        obtain ⟨o, rfl, ho, hol⟩ := V1.at hln
        have gl := K.1
        have k1l := K1.1
        have k2l := K2.1
        have gol := get_lt ho
        obtain ⟨d11, hd11⟩ : ∃ d11, d11 = g2.length + 1 := ⟨_, rfl⟩
        obtain ⟨g3, hg3⟩ : ∃ g3, g3 = (((g2 ++ [AObj.cells z0 true]).set g2.length (.cells ((tkV x).C (.slice oa (tkV x).op.length za)) true)) ++ [AObj.cells [.int .i64 0, .int .i64 0] true]).set d11 (.cells [.int .i64 0, .int .i64 0] true) := ⟨_, rfl⟩
        have K34 : Keep (fun _ => False) g2 g3 := by rw [hg3]; exact ((K3 (tkV x)).pushN _).setN (by omega) _
        have hd3 : g3[d11]? = some (.cells [.int .i64 0, .int .i64 0] true) := by rw [hg3]; exact get_set_eq (get_new' _ (by simp [hd11]))
        have ho3 := K34.2 _ _ (K2.2 _ _ ho id) id
        obtain ⟨F1, g4, m1, m2, m3, m4⟩ := within_links (b := b) (n := ((k + 1 : Nat) : Int)) (o := o) (d11 := d11) a ok hc hr hlb good (K.trans (K1.trans (K2.trans K34))) ho3 (by omega) (by omega) cl.length 0
          [(73, .int .i64 (0 : Nat)), (72, .int .i64 (Int.ofNat cl.length)), (71, .slice (some ⟨o, 0, none⟩) cl.length 2), (6, .int .i64 ((k + 1 : Nat) : Int)), (5, ptr b), (7, .slice (some ⟨o, 0, none⟩) cl.length 2), (11, ptr d11)] g3 (by omega) (EnvLe.refl _) (Keep.refl _ _) hd3
        rw [lastT_last hlast rfl] at m4
        have Kall : Keep (fun _ => False) g g4 := (K1.trans (K2.trans K34)).trans_new m3 fun q hq e => by omega
        obtain ⟨v5, g5, r5, K5, V5'⟩ := task_run (ag.grow Kall) ok (by omega) hr ((m + 1 : Nat) : Int)
        rw [task_at hz] at r5
        obtain ⟨_, ob, zb, rfl, _⟩ := V5'.g
        rw [task_at hz] at r5
        have hsc : (tkV zz).sc = 0 := by simp only [tkV, hzi, lkN]
        have ho4 := m3.2 _ _ ho3 (by omega)
        have ll := prL_len cl
        have hat : ((prL cl).drop ((cl.length - 1) * 2)).take 2 = prC (1, ((m + 1 : Nat) : Int)) := by
          have := prL_at (l := cl) (k := cl.length - 1) (p := (1, ((m + 1 : Nat) : Int))) [] (by rw [← List.getLast?_eq_getElem?]; exact hlast)
          rwa [List.append_nil] at this
        have C5 : (Asm.st (.push (.is g5) (.cells z0 true)) g5.length 0 ((tkV zz).C (.slice ob (tkV zz).op.length zb)) ((tkV zz).C (.slice ob (tkV zz).op.length zb))).holds Try.prog := a_st (get_new _ _) (by simp [hz0, TkV.C]) (by rw [hz0]; rfl)
        have C6 : (Asm.ld1 (.set (.push (.is g5) (.cells z0 true)) g5.length (.cells ((tkV zz).C (.slice ob (tkV zz).op.length zb)) true)) g5.length 0 (.int .i64 (tkV zz).sc)).holds Try.prog := a_ld1 (get_set_eq (get_new _ _)) rfl
        have K6 : Keep (fun _ => False) g5 ((g5 ++ [AObj.cells z0 true]).set g5.length (.cells ((tkV zz).C (.slice ob (tkV zz).op.length zb)) true)) := ((Keep.refl (fun _ => False) g5).pushN _).setN (Nat.le_refl _) _
        rw [hz0] at C5 C6 K6
        rw [hg3, hz0] at m2
        rw [hd11] at m1 m2 m4 hd3
        obtain ⟨E2, q1, q2⟩ := pvC 0 hE (r40p.wi_go b g2.length (g2.length + 1) g5.length ((cl.length - 1) * 2) o cl.length (tkV x).op.length za (tkV zz).op.length zb oa ob ((k + 1 : Nat) : Int) ((k + 1 + 1 : Nat) : Int) 0 (tkV x).sc (tkV zz).sc (tkV x).fk (tkV zz).fk ((cl.length - 1 : Nat) : Int) 1 ((m + 1 : Nat) : Int) 0 (tkV x).en (tkV x).lv (tkV zz).en (tkV zz).lv (tkV x).ft (tkV zz).ft (.bool true) g g1 g2 g4 g5)
          ⟨D1, r1, r2, rfl, C1', neF rfl, eqF (by simp only [Int.ofNat_eq_natCast]; omega), by simp [Asm.holds, SH.den], a_st (get_new' _ (by simp [SH.den])) (by simp) rfl,
            a_loop (by kernel_rfl) (.add (.add (.add (.add (.add (.add (.add (.nil _) rfl) rfl) rfl) rfl) rfl) rfl) rfl) m1 m2, stat5, subI (by simp only [Int.ofNat_eq_natCast]; omega) (by omega) (by omega), offI (q := cl.length - 1) rfl (by omega) (by omega), a_ldn ho4 (by omega) hat, a_ldn m4 (by simp [prC]) rfl, aeqF44 _ _, a_ld1 m4 rfl, r5, rfl, C5, C6, neF hsc, DA, trivial⟩
        exact next (.trans (.add (.add (.nil _) rfl) rfl) q1) q2 (Kall.trans (K5.trans K6))

theorem within_run {ops : List OpV} {vl : Value} (n : Int) (hv : OpsAt h vl ops) : ∃ h', Run Try.prog 5 [.int .i64 n, vl] h (.bool true) h' := by
  rcases made_run n hv with ⟨hn, r1⟩ | ⟨h1, h2, b, ρ, g1, r1, a, m⟩
  · by_cases hlo : n < 1
    · exact ⟨_, pvF 0 Try.func5 (r40p.wi_lo 0 n vl h _ _ h) ⟨r1, ltT hlo, awake_run _, trivial⟩⟩
    · exact ⟨_, pvF 0 Try.func5 (r40p.wi_hi 0 n vl h _ _ h) ⟨r1, ltF (by omega), gtT (by omega), awake_run _, trivial⟩⟩
  · have ok0 := roots_ok n.toNat (by omega)
    have W : WI none ((TS.roots n.toNat).runL (ops.take 60)) := (WI.roots n.toNat).runL ok0
    have ok : TOk 124 ((TS.roots n.toNat).runL (ops.take 60)) := (ok0.runL (l := ops.take 60)).mono (by simp; omega)
    generalize (TS.roots n.toNat).runL (ops.take 60) = t at a ok W
    obtain ⟨E2, g2, q1⟩ := within_loop a ok (by omega) W m.root 64 0 [(6, .int .i64 ((0 + 1 : Nat) : Int)), (5, ptr b)] g1 (by omega) (EnvLe.refl _) (Keep.refl _ _)
    exact ⟨_, pvF 0 Try.func5 (r40p.wi b n vl h g1 g2 g2) ⟨r1, a_loop (by kernel_rfl) (.add (.add (.nil _) rfl) rfl) (.nil _) q1, awake_run _, trivial⟩⟩
end

end Go.Proofs.Ytahomnlkkafbjaa.tr
