import Derived.Test.YtahomnlkkafbjaaCopiesE
set_option linter.unusedVariables false
namespace Go.Proofs.Ytahomnlkkafbjaa.tr
open Go Go.Ev
set_option maxRecDepth 100000
set_option linter.unusedVariables false
set_option linter.constructorNameAsVariable false

/-! ### TreeCopies: the walk -/

theorem Step.side {α0 α : Lay} {g0 g g3 : Hp} (S : Step α0 g0 α g) (hS : ∃ fp, Keep fp g g3 ∧ ∀ q, fp q → g0.length ≤ q ∧ ¬ fpT α q) : Step α0 g0 α g3 := by
  obtain ⟨fp, K, h⟩ := hS
  exact ⟨S.keep.trans_new K fun q hq e => by have := (h q e).1; omega, S.new, S.root⟩
theorem ef_app2 {P : Program} {s : SH} {g : Hp} {y w : Nat} {l m : List Ef} {rw : Bool} (hs : s.den = g) (hy : g[y]? = some (.cells (efC l) true)) (hw : g[w]? = some (.cells (efC m) rw)) (hn : m ≠ []) (hb : m.length ≤ 1000) (hl : l.length ≤ 100000) :
    (Asm.app s y 0 l.length w 0 m.length (m.length - 1) 5 48 (efC l ++ efC m) (efC m) g.length).holds P := by
  subst hs
  have h1 := efC_len l
  have h2 := efC_len m
  have h3 : m.length ≠ 0 := fun e => hn (List.length_eq_zero_iff.1 e)
  exact ⟨by omega, ⟨_, cells_of hw, by omega, by rw [List.drop_zero, List.take_of_length_le (by omega)]⟩, efC_ones m, by omega, by omega, ⟨_, own_of hy, by omega, by rw [List.drop_zero, List.take_of_length_le (by omega)]⟩, rfl⟩

theorem copies_loop0 {g0 : Hp} {α0 : Lay} {t0 : TS} {r s q o p : Nat} {rw : Bool} {ops : List OpV} {vm v11 : Value} (a0 : TAt g0 α0 t0) (ok : TOk 124 t0) (h0 : α0 .root = some s) (hp : p ≤ ops.length) (hp2 : p ≤ 30) (ho : g0[o]? = some (.cells (opC ops) rw)) (no : ¬ fpT α0 o) :
    ∀ (j i : Nat) (E : Env) (g : Hp) (α : Lay) (v : Value), i + j = p → EnvLe [(38, .int .i64 (i : Int)), (37, .int .i64 (Int.ofNat p)), (36, .slice (some ⟨o, 0, none⟩) p 5), (2, vm), (7, ptr r), (8, ptr s), (9, ptr q), (10, v), (11, v11)] E →
      Step α0 g0 α g → TAt g α (t0.runL (ops.take i)) → EfV g g0.length α v (t0.effL (ops.take i)) →
      ∃ E1 g' α' v', EnvLe [(2, vm), (7, ptr r), (8, ptr s), (9, ptr q), (10, v'), (11, v11)] E1 ∧ LRun Try.prog 79 false (loopN Try.f8 0) E g (.exit 0) E1 g' ∧ Step α0 g0 α' g' ∧ TAt g' α' (t0.runL (ops.take p)) ∧ EfV g' g0.length α' v' (t0.effL (ops.take p)) := by
  intro j
  induction j with
  | zero =>
    intro i E g α v hi hE S a hv
    have e : i = p := by omega
    subst e
    obtain ⟨E2, q1, q2⟩ := pvC 0 hE (r30p.tl0_out r s q o i 0 0 0 0 0 0 0 i 0 0 0 0 false ⟨#[]⟩ vm v v11 [] [] g g) ⟨ltF (by simp), trivial⟩
    exact ⟨E2, g, α, v, .trans (.add (.add (.add (.add (.add (.add (.nil _) rfl) rfl) rfl) rfl) rfl) rfl) q1, .last q2 (by simp), S, a, hv⟩
  | succ j ih =>
    intro i E g α v hi hE S a hv
    obtain ⟨x, hx⟩ : ∃ x, ops[i]? = some x := ⟨_, List.getElem?_eq_getElem (by omega)⟩
    have hol := get_lt ho
    have hog := S.get ho no
    have nog := S.out hol no
    have hat := opC_at hx
    have hlen := opC_len ops
    have hti : (ops.take i).length ≤ i := by simp; omega
    have okr : TOk 1000 (t0.runL (ops.take i)) := (ok.runL (l := ops.take i)).mono (by omega)
    obtain ⟨z0, hz0⟩ : ∃ z0 : List Value, z0 = [.int .i64 0, .int .i64 0, .bool false, .int .i64 0, .string ⟨#[]⟩] := ⟨_, rfl⟩
    have K : Keep (fun _ => False) g ((g ++ [AObj.cells z0 true]).set g.length (.cells x.cells true)) := ((Keep.refl (fun _ => False) g).pushN _).setN (Nat.le_refl _) _
    have hnew : ((g ++ [AObj.cells z0 true]).set g.length (.cells x.cells true))[g.length]? = some (.cells x.cells true) := get_set_eq (get_new _ _)
    have Sl := S.len
    obtain ⟨ve, α2, g2, r1, r2, r3, r4⟩ := run_run (a.grow K) okr (by omega) (S.root.trans h0) x
    have S2 : Step α0 g0 α2 g2 := S.trans ((Step.grow K).trans r3)
    have el := run_len (t0.runL (ops.take i)) x
    have al : (t0.effL (ops.take i)).length ≤ 30000 := Nat.le_trans (effL_len _ _) (by omega)
    have B1 : (Asm.cmp .lss (i : Int) (Int.ofNat p) true).holds Try.prog := ltT (by simp; omega)
    have B2 : (Asm.off (i * 5) 0 (i : Int) p 5).holds Try.prog := offI (q := i) rfl (by omega) (by omega)
    have B3 : (Asm.ldn (.is g) o (i * 5) 5 x.cells).holds Try.prog := a_ldn hog (by omega) hat
    have B5 : (Asm.st (.push (.is g) (.cells z0 true)) g.length 0 x.cells x.cells).holds Try.prog := a_st (get_new _ _) (by simp [hz0, OpV.cells]) (by rw [hz0]; rfl)
    have B6 : (Asm.ldn (.set (.push (.is g) (.cells z0 true)) g.length (.cells x.cells true)) g.length 0 5 x.cells).holds Try.prog := a_ldn hnew (by simp [OpV.cells]) rfl
    have B9 : (Asm.arith .add .i64 (i : Int) 1 ((i + 1 : Nat) : Int)).holds Try.prog := addI rfl (by omega) (by omega)
    have ht : t0.runL (ops.take (i + 1)) = ((t0.runL (ops.take i)).run x).1 := by rw [take_one hx, runL_app]; rfl
    have he : t0.effL (ops.take (i + 1)) = t0.effL (ops.take i) ++ ((t0.runL (ops.take i)).run x).2 := by rw [take_one hx, effL_app, effL_one]
    rw [hz0] at r1 B5 B6
    have go : ∀ (E2 : Env) (v' : Value) (g3 : Hp), EnvLe [(38, .int .i64 ((i + 1 : Nat) : Int)), (37, .int .i64 (Int.ofNat p)), (36, .slice (some ⟨o, 0, none⟩) p 5), (2, vm), (7, ptr r), (8, ptr s), (9, ptr q), (10, v'), (11, v11)] E2 → CRun Try.prog 79 false (loopN Try.f8 0) E g .normal E2 g3 → (∃ fp, Keep fp g2 g3 ∧ ∀ q, fp q → g0.length ≤ q ∧ ¬ fpT α2 q) → EfV g3 g0.length α2 v' (t0.effL (ops.take i) ++ ((t0.runL (ops.take i)).run x).2) →
        ∃ E1 g' α' v', EnvLe [(2, vm), (7, ptr r), (8, ptr s), (9, ptr q), (10, v'), (11, v11)] E1 ∧ LRun Try.prog 79 false (loopN Try.f8 0) E g (.exit 0) E1 g' ∧ Step α0 g0 α' g' ∧ TAt g' α' (t0.runL (ops.take p)) ∧ EfV g' g0.length α' v' (t0.effL (ops.take p)) := fun E2 v' g3 hE2 hC hS hV => by
      rw [← he] at hV
      have a3 : TAt g3 α2 (t0.runL (ops.take (i + 1))) := by rw [ht]; exact r2.keep hS.choose_spec.1 fun q e => (hS.choose_spec.2 q e).2
      obtain ⟨E3, g5, α5, v5, s1, s2, s3, s4, s5⟩ := ih (i + 1) E2 g3 α2 v' (by omega) hE2 (S2.side hS) a3 hV
      exact ⟨E3, g5, α5, v5, s1, .step hC s2, s3, s4, s5⟩

    rcases hv with ⟨hv1, rfl⟩ | ⟨hv1, w, rfl, hw, hwl, hwn⟩
    · rw [hv1] at go
      rcases r4 with ⟨e1, rfl⟩ | ⟨e1, y, rfl, hy, hyl, hyn⟩
      · obtain ⟨E2, q1, q2⟩ := pvC 0 hE (r30p.tl0_nn r s q o p (i * 5) g.length 0 0 0 0 0 i ((i + 1 : Nat) : Int) x.k x.n x.fk x.y x.ft vm (.bool true) v11 [] [] g g2) ⟨B1, B2, B3, rfl, B5, B6, r1, B9, trivial⟩
        exact go E2 (.slice none 0 0) g2 (.trans (.add (.add (.add (.add (.add (.add (.add (.add (.add (.nil _) rfl) rfl) rfl) rfl) rfl) rfl) rfl) rfl) rfl) q1) q2 ⟨fun _ => False, Keep.refl _ _, fun q e => e.elim⟩ (.inl ⟨by rw [e1]; rfl, rfl⟩)
      · obtain ⟨kk, hkk⟩ : ∃ kk, ((t0.runL (ops.take i)).run x).2.length = kk + 1 := ⟨_, (Nat.succ_pred_eq_of_ne_zero fun e => e1 (List.length_eq_zero_iff.1 e)).symm⟩
        have A := ef_appN (P := Try.prog) (s := .is g2) (g := g2) rfl hy e1 (by omega)
        rw [hkk] at r1 A
        obtain ⟨E2, q1, q2⟩ := pvC 0 hE (r30p.tl0_ns r s q o p (i * 5) g.length g2.length y 0 kk 0 i ((i + 1 : Nat) : Int) x.k x.n x.fk x.y x.ft vm (.bool true) v11 [] (efC ((t0.runL (ops.take i)).run x).2) g g2) ⟨B1, B2, B3, rfl, B5, B6, r1, A, B9, trivial⟩
        refine go E2 (.slice (some ⟨g2.length, 0, none⟩) (kk + 1) 5) _ (.trans (.add (.add (.add (.add (.add (.add (.add (.add (.add (.nil _) rfl) rfl) rfl) rfl) rfl) rfl) rfl) rfl) rfl) q1) q2 ⟨fun _ => False, Keep.push _ _ _, fun q e => e.elim⟩ (.inr ⟨by simpa using e1, g2.length, by rw [List.nil_append, hkk], by rw [List.nil_append]; exact get_new _ _, ?_, r2.out (Nat.le_refl _)⟩)
        have := r3.len
        have := K.1
        omega
    · have S3 : Step α g α2 g2 := (Step.grow K).trans r3
      have W1 := S3.get hw hwn
      have W2 := S3.out (get_lt hw) hwn
      rcases r4 with ⟨e1, rfl⟩ | ⟨e1, y, rfl, hy, hyl, hyn⟩
      · obtain ⟨E2, q1, q2⟩ := pvC 0 hE (r30p.tl0_sn r s q o p (i * 5) g.length 0 0 (t0.effL (ops.take i)).length 0 w i ((i + 1 : Nat) : Int) x.k x.n x.fk x.y x.ft vm (.bool true) v11 [] [] g g2) ⟨B1, B2, B3, rfl, B5, B6, r1, B9, trivial⟩
        exact go E2 (.slice (some ⟨w, 0, none⟩) _ 5) g2 (.trans (.add (.add (.add (.add (.add (.add (.add (.add (.add (.nil _) rfl) rfl) rfl) rfl) rfl) rfl) rfl) rfl) rfl) q1) q2 ⟨fun _ => False, Keep.refl _ _, fun q e => e.elim⟩ (.inr ⟨by rw [e1, List.append_nil]; exact hv1, w, by rw [e1, List.append_nil], by rw [e1, List.append_nil]; exact W1, hwl, W2⟩)
      · obtain ⟨kk, hkk⟩ : ∃ kk, ((t0.runL (ops.take i)).run x).2.length = kk + 1 := ⟨_, (Nat.succ_pred_eq_of_ne_zero fun e => e1 (List.length_eq_zero_iff.1 e)).symm⟩
        have A := ef_app2 (P := Try.prog) (s := .is g2) (g := g2) rfl W1 hy e1 (by omega) (show (t0.effL (ops.take i)).length ≤ 100000 by omega)
        rw [hkk] at r1 A
        obtain ⟨E2, q1, q2⟩ := pvC 0 hE (r30p.tl0_ss r s q o p (i * 5) g.length g2.length y (t0.effL (ops.take i)).length kk w i ((i + 1 : Nat) : Int) x.k x.n x.fk x.y x.ft vm (.bool true) v11 (efC (t0.effL (ops.take i)) ++ efC ((t0.runL (ops.take i)).run x).2) (efC ((t0.runL (ops.take i)).run x).2) g g2) ⟨B1, B2, B3, rfl, B5, B6, r1, A, B9, trivial⟩
        refine go E2 (.slice (some ⟨g2.length, 0, none⟩) ((t0.effL (ops.take i)).length + (kk + 1)) 5) _ (.trans (.add (.add (.add (.add (.add (.add (.add (.add (.add (.nil _) rfl) rfl) rfl) rfl) rfl) rfl) rfl) rfl) rfl) q1) q2 ⟨fun q => q = w, (Keep.set (fp := fun q => q = w) rfl _).trans (Keep.push _ _ _), fun q e => by subst e; exact ⟨hwl, W2⟩⟩ (.inr ⟨by simp [e1], g2.length, by rw [List.length_append, hkk], by rw [efC_app]; exact get_new' _ (set_len _ _ _), ?_, r2.out (Nat.le_refl _)⟩)
        have := r3.len
        have := K.1
        omega

theorem copies_loop1 {g0 : Hp} {α0 : Lay} {t0 : TS} {r s q o p : Nat} {rw : Bool} {ops : List OpV} {vm v10 : Value} (a0 : TAt g0 α0 t0) (ok : TOk 124 t0) (h0 : α0 .root = some r) (hp : p ≤ ops.length) (hp2 : p ≤ 30) (ho : g0[o]? = some (.cells (opC ops) rw)) (no : ¬ fpT α0 o) :
    ∀ (j i : Nat) (E : Env) (g : Hp) (α : Lay) (v : Value), i + j = p → EnvLe [(58, .int .i64 (i : Int)), (57, .int .i64 (Int.ofNat p)), (56, .slice (some ⟨o, 0, none⟩) p 5), (2, vm), (7, ptr r), (8, ptr s), (9, ptr q), (11, v), (10, v10)] E →
      Step α0 g0 α g → TAt g α (t0.runL (ops.take i)) → EfV g g0.length α v (t0.effL (ops.take i)) →
      ∃ E1 g' α' v', EnvLe [(2, vm), (7, ptr r), (8, ptr s), (9, ptr q), (11, v'), (10, v10)] E1 ∧ LRun Try.prog 79 false (loopN Try.f8 1) E g (.exit 2) E1 g' ∧ Step α0 g0 α' g' ∧ TAt g' α' (t0.runL (ops.take p)) ∧ EfV g' g0.length α' v' (t0.effL (ops.take p)) := by
  intro j
  induction j with
  | zero =>
    intro i E g α v hi hE S a hv
    have e : i = p := by omega
    subst e
    obtain ⟨E2, q1, q2⟩ := pvC 0 hE (r30p.tl1_out r s q o i 0 0 0 0 0 0 0 i 0 0 0 0 false ⟨#[]⟩ vm v10 v [] [] g g) ⟨ltF (by simp), trivial⟩
    exact ⟨E2, g, α, v, .trans (.add (.add (.add (.add (.add (.add (.nil _) rfl) rfl) rfl) rfl) rfl) rfl) q1, .last q2 (by simp), S, a, hv⟩
  | succ j ih =>
    intro i E g α v hi hE S a hv
    obtain ⟨x, hx⟩ : ∃ x, ops[i]? = some x := ⟨_, List.getElem?_eq_getElem (by omega)⟩
    have hol := get_lt ho
    have hog := S.get ho no
    have nog := S.out hol no
    have hat := opC_at hx
    have hlen := opC_len ops
    have hti : (ops.take i).length ≤ i := by simp; omega
    have okr : TOk 1000 (t0.runL (ops.take i)) := (ok.runL (l := ops.take i)).mono (by omega)
    obtain ⟨z0, hz0⟩ : ∃ z0 : List Value, z0 = [.int .i64 0, .int .i64 0, .bool false, .int .i64 0, .string ⟨#[]⟩] := ⟨_, rfl⟩
    have K : Keep (fun _ => False) g ((g ++ [AObj.cells z0 true]).set g.length (.cells x.cells true)) := ((Keep.refl (fun _ => False) g).pushN _).setN (Nat.le_refl _) _
    have hnew : ((g ++ [AObj.cells z0 true]).set g.length (.cells x.cells true))[g.length]? = some (.cells x.cells true) := get_set_eq (get_new _ _)
    have Sl := S.len
    obtain ⟨ve, α2, g2, r1, r2, r3, r4⟩ := run_run (a.grow K) okr (by omega) (S.root.trans h0) x
    have S2 : Step α0 g0 α2 g2 := S.trans ((Step.grow K).trans r3)
    have el := run_len (t0.runL (ops.take i)) x
    have al : (t0.effL (ops.take i)).length ≤ 30000 := Nat.le_trans (effL_len _ _) (by omega)
    have B1 : (Asm.cmp .lss (i : Int) (Int.ofNat p) true).holds Try.prog := ltT (by simp; omega)
    have B2 : (Asm.off (i * 5) 0 (i : Int) p 5).holds Try.prog := offI (q := i) rfl (by omega) (by omega)
    have B3 : (Asm.ldn (.is g) o (i * 5) 5 x.cells).holds Try.prog := a_ldn hog (by omega) hat
    have B5 : (Asm.st (.push (.is g) (.cells z0 true)) g.length 0 x.cells x.cells).holds Try.prog := a_st (get_new _ _) (by simp [hz0, OpV.cells]) (by rw [hz0]; rfl)
    have B6 : (Asm.ldn (.set (.push (.is g) (.cells z0 true)) g.length (.cells x.cells true)) g.length 0 5 x.cells).holds Try.prog := a_ldn hnew (by simp [OpV.cells]) rfl
    have B9 : (Asm.arith .add .i64 (i : Int) 1 ((i + 1 : Nat) : Int)).holds Try.prog := addI rfl (by omega) (by omega)
    have ht : t0.runL (ops.take (i + 1)) = ((t0.runL (ops.take i)).run x).1 := by rw [take_one hx, runL_app]; rfl
    have he : t0.effL (ops.take (i + 1)) = t0.effL (ops.take i) ++ ((t0.runL (ops.take i)).run x).2 := by rw [take_one hx, effL_app, effL_one]
    rw [hz0] at r1 B5 B6
    have go : ∀ (E2 : Env) (v' : Value) (g3 : Hp), EnvLe [(58, .int .i64 ((i + 1 : Nat) : Int)), (57, .int .i64 (Int.ofNat p)), (56, .slice (some ⟨o, 0, none⟩) p 5), (2, vm), (7, ptr r), (8, ptr s), (9, ptr q), (11, v'), (10, v10)] E2 → CRun Try.prog 79 false (loopN Try.f8 1) E g .normal E2 g3 → (∃ fp, Keep fp g2 g3 ∧ ∀ q, fp q → g0.length ≤ q ∧ ¬ fpT α2 q) → EfV g3 g0.length α2 v' (t0.effL (ops.take i) ++ ((t0.runL (ops.take i)).run x).2) →
        ∃ E1 g' α' v', EnvLe [(2, vm), (7, ptr r), (8, ptr s), (9, ptr q), (11, v'), (10, v10)] E1 ∧ LRun Try.prog 79 false (loopN Try.f8 1) E g (.exit 2) E1 g' ∧ Step α0 g0 α' g' ∧ TAt g' α' (t0.runL (ops.take p)) ∧ EfV g' g0.length α' v' (t0.effL (ops.take p)) := fun E2 v' g3 hE2 hC hS hV => by
      rw [← he] at hV
      have a3 : TAt g3 α2 (t0.runL (ops.take (i + 1))) := by rw [ht]; exact r2.keep hS.choose_spec.1 fun q e => (hS.choose_spec.2 q e).2
      obtain ⟨E3, g5, α5, v5, s1, s2, s3, s4, s5⟩ := ih (i + 1) E2 g3 α2 v' (by omega) hE2 (S2.side hS) a3 hV
      exact ⟨E3, g5, α5, v5, s1, .step hC s2, s3, s4, s5⟩

    rcases hv with ⟨hv1, rfl⟩ | ⟨hv1, w, rfl, hw, hwl, hwn⟩
    · rw [hv1] at go
      rcases r4 with ⟨e1, rfl⟩ | ⟨e1, y, rfl, hy, hyl, hyn⟩
      · obtain ⟨E2, q1, q2⟩ := pvC 0 hE (r30p.tl1_nn r s q o p (i * 5) g.length 0 0 0 0 0 i ((i + 1 : Nat) : Int) x.k x.n x.fk x.y x.ft vm v10 (.bool true) [] [] g g2) ⟨B1, B2, B3, rfl, B5, B6, r1, B9, trivial⟩
        exact go E2 (.slice none 0 0) g2 (.trans (.add (.add (.add (.add (.add (.add (.add (.add (.add (.nil _) rfl) rfl) rfl) rfl) rfl) rfl) rfl) rfl) rfl) q1) q2 ⟨fun _ => False, Keep.refl _ _, fun q e => e.elim⟩ (.inl ⟨by rw [e1]; rfl, rfl⟩)
      · obtain ⟨kk, hkk⟩ : ∃ kk, ((t0.runL (ops.take i)).run x).2.length = kk + 1 := ⟨_, (Nat.succ_pred_eq_of_ne_zero fun e => e1 (List.length_eq_zero_iff.1 e)).symm⟩
        have A := ef_appN (P := Try.prog) (s := .is g2) (g := g2) rfl hy e1 (by omega)
        rw [hkk] at r1 A
        obtain ⟨E2, q1, q2⟩ := pvC 0 hE (r30p.tl1_ns r s q o p (i * 5) g.length g2.length y 0 kk 0 i ((i + 1 : Nat) : Int) x.k x.n x.fk x.y x.ft vm v10 (.bool true) [] (efC ((t0.runL (ops.take i)).run x).2) g g2) ⟨B1, B2, B3, rfl, B5, B6, r1, A, B9, trivial⟩
        refine go E2 (.slice (some ⟨g2.length, 0, none⟩) (kk + 1) 5) _ (.trans (.add (.add (.add (.add (.add (.add (.add (.add (.add (.nil _) rfl) rfl) rfl) rfl) rfl) rfl) rfl) rfl) rfl) q1) q2 ⟨fun _ => False, Keep.push _ _ _, fun q e => e.elim⟩ (.inr ⟨by simpa using e1, g2.length, by rw [List.nil_append, hkk], by rw [List.nil_append]; exact get_new _ _, ?_, r2.out (Nat.le_refl _)⟩)
        have := r3.len
        have := K.1
        omega
    · have S3 : Step α g α2 g2 := (Step.grow K).trans r3
      have W1 := S3.get hw hwn
      have W2 := S3.out (get_lt hw) hwn
      rcases r4 with ⟨e1, rfl⟩ | ⟨e1, y, rfl, hy, hyl, hyn⟩
      · obtain ⟨E2, q1, q2⟩ := pvC 0 hE (r30p.tl1_sn r s q o p (i * 5) g.length 0 0 (t0.effL (ops.take i)).length 0 w i ((i + 1 : Nat) : Int) x.k x.n x.fk x.y x.ft vm v10 (.bool true) [] [] g g2) ⟨B1, B2, B3, rfl, B5, B6, r1, B9, trivial⟩
        exact go E2 (.slice (some ⟨w, 0, none⟩) _ 5) g2 (.trans (.add (.add (.add (.add (.add (.add (.add (.add (.add (.nil _) rfl) rfl) rfl) rfl) rfl) rfl) rfl) rfl) rfl) q1) q2 ⟨fun _ => False, Keep.refl _ _, fun q e => e.elim⟩ (.inr ⟨by rw [e1, List.append_nil]; exact hv1, w, by rw [e1, List.append_nil], by rw [e1, List.append_nil]; exact W1, hwl, W2⟩)
      · obtain ⟨kk, hkk⟩ : ∃ kk, ((t0.runL (ops.take i)).run x).2.length = kk + 1 := ⟨_, (Nat.succ_pred_eq_of_ne_zero fun e => e1 (List.length_eq_zero_iff.1 e)).symm⟩
        have A := ef_app2 (P := Try.prog) (s := .is g2) (g := g2) rfl W1 hy e1 (by omega) (show (t0.effL (ops.take i)).length ≤ 100000 by omega)
        rw [hkk] at r1 A
        obtain ⟨E2, q1, q2⟩ := pvC 0 hE (r30p.tl1_ss r s q o p (i * 5) g.length g2.length y (t0.effL (ops.take i)).length kk w i ((i + 1 : Nat) : Int) x.k x.n x.fk x.y x.ft vm v10 (.bool true) (efC (t0.effL (ops.take i)) ++ efC ((t0.runL (ops.take i)).run x).2) (efC ((t0.runL (ops.take i)).run x).2) g g2) ⟨B1, B2, B3, rfl, B5, B6, r1, A, B9, trivial⟩
        refine go E2 (.slice (some ⟨g2.length, 0, none⟩) ((t0.effL (ops.take i)).length + (kk + 1)) 5) _ (.trans (.add (.add (.add (.add (.add (.add (.add (.add (.add (.nil _) rfl) rfl) rfl) rfl) rfl) rfl) rfl) rfl) rfl) q1) q2 ⟨fun q => q = w, (Keep.set (fp := fun q => q = w) rfl _).trans (Keep.push _ _ _), fun q e => by subst e; exact ⟨hwl, W2⟩⟩ (.inr ⟨by simp [e1], g2.length, by rw [List.length_append, hkk], by rw [efC_app]; exact get_new' _ (set_len _ _ _), ?_, r2.out (Nat.le_refl _)⟩)
        have := r3.len
        have := K.1
        omega

theorem copies_run {h : Hp} {ops more : List OpV} {vl vm : Value} (n : Int) (hv : OpsAt h vl ops) (hm : OpsAt h vm more) : ∃ h', Run Try.prog 8 [.int .i64 n, vl, vm] h (.bool true) h' := by
  rcases made_run n hv with ⟨hn, r1⟩ | ⟨h1, h2, b, ρ, g1, r1, a, m⟩
  · rcases hm with ⟨_, rfl⟩ | ⟨o, rw, rfl, ho⟩
    · exact ⟨_, pvF 0 Try.func8 (r30p.tc_niln 0 0 0 0 0 0 n vl (.bool true) (.bool true) h _ _ h h h h h h h) ⟨r1, awake_run _, trivial⟩⟩
    · exact ⟨_, pvF 0 Try.func8 (r30p.tc_nils 0 0 0 o more.length 0 n vl (.bool true) (.bool true) h _ _ h h h h h h h) ⟨r1, awake_run _, trivial⟩⟩
  · have ok : TOk 124 ((TS.roots n.toNat).runL (ops.take 60)) := ((roots_ok n.toNat (by omega)).runL (l := ops.take 60)).mono (by simp; omega)
    generalize (TS.roots n.toNat).runL (ops.take 60) = t at a ok
    obtain ⟨s, σ, g2, r2, a2, m2⟩ := copy_run a ok (by omega) m.root
    have a1 := a.grow m2.keep
    obtain ⟨q, τ, g3, r3, a3, m3⟩ := copy_run a1 ok (by omega) m.root
    have ap1 : Apart ρ σ := m2.apart a
    have ap3 : Apart σ τ := m3.apart a2
    have b1 := a1.grow m3.keep
    have b2 := a2.grow m3.keep
    rcases hm with ⟨rfl, rfl⟩ | ⟨o, rw, rfl, ho0⟩
    · obtain ⟨g5, q5, k5⟩ := alike_run b1 a3 ok (by omega) m.root m3.root
      obtain ⟨g8, q8, k8⟩ := alike_run (b1.grow k5) (b2.grow k5) ok (by omega) m.root m2.root
      exact ⟨_, pvF 0 Try.func8 (r30p.tc_n b s q 0 0 0 n vl (.bool true) (.bool true) h _ _ _ h g5 h g5 g8 g8)
        ⟨r1, r2, r3, by simp [Asm.holds], ltF (by omega), q5, by simp [Asm.holds], ltF (by omega), equalEf_run (l := []) (by simp) ⟨rfl, none, 0, rfl, fun e => absurd rfl e⟩ ⟨rfl, none, 0, rfl, fun e => absurd rfl e⟩, q8, awake_run _, trivial⟩⟩
    · have hol := get_lt ho0
      have ml := m.keep.1
      have no1 : ¬ fpT ρ o := fun e => by have := m.new o e; omega
      have no2 : ¬ fpT σ o := fun e => by have := m2.new o e; omega
      have ho3 : g3[o]? = some (.cells (opC more) rw) := m3.get (m2.get (m.get ho0))
      obtain ⟨p, hpp⟩ : ∃ p, p = min more.length 30 := ⟨_, rfl⟩
      have P1 : (Asm.mm false (Int.ofNat more.length) 30 (Int.ofNat p)).holds Try.prog := .inr ⟨rfl, by simp only [Int.ofNat_eq_natCast]; split <;> omega⟩
      have P2 : (Asm.cut none (some (.int .i64 (Int.ofNat p))) more.length 0 p).holds Try.prog := a_cut (by omega)
      obtain ⟨E1, g4, σ', v1, w1, w2, w3, w4, w5⟩ := copies_loop0 (r := b) (s := s) (q := q) (p := p) (vm := .slice (some ⟨o, 0, none⟩) more.length 5) (v11 := .slice none 0 0) b2 ok m2.root (by omega) (by omega) ho3 no2 p 0
        [(38, .int .i64 (0 : Nat)), (37, .int .i64 (Int.ofNat p)), (36, .slice (some ⟨o, 0, none⟩) p 5), (2, .slice (some ⟨o, 0, none⟩) more.length 5), (7, ptr b), (8, ptr s), (9, ptr q), (10, .slice none 0 0), (11, .slice none 0 0)] g3 σ (.slice none 0 0) (by omega) (EnvLe.refl _) (Step.refl _ _) b2 (.inl ⟨rfl, rfl⟩)
      have b1' : TAt g4 ρ t := b1.apart ap1.symm w3
      have a3' : TAt g4 τ t := a3.apart ap3 w3
      obtain ⟨g5, q5, k5⟩ := alike_run b1' a3' ok (by omega) m.root m3.root
      have b15 := b1'.grow k5
      have ho5 : g5[o]? = some (.cells (opC more) rw) := k5.2 _ _ (w3.get ho3 no2) id
      obtain ⟨E2, g6, ρ', v2, x1, x2, x3, x4, x5⟩ := copies_loop1 (r := b) (s := s) (q := q) (p := p) (vm := .slice (some ⟨o, 0, none⟩) more.length 5) (v10 := v1) b15 ok m.root (by omega) (by omega) ho5 no1 p 0
        [(58, .int .i64 (0 : Nat)), (57, .int .i64 (Int.ofNat p)), (56, .slice (some ⟨o, 0, none⟩) p 5), (2, .slice (some ⟨o, 0, none⟩) more.length 5), (7, ptr b), (8, ptr s), (9, ptr q), (11, .slice none 0 0), (10, v1)] g5 ρ (.slice none 0 0) (by omega) (EnvLe.refl _) (Step.refl _ _) b15 (.inl ⟨rfl, rfl⟩)
      have ap4 : Apart σ' ρ := ap1.symm.step w3 b1
      have w46 : TAt g6 σ' (t.runL (more.take p)) := (w4.grow k5).apart ap4.symm x3
      have ok2 : TOk 1000 (t.runL (more.take p)) := (ok.runL (l := more.take p)).mono (by simp; omega)
      have ef : (t.effL (more.take p)).length ≤ 1000000 := Nat.le_trans (effL_len _ _) (by simp; omega)
      have w56 : EfV g6 g3.length σ' v1 (t.effL (more.take p)) := by
        rcases w5 with w5 | ⟨e1, w, e2, e3, e4, e5⟩
        · exact .inl w5
        · exact .inr ⟨e1, w, e2, x3.get (k5.2 _ _ e3 id) (b1.out e4), e4, e5⟩
      obtain ⟨g8, q8, k8⟩ := alike_run x4 w46 ok2 (by omega) (x3.root.trans m.root) (w3.root.trans m2.root)
      exact ⟨_, pvF 0 Try.func8 (r30p.tc_s b s q o more.length p n vl v1 v2 h _ _ g3 g4 g5 g6 g6 g8 g8)
        ⟨r1, r2, r3, P1, P2, a_loop (by kernel_rfl) (.add (.add (.add (.add (.add (.add (.add (.add (.add (.nil _) rfl) rfl) rfl) rfl) rfl) rfl) rfl) rfl) rfl) w1 w2, q5, P1, P2, a_loop (by kernel_rfl) (.add (.add (.add (.add (.add (.add (.add (.add (.add (.nil _) rfl) rfl) rfl) rfl) rfl) rfl) rfl) rfl) rfl) (.add (.add (.add (.add (.add (.nil _) (x1 11 _ rfl)) (x1 10 _ rfl)) (x1 9 _ rfl)) (x1 8 _ rfl)) (x1 7 _ rfl)) x2,
          equalEf_run ef w56.sl x5.sl, q8, awake_run _, trivial⟩⟩

end Go.Proofs.Ytahomnlkkafbjaa.tr
