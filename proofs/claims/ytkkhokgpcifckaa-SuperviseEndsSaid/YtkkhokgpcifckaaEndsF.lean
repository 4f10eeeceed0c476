import Derived.Test.YtkkhokgpcifckaaEndsE
set_option linter.unusedVariables false
namespace Go.Proofs.Ytkkhokgpcifckaa.wd
open Go Go.Ev

variable {h : Hp}

/-! ### New -/

theorem stat11 : statOk (drawN Try.f11 0) = true := by kernel_rfl
def sv0 (y : SvV) : Sv := ⟨y.wh, 1, 0⟩
def newW (s : SpecV) (l : List SvV) : WS := ⟨s.r, s.m, s.wi, s.ba, s.ca, l.map sv0, 0, [], 0, false⟩

/-- The warden while its services come in: none yet, or some. -/
def nwCells (s : SpecV) (v : Value) : List Value := [.int .i64 s.r, .int .i64 s.m, .int .i64 s.wi, .int .i64 s.ba, .int .i64 s.ca, .slice none 0 0, v, .int .i64 0, .slice none 0 0, .int .i64 0, .bool false]

theorem new_loop {o w : Nat} {xs : List SvH} {rw : Bool} {l : List SvV} (s : SpecV) (ho : h[o]? = some (.cells (svhC xs) rw)) (ha : SvsAt h xs l) (hl : l.length ≤ 8) (hw : h[w]? = some (.cells (nwCells s (.slice none 0 0)) true)) (how : o ≠ w) :
    ∃ E1 h1 v, EnvLe [(5, .pointer (some ⟨w, 0, none⟩))] E1 ∧ LRun Try.prog 47 false (loopN Try.f11 0) [(29, .int .i64 0), (28, .int .i64 (Int.ofNat l.length)), (27, .slice (some ⟨o, 0, none⟩) l.length 3), (5, .pointer (some ⟨w, 0, none⟩))] h (.exit 0) E1 h1 ∧
      Keep (fun q => q = w) h h1 ∧ h1[w]? = some (.cells (nwCells s v) true) ∧ OrdAt h1 h.length v (l.map sv0) := by
  have hcl := svhC_len xs
  have hxl := ha.1
  obtain ⟨x', E1, h1, hl1, rfl, v, q1, q2, q3, q4⟩ := loop_inv (P := Try.prog) (n := 47) (rd := false) (b := loopN Try.f11 0)
    (Q := fun x' E1 h1 => x' = .exit 0 ∧ ∃ v, EnvLe [(5, .pointer (some ⟨w, 0, none⟩))] E1 ∧ Keep (fun q => q = w) h h1 ∧ h1[w]? = some (.cells (nwCells s v) true) ∧ OrdAt h1 h.length v (l.map sv0))
    (fun m E g => ∃ k v, k ≤ l.length ∧ m = l.length - k ∧ EnvLe [(29, .int .i64 (k : Nat)), (28, .int .i64 (Int.ofNat l.length)), (27, .slice (some ⟨o, 0, none⟩) l.length 3), (5, .pointer (some ⟨w, 0, none⟩))] E ∧
      Keep (fun q => q = w) h g ∧ g[w]? = some (.cells (nwCells s v) true) ∧ OrdAt g h.length v ((l.take k).map sv0))
    (fun m E g ⟨k, v, k1, k2, k3, k4, k5, k6⟩ => by
      by_cases e : k = l.length
      · right
        subst e
        obtain ⟨E2, q1, q2⟩ := pvC 0 k3 (w15p.nwl_out o l.length w (l.length : Nat) g) ⟨by simp [Asm.holds, cmpB], trivial⟩
        exact ⟨_, E2, _, by simp, q2, rfl, v, .trans (.add (.nil _) rfl) q1, k4, k5, by rwa [List.take_length] at k6⟩
      · left
        obtain ⟨y, hy⟩ : ∃ y, l[k]? = some y := ⟨_, List.getElem?_eq_getElem (by omega)⟩
        obtain ⟨x, hx⟩ : ∃ x, xs[k]? = some x := ⟨_, List.getElem?_eq_getElem (by omega)⟩
        obtain ⟨x1, x2, x3⟩ := ha.2 k x y hx hy
        obtain ⟨fn, av, wh⟩ := x
        obtain ⟨fn', args, wh'⟩ := y
        simp only at x1 x2 x3
        subst x1; subst x2
        have hog := k4.2 _ _ ho how
        have hgw := get_lt k5
        have hhl := k4.1
        have ak1 : IntKind.i64.wrap ((k : Int) + 1) = ((k + 1 : Nat) : Int) := add1 (by omega)
        have pre1 : (Asm.cmp .lss (k : Int) (Int.ofNat l.length) true).holds Try.prog := by simp [Asm.holds, cmpB]; omega
        have pre2 : (Asm.off (k * 3) 0 (k : Int) l.length 3).holds Try.prog := ⟨by omega, by omega, by simp⟩
        have pre3 : (Asm.ldn (.is g) o (k * 3) 3 [.int .i64 fn, av, .int .i64 wh]).holds Try.prog := a_ldn hog (by omega) (svhC_cut hx)
        let gA : Hp := (g ++ [AObj.cells [.int .i64 0, .slice none 0 0, .int .i64 0] true]).set g.length (.cells [.int .i64 fn, av, .int .i64 wh] true)
        have KA : Keep (fun _ => False) g gA := (Keep.push (fun _ => False) g _).trans_new (Keep.set (fp := fun q => q = g.length) rfl _) (fun q hq e => by omega)
        have gx : gA[g.length]? = some (.cells [.int .i64 fn, av, .int .i64 wh] true) := get_set_eq (get_new g _)
        have hAl : gA.length = g.length + 1 := by simp [gA]
        have gw := KA.2 _ _ k5 id
        have hmap : (l.take (k + 1)).map sv0 = (l.take k).map sv0 ++ [⟨wh, 1, 0⟩] := by rw [take_snoc hy, List.map_append]; rfl
        let B : AObj := .cells [.int .i64 wh, .int .i64 1, .int .i64 0] true
        have K0 : ∀ c, Keep (fun q => q = w) h ((((gA ++ [B]) ++ [AObj.cells (svC [⟨wh, 1, 0⟩]) true]).set w (.cells c true))) := fun c =>
          ((k4.trans (KA.mono fun q _ e => e.elim)).trans ((Keep.push (fun q => q = w) _ _).trans (Keep.push _ _ _))).trans (Keep.set (fp := fun q => q = w) rfl _)
        rcases k6 with ⟨rfl, hnil⟩ | ⟨j, rfl, hj, hbj, hne⟩
        · -- the first
          have st := a_st (P := Try.prog) (s := .push (.push (.set (.push (.is g) (.cells [.int .i64 0, .slice none 0 0, .int .i64 0] true)) g.length (.cells [.int .i64 fn, av, .int .i64 wh] true)) B) (.cells (svC [⟨wh, 1, 0⟩]) true)) (i := w) (d := 6) (l := [.slice (some ⟨g.length + 2, 0, none⟩) 1 3]) (c' := nwCells s (.slice (some ⟨g.length + 2, 0, none⟩) 1 3))
            (get_push (get_push gw)) (by simp [nwCells]) rfl
          have ap : (Asm.appNil (.push (.set (.push (.is g) (.cells [.int .i64 0, .slice none 0 0, .int .i64 0] true)) g.length (.cells [.int .i64 fn, av, .int .i64 wh] true)) B) (g.length + 1) 0 1 0 3 24 (svC [⟨wh, 1, 0⟩]) (g.length + 2)).holds Try.prog :=
            a_app3n (l2 := [⟨wh, 1, 0⟩]) (get_new' _ (by simp [SH.den])) (by simp) (by simp) (by simp [SH.den])
          have ln : (Asm.len (.set (.push (.is g) (.cells [.int .i64 0, .slice none 0 0, .int .i64 0] true)) g.length (.cells [.int .i64 fn, av, .int .i64 wh] true)) (g.length + 1)).holds Try.prog := by simp [Asm.holds, SH.den]
          have out : ∀ E2, EnvLe [(29, .int .i64 ((k + 1 : Nat) : Int)), (28, .int .i64 (Int.ofNat l.length)), (27, .slice (some ⟨o, 0, none⟩) l.length 3), (5, .pointer (some ⟨w, 0, none⟩))] E2 →
              CRun Try.prog 47 false (loopN Try.f11 0) E g .normal E2 (((gA ++ [B]) ++ [AObj.cells (svC [⟨wh, 1, 0⟩]) true]).set w (.cells (nwCells s (.slice (some ⟨g.length + 2, 0, none⟩) 1 3)) true)) →
              ∃ m' E1 h1, m' < m ∧ CRun Try.prog 47 false (loopN Try.f11 0) E g .normal E1 h1 ∧ ∃ k v, k ≤ l.length ∧ m' = l.length - k ∧ EnvLe [(29, .int .i64 (k : Nat)), (28, .int .i64 (Int.ofNat l.length)), (27, .slice (some ⟨o, 0, none⟩) l.length 3), (5, .pointer (some ⟨w, 0, none⟩))] E1 ∧
                Keep (fun q => q = w) h h1 ∧ h1[w]? = some (.cells (nwCells s v) true) ∧ OrdAt h1 h.length v ((l.take k).map sv0) := fun E2 q1 q2 =>
            ⟨l.length - (k + 1), E2, _, by omega, q2, k + 1, _, by omega, rfl, q1, K0 _, get_set_eq (get_push (get_push gw)), .inr ⟨g.length + 2, by rw [hmap, hnil]; rfl, by
              rw [hmap, hnil]; exact get_set_ne (get_new' _ (by simp [hAl])) (by omega), by omega, by rw [hmap]; simp⟩⟩
          rcases x3 with ⟨rfl, hnil⟩ | ⟨a, rw', rfl, hao⟩
          · obtain ⟨E2, q1, q2⟩ := pvC 0 k3 (w15p.nwl_onen o l.length w (k * 3) g.length (g.length + 1) (g.length + 2) k ((k + 1 : Nat) : Int) fn wh (nwCells s (.slice (some ⟨g.length + 2, 0, none⟩) 1 3)) (svC [⟨wh, 1, 0⟩]) g)
              ⟨pre1, pre2, pre3, rfl, a_st (get_new g _) (by simp) rfl, stat11, a_ld1 gw rfl, a_ld1 gx rfl, ln, ap, st, by simp only [Asm.holds, arithI, ak1], trivial⟩
            exact out E2 (.trans (.add (.add (.add (.add (.nil _) rfl) rfl) rfl) rfl) q1) q2
          · obtain ⟨E2, q1, q2⟩ := pvC 0 k3 (w15p.nwl_ones o l.length w (k * 3) g.length (g.length + 1) (g.length + 2) k ((k + 1 : Nat) : Int) fn wh (nwCells s (.slice (some ⟨g.length + 2, 0, none⟩) 1 3)) (svC [⟨wh, 1, 0⟩]) g a args.length)
              ⟨pre1, pre2, pre3, rfl, a_st (get_new g _) (by simp) rfl, stat11, a_ld1 gw rfl, a_ld1 gx rfl, ln, ap, st, by simp only [Asm.holds, arithI, ak1], trivial⟩
            exact out E2 (.trans (.add (.add (.add (.add (.nil _) rfl) rfl) rfl) rfl) q1) q2
        · -- one more
          have hlen : ((l.take k).map sv0).length = k := by simp; omega
          have hjl := get_lt hj
          have hjw : j ≠ w := by
            rintro rfl
            rw [hj] at k5
            simp only [Option.some.injEq, AObj.cells.injEq] at k5
            have e1 := svC_len ((l.take k).map sv0)
            rw [k5.1, hlen] at e1
            simp [nwCells] at e1
            omega
          have gj := KA.2 _ _ hj id
          have gjB : ((gA ++ [B]).set j .dead ++ [AObj.cells (svC ((l.take k).map sv0 ++ [(⟨wh, 1, 0⟩ : Sv)])) true])[w]? = some (.cells (nwCells s (.slice (some ⟨j, 0, none⟩) ((l.take k).map sv0).length 3)) true) := get_push (get_set_ne (get_push gw) hjw)
          have st := a_st (P := Try.prog) (s := .push (.set (.push (.set (.push (.is g) (.cells [.int .i64 0, .slice none 0 0, .int .i64 0] true)) g.length (.cells [.int .i64 fn, av, .int .i64 wh] true)) B) j .dead) (.cells (svC ((l.take k).map sv0 ++ [(⟨wh, 1, 0⟩ : Sv)])) true)) (i := w) (d := 6)
            (l := [.slice (some ⟨g.length + 2, 0, none⟩) (((l.take k).map sv0).length + 1) 3]) (c' := nwCells s (.slice (some ⟨g.length + 2, 0, none⟩) (((l.take k).map sv0).length + 1) 3)) gjB (by simp [nwCells]) rfl
          have ap : (Asm.app (.push (.set (.push (.is g) (.cells [.int .i64 0, .slice none 0 0, .int .i64 0] true)) g.length (.cells [.int .i64 fn, av, .int .i64 wh] true)) B) j 0 ((l.take k).map sv0).length (g.length + 1) 0 1 0 3 24 (svC ((l.take k).map sv0 ++ [(⟨wh, 1, 0⟩ : Sv)])) (svC [(⟨wh, 1, 0⟩ : Sv)]) (g.length + 2)).holds Try.prog :=
            a_app3 (l1 := (l.take k).map sv0) (l2 := [(⟨wh, 1, 0⟩ : Sv)]) (get_push gj) (get_new' _ (by simp [SH.den])) (by simp) (by simp; omega) (by simp [SH.den])
          have ln : (Asm.len (.set (.push (.is g) (.cells [.int .i64 0, .slice none 0 0, .int .i64 0] true)) g.length (.cells [.int .i64 fn, av, .int .i64 wh] true)) (g.length + 1)).holds Try.prog := by simp [Asm.holds, SH.den]
          have K1 : ∀ c, Keep (fun q => q = w) h ((((gA ++ [B]).set j .dead) ++ [AObj.cells (svC ((l.take k).map sv0 ++ [⟨wh, 1, 0⟩])) true]).set w (.cells c true)) := fun c =>
            (k4.trans (KA.mono fun q _ e => e.elim)).trans_new ((((Keep.push (fun q => q = w ∨ q = j) _ _).trans (Keep.set (fp := fun q => q = w ∨ q = j) (.inr rfl) _)).trans (Keep.push _ _ _)).trans (Keep.set (fp := fun q => q = w ∨ q = j) (.inl rfl) _)) (fun q hq e => by omega)
          have out : ∀ E2, EnvLe [(29, .int .i64 ((k + 1 : Nat) : Int)), (28, .int .i64 (Int.ofNat l.length)), (27, .slice (some ⟨o, 0, none⟩) l.length 3), (5, .pointer (some ⟨w, 0, none⟩))] E2 →
              CRun Try.prog 47 false (loopN Try.f11 0) E g .normal E2 ((((gA ++ [B]).set j .dead) ++ [AObj.cells (svC ((l.take k).map sv0 ++ [⟨wh, 1, 0⟩])) true]).set w (.cells (nwCells s (.slice (some ⟨g.length + 2, 0, none⟩) (((l.take k).map sv0).length + 1) 3)) true)) →
              ∃ m' E1 h1, m' < m ∧ CRun Try.prog 47 false (loopN Try.f11 0) E g .normal E1 h1 ∧ ∃ k v, k ≤ l.length ∧ m' = l.length - k ∧ EnvLe [(29, .int .i64 (k : Nat)), (28, .int .i64 (Int.ofNat l.length)), (27, .slice (some ⟨o, 0, none⟩) l.length 3), (5, .pointer (some ⟨w, 0, none⟩))] E1 ∧
                Keep (fun q => q = w) h h1 ∧ h1[w]? = some (.cells (nwCells s v) true) ∧ OrdAt h1 h.length v ((l.take k).map sv0) := fun E2 q1 q2 =>
            ⟨l.length - (k + 1), E2, _, by omega, q2, k + 1, _, by omega, rfl, q1, K1 _, get_set_eq gjB, .inr ⟨g.length + 2, by rw [hmap]; simp, by
              rw [hmap]; exact get_set_ne (get_new' _ (by simp [hAl])) (by omega), by omega, by rw [hmap]; simp⟩⟩
          rcases x3 with ⟨rfl, hnil⟩ | ⟨a, rw', rfl, hao⟩
          · obtain ⟨E2, q1, q2⟩ := pvC 0 k3 (w15p.nwl_moren o l.length w (k * 3) g.length (g.length + 1) (g.length + 2) j ((l.take k).map sv0).length k ((k + 1 : Nat) : Int) fn wh (svC ((l.take k).map sv0 ++ [⟨wh, 1, 0⟩])) (nwCells s (.slice (some ⟨g.length + 2, 0, none⟩) (((l.take k).map sv0).length + 1) 3)) (svC [⟨wh, 1, 0⟩]) g)
              ⟨pre1, pre2, pre3, rfl, a_st (get_new g _) (by simp) rfl, stat11, a_ld1 gw rfl, a_ld1 gx rfl, ln, ap, st, by simp only [Asm.holds, arithI, ak1], trivial⟩
            exact out E2 (.trans (.add (.add (.add (.add (.nil _) rfl) rfl) rfl) rfl) q1) q2
          · obtain ⟨E2, q1, q2⟩ := pvC 0 k3 (w15p.nwl_mores o l.length w (k * 3) g.length (g.length + 1) (g.length + 2) j ((l.take k).map sv0).length k ((k + 1 : Nat) : Int) fn wh (svC ((l.take k).map sv0 ++ [⟨wh, 1, 0⟩])) (nwCells s (.slice (some ⟨g.length + 2, 0, none⟩) (((l.take k).map sv0).length + 1) 3)) (svC [⟨wh, 1, 0⟩]) g a args.length)
              ⟨pre1, pre2, pre3, rfl, a_st (get_new g _) (by simp) rfl, stat11, a_ld1 gw rfl, a_ld1 gx rfl, ln, ap, st, by simp only [Asm.holds, arithI, ak1], trivial⟩
            exact out E2 (.trans (.add (.add (.add (.add (.nil _) rfl) rfl) rfl) rfl) q1) q2)
    l.length [(29, .int .i64 ((0 : Nat) : Int)), (28, .int .i64 (Int.ofNat l.length)), (27, .slice (some ⟨o, 0, none⟩) l.length 3), (5, .pointer (some ⟨w, 0, none⟩))] h ⟨0, .slice none 0 0, by omega, rfl, EnvLe.refl _, .refl _ _, hw, .inl ⟨rfl, rfl⟩⟩
  exact ⟨E1, h1, v, q1, hl1, q2, q3, q4⟩

theorem new_run {v : Value} {l : List SvV} (s : SpecV) (a : SlAt h v l) :
    (checkF s l ≠ 0 ∧ ∃ h', Run Try.prog 11 [.agg (s.cells v).toArray] h (.tuple #[.pointer none, .int .i64 (checkF s l)]) h' ∧ Keep (fun _ => False) h h') ∨
    (checkF s l = 0 ∧ ∃ i j h', Run Try.prog 11 [.agg (s.cells v).toArray] h (.tuple #[.pointer (some ⟨i, 0, none⟩), .int .i64 0]) h' ∧ Keep (fun _ => False) h h' ∧ WAt h' i j none (newW s l) ∧ h.length ≤ i ∧ h.length ≤ j) := by
  obtain ⟨r, m, wi, ba, ca⟩ := s
  have K0 : Keep (fun _ => False) h (h ++ [.cells (SpecV.cells ⟨r, m, wi, ba, ca⟩ v) true]) := Keep.push _ _ _
  have g0 : (h ++ [AObj.cells (SpecV.cells ⟨r, m, wi, ba, ca⟩ v) true])[h.length]? = some (.cells (SpecV.cells ⟨r, m, wi, ba, ca⟩ v) true) := get_new h _
  obtain ⟨g2, hc, K2⟩ := check_run ⟨r, m, wi, ba, ca⟩ (a.keep K0)
  by_cases e : checkF ⟨r, m, wi, ba, ca⟩ l = 0
  · right
    refine ⟨e, ?_⟩
    have hh : headOk ⟨r, m, wi, ba, ca⟩ l.length := by
      unfold checkF at e
      split at e
      · rename_i hx; exact hx.1
      · cases e
    rw [e] at hc
    rcases a with ⟨rfl, rfl⟩ | ⟨o, rw, xs, rfl, ho, ha⟩
    · simp [headOk] at hh
    · have ge := K2.2 _ _ g0 id
      have KW : Keep (fun _ => False) g2 (g2 ++ [AObj.cells (nwCells ⟨r, m, wi, ba, ca⟩ (.slice none 0 0)) true]) := Keep.push _ _ _
      have hol := get_lt ho
      have hg2 := K2.1
      simp at hg2
      obtain ⟨E1, h1, v, e1, hl1, K3, hw, hO⟩ := new_loop ⟨r, m, wi, ba, ca⟩ (KW.2 _ _ (K2.2 _ _ (K0.2 _ _ ho id) id) id) (((ha.keep K0).keep K2).keep KW) (by have := hh; unfold headOk at this; omega) (get_new g2 _) (by omega)
      have pl : plainC (loopN Try.f11 0) = true := by kernel_rfl
      rcases hO with ⟨rfl, hnil⟩ | ⟨j, rfl, hj, hbj, hne⟩
      · have : l.length = 0 := by simpa using congrArg List.length hnil
        rw [this] at hh; simp [headOk] at hh
      · simp at hbj
        have hw' := hw
        have hml : (l.map sv0).length = l.length := by simp
        refine ⟨g2.length, j, h1, pvF 0 Try.func11 (w15p.nw_ok h.length o l.length g2.length r m wi ba ca 0 [] h g2 h1)
          ⟨rfl, a_ldn g0 (by simp [SpecV.cells]) rfl, hc, by simp [Asm.holds, cmpB], a_ld1 ge rfl, a_ld1 ge rfl, a_ld1 ge rfl, a_ld1 ge rfl, a_ld1 ge rfl, rfl, a_ld1 (KW.2 _ _ ge id) rfl,
            a_loop pl (.add (.add (.add (.add (.nil _) rfl) rfl) rfl) rfl) e1 hl1, trivial⟩, ((K0.trans K2).trans KW).trans_new K3 (fun q hq e => by omega), ⟨hw, hj, .inl ⟨rfl, rfl⟩, by omega⟩, by omega, by omega⟩
  · left
    refine ⟨e, g2, ?_, K0.trans K2⟩
    rcases a with ⟨rfl, rfl⟩ | ⟨o, rw, xs, rfl, ho, ha⟩
    · exact pvF 0 Try.func11 (w15p.nw_non h.length r m wi ba ca _ h g2) ⟨rfl, a_ldn g0 (by simp [SpecV.cells]) rfl, hc, by simpa [Asm.holds, cmpB] using e, trivial⟩
    · exact pvF 0 Try.func11 (w15p.nw_nos h.length r m wi ba ca _ h g2 o l.length) ⟨rfl, a_ldn g0 (by simp [SpecV.cells]) rfl, hc, by simpa [Asm.holds, cmpB] using e, trivial⟩

theorem newW_ok {s : SpecV} {l : List SvV} (e : checkF s l = 0) : WOk (newW s l) ∧ (newW s l).svs.length = l.length ∧ headOk s l.length ∧ l.all svOk = true := by
  unfold checkF at e
  split at e
  · rename_i hx
    obtain ⟨hh, hs⟩ := hx
    have hh' := hh
    unfold headOk at hh'
    refine ⟨⟨?_, ?_, ?_, ?_, ?_, ?_, ?_, ?_, ?_, ?_⟩, ?_, hh, hs⟩ <;> simp [newW] <;> omega
  · cases e

end Go.Proofs.Ytkkhokgpcifckaa.wd

namespace Go.Proofs.Ytkkhokgpcifckaa.wd
open Go Go.Ev
set_option maxRecDepth 100000
set_option linter.constructorNameAsVariable false

/-! ### The arguments, taken apart -/

theorem chunks {α : Type} (f : α → List Value) {z : Nat} (hz : ∀ x, (f x).length = z) : ∀ (n : Nat) (c : List Value), c.length = n * z → (∀ k, k < n → ∃ x, (c.drop (k * z)).take z = f x) →
    ∃ l : List α, l.length = n ∧ c = l.flatMap f ∧ ∀ k x, l[k]? = some x → (c.drop (k * z)).take z = f x
  | 0, c, hl, _ => ⟨[], rfl, List.length_eq_zero_iff.1 (by simpa using hl), fun k x h => by simp at h⟩
  | n + 1, c, hl, hc => by
    have hs : (n + 1) * z = n * z + z := by rw [Nat.add_mul, Nat.one_mul]
    obtain ⟨x, hx⟩ := hc 0 (by omega)
    obtain ⟨l, h1, h2, h3⟩ := chunks f hz n (c.drop z) (by rw [List.length_drop, hl, hs]; omega) (fun k hk => by
      obtain ⟨y, hy⟩ := hc (k + 1) (by omega)
      refine ⟨y, ?_⟩
      rw [List.drop_drop, ← hy, Nat.add_mul, Nat.one_mul, Nat.add_comm])
    refine ⟨x :: l, by simp [h1], ?_, fun k y hy => ?_⟩
    · rw [List.flatMap_cons, ← h2, ← hx, Nat.zero_mul, List.drop_zero, List.take_append_drop]
    · cases k with
      | zero => simp at hy; subst hy; exact hx
      | succ k =>
        have := h3 k y (by simpa using hy)
        rw [List.drop_drop, Nat.add_comm z] at this
        rw [Nat.add_mul, Nat.one_mul]; exact this

theorem vvC_flat : ∀ l : List VV, l.flatMap VV.cells = vvC l
  | [] => rfl
  | x :: l => by rw [List.flatMap_cons, vvC_flat l]; rfl
theorem svhC_flat : ∀ l : List SvH, l.flatMap SvH.cells = svhC l
  | [] => rfl
  | x :: l => by rw [List.flatMap_cons, svhC_flat l]; rfl

def opC : List OpV → List Value
  | [] => []
  | x :: l => .int .i64 x.kind :: .int .i64 x.n :: .int .i64 x.at' :: .int .i64 x.fk :: .string x.ft :: opC l
theorem opC_flat : ∀ l : List OpV, l.flatMap OpV.cells = opC l
  | [] => rfl
  | x :: l => by rw [List.flatMap_cons, opC_flat l]; rfl
theorem opC_len : ∀ l : List OpV, (opC l).length = l.length * 5
  | [] => rfl
  | x :: l => by simp [opC, opC_len l]; omega
theorem opC_cut : ∀ {l : List OpV} {k : Nat} {x : OpV}, l[k]? = some x → ((opC l).drop (k * 5)).take 5 = x.cells
  | [], k, x, h => by simp at h
  | y :: l, 0, x, h => by simp at h; subst h; simp [opC, OpV.cells]
  | y :: l, k + 1, x, h => by
    have := opC_cut (l := l) (k := k) (x := x) (by simpa using h)
    rw [show (k + 1) * 5 = k * 5 + 5 by omega]
    simpa [opC] using this

/-- The calls where they lie. -/
def OpsAt (h : Hp) (v : Value) (l : List OpV) : Prop := (v = .slice none 0 0 ∧ l = []) ∨ ∃ o rw, v = .slice (some ⟨o, 0, none⟩) l.length 5 ∧ h[o]? = some (.cells (opC l) rw)

section
variable {h : Hp} {F : Nat}
theorem c3 : Try.prog.cellsOf 3 = 1 := by kernel_rfl
theorem c9 : Try.prog.cellsOf 9 = 1 := by kernel_rfl
theorem c34 : Try.prog.cellsOf 34 = 2 := by kernel_rfl
theorem c36 : Try.prog.cellsOf 36 = 5 := by kernel_rfl
theorem c54 : Try.prog.cellsOf 54 = 3 := by kernel_rfl
theorem c52 : Try.prog.cellsOf 52 = 1 := by kernel_rfl
theorem c22 : Try.prog.cellsOf 22 = 1 := by kernel_rfl
theorem c24 : Try.prog.cellsOf 24 = 6 := by kernel_rfl
theorem c71 : Try.prog.cellsOf 71 = 3 := by kernel_rfl
theorem u3 : Try.prog.underlying 3 = some (.int .i64) := by kernel_rfl
theorem u9 : Try.prog.underlying 9 = some .string := by kernel_rfl
theorem u25 : Try.prog.underlying 25 = some (.slice 36) := by kernel_rfl
theorem u22 : Try.prog.underlying 22 = some (.slice 54) := by kernel_rfl
theorem u52 : Try.prog.underlying 52 = some (.slice 71) := by kernel_rfl

theorem op_cells {cs : List Value} (hc : ATyped Try.prog h F 36 cs) : ∃ x : OpV, cs = x.cells := by
  obtain ⟨G, rfl, hl, hf⟩ := hc.asStruct Try.underlying36
  rw [c36] at hl
  match cs, hl with
  | [a, b, c, d, e], _ =>
    simp only [List.forall_mem_cons, c3, c34] at hf
    obtain ⟨k, h1, _⟩ := hf.1.asInt u3
    obtain ⟨n, h2, _⟩ := hf.2.1.asInt u3
    obtain ⟨t, h3, _⟩ := hf.2.2.1.asInt u3
    obtain ⟨G, rfl, hl, hg⟩ := hf.2.2.2.1.asStruct Try.underlying34
    simp only [List.forall_mem_cons, c3, c9] at hg
    obtain ⟨f, h4, _⟩ := hg.1.asInt u3
    obtain ⟨s, h5, _⟩ := hg.2.1.asString u9
    simp at h1 h2 h3 h4 h5
    subst h1; subst h2; subst h3; subst h4; subst h5
    exact ⟨⟨k, n, t, f, s⟩, rfl⟩
theorem op_arg {a : Value} (ht : ArgTyped Try.prog h F 36 a) : ∃ x : OpV, a = .agg x.cells.toArray := by
  obtain ⟨cs, rfl, hc⟩ := ht.asStruct Try.underlying36
  obtain ⟨x, hx⟩ := op_cells hc
  exact ⟨x, by rw [← hx]⟩
theorem ops_arg {a : Value} (ht : ArgTyped Try.prog h F 25 a) : ∃ l : List OpV, OpsAt h a l := by
  obtain ⟨G, rfl, rfl | ⟨i, len, c, rfl, hi, hl, _, hk⟩⟩ := ht.asSlice u25
  · exact ⟨[], .inl ⟨rfl, rfl⟩⟩
  · rw [c36] at hl hk
    obtain ⟨l, h1, h2, _⟩ := chunks OpV.cells (z := 5) (fun _ => rfl) len c hl (fun k hlt => op_cells (hk k hlt))
    rw [opC_flat] at h2
    exact ⟨l, .inr ⟨i, false, by rw [c36, h1], by rw [← h2]; exact hi⟩⟩

theorem vv_cells {cs : List Value} (hc : ATyped Try.prog h F 71 cs) : ∃ x : VV, cs = x.cells := by
  obtain ⟨G, rfl, hl, hf⟩ := hc.asStruct Try.underlying71
  rw [c71] at hl
  match cs, hl with
  | [a, b, c], _ =>
    simp only [List.forall_mem_cons, c3, c9] at hf
    obtain ⟨k, h1, _⟩ := hf.1.asInt u3
    obtain ⟨n, h2, _⟩ := hf.2.1.asInt u3
    obtain ⟨s, h3, _⟩ := hf.2.2.1.asString u9
    simp at h1 h2 h3
    subst h1; subst h2; subst h3
    exact ⟨⟨k, n, s⟩, rfl⟩
theorem args_cells {cs : List Value} (hc : ATyped Try.prog h F 52 cs) : ∃ v l, cs = [v] ∧ ArgsAt h v l := by
  obtain ⟨G, rfl, rfl | ⟨i, len, c, rfl, hi, hl, _, hk⟩⟩ := hc.asSlice u52
  · exact ⟨_, [], rfl, .inl ⟨rfl, rfl⟩⟩
  · rw [c71] at hl hk
    obtain ⟨l, h1, h2, _⟩ := chunks VV.cells (z := 3) (fun _ => rfl) len c hl (fun k hlt => vv_cells (hk k hlt))
    rw [vvC_flat] at h2
    exact ⟨_, l, rfl, .inr ⟨i, false, by rw [c71, h1], by rw [← h2]; exact hi⟩⟩
theorem sv_cells {cs : List Value} (hc : ATyped Try.prog h F 54 cs) : ∃ (x : SvH), cs = x.cells ∧ ∃ l, ArgsAt h x.av l := by
  obtain ⟨G, rfl, hl, hf⟩ := hc.asStruct Try.underlying54
  rw [c54] at hl
  match cs, hl with
  | [a, b, c], _ =>
    simp only [List.forall_mem_cons, c3, c52] at hf
    obtain ⟨k, h1, _⟩ := hf.1.asInt u3
    obtain ⟨v, l, h2, hA⟩ := args_cells hf.2.1
    obtain ⟨n, h3, _⟩ := hf.2.2.1.asInt u3
    simp at h1 h2 h3
    subst h1; subst h2; subst h3
    exact ⟨⟨k, b, n⟩, rfl, l, hA⟩
theorem svs_cells {cs : List Value} (hc : ATyped Try.prog h F 22 cs) : ∃ v l, cs = [v] ∧ SlAt h v l := by
  obtain ⟨G, rfl, rfl | ⟨i, len, c, rfl, hi, hl, _, hk⟩⟩ := hc.asSlice u22
  · exact ⟨_, [], rfl, .inl ⟨rfl, rfl⟩⟩
  · rw [c54] at hl hk
    obtain ⟨xs, h1, h2, h3⟩ := chunks SvH.cells (z := 3) (fun _ => rfl) len c hl (fun k hlt => (sv_cells (hk k hlt)).imp fun _ h => h.1)
    rw [svhC_flat] at h2
    have ex : ∀ x ∈ xs, ∃ l, ArgsAt h x.av l := fun x hx => by
      obtain ⟨k, hk'⟩ := List.mem_iff_getElem?.1 hx
      obtain ⟨y, hy, l, hl⟩ := sv_cells (hk k (by have := (List.getElem?_eq_some_iff.1 hk').1; omega))
      rw [h3 k x hk'] at hy
      obtain ⟨a, b, c⟩ := x
      obtain ⟨a', b', c'⟩ := y
      simp [SvH.cells] at hy
      obtain ⟨rfl, rfl, rfl⟩ := hy
      exact ⟨l, hl⟩
    obtain ⟨ys, hy⟩ : ∃ ys : List SvV, SvsAt h xs ys := by
      clear h1 h2 h3
      induction xs with
      | nil => exact ⟨[], rfl, fun k x y h => by simp at h⟩
      | cons x xs ih =>
        obtain ⟨l, hl⟩ := ex x (List.mem_cons_self ..)
        obtain ⟨ys, e1, e2⟩ := ih (fun y hy => ex y (List.mem_cons_of_mem _ hy))
        refine ⟨⟨x.fn, l, x.wh⟩ :: ys, by simp [e1], fun k a b ha hb => ?_⟩
        cases k with
        | zero => simp at ha hb; subst ha; subst hb; exact ⟨rfl, rfl, hl⟩
        | succ k => exact e2 k a b (by simpa using ha) (by simpa using hb)
    exact ⟨_, ys, rfl, .inr ⟨i, false, xs, by rw [c54, ← hy.1, h1], by rw [← h2]; exact hi, hy⟩⟩
theorem spec_arg {a : Value} (ht : ArgTyped Try.prog h F 24 a) : ∃ s : SpecV, ∃ v l, a = .agg (s.cells v).toArray ∧ SlAt h v l := by
  obtain ⟨cs, rfl, hc⟩ := ht.asStruct Try.underlying24
  obtain ⟨G, rfl, hl, hf⟩ := hc.asStruct Try.underlying24
  rw [c24] at hl
  obtain ⟨cs⟩ := cs
  match cs, hl with
  | [a, b, c, d, e, f], _ =>
    simp only [List.forall_mem_cons, c3, c22] at hf
    obtain ⟨k, h1, _⟩ := hf.1.asInt u3
    obtain ⟨n, h2, _⟩ := hf.2.1.asInt u3
    obtain ⟨t, h3, _⟩ := hf.2.2.1.asInt u3
    obtain ⟨p, h4, _⟩ := hf.2.2.2.1.asInt u3
    obtain ⟨q, h5, _⟩ := hf.2.2.2.2.1.asInt u3
    obtain ⟨v, l, h6, hA⟩ := svs_cells hf.2.2.2.2.2.1
    simp at h1 h2 h3 h4 h5 h6
    subst h1; subst h2; subst h3; subst h4; subst h5; subst h6
    exact ⟨⟨k, n, t, p, q⟩, f, l, rfl, hA⟩
end

end Go.Proofs.Ytkkhokgpcifckaa.wd

namespace Go.Proofs.Ytkkhokgpcifckaa.wd
open Go Go.Ev

/-! ### Plain facts of the Warden -/

theorem stS_get (p : Nat → Bool) : ∀ (n : Nat) (l : List Sv) (k : Nat), (stS p n l)[k]? = (l[k]?).map (stStep p (n + k))
  | n, [], k => by simp [stS]
  | n, x :: l, 0 => by simp [stS]
  | n, x :: l, k + 1 => by
    have := stS_get p (n + 1) l k
    rw [show n + (k + 1) = n + 1 + k by omega]
    simpa [stS] using this
theorem mS_get (f : Nat → Sv → Sv) : ∀ (n : Nat) (l : List Sv) (k : Nat), (mS f n l)[k]? = (l[k]?).map (f (n + k))
  | n, [], k => by simp [mS]
  | n, x :: l, 0 => by simp [mS]
  | n, x :: l, k + 1 => by
    have := mS_get f (n + 1) l k
    rw [show n + (k + 1) = n + 1 + k by omega]
    simpa [mS] using this
theorem setSt_get (l : List Sv) (n s : Int) (k : Nat) : (setSt l n s)[k]? = (l[k]?).map fun x => if k = (n - 1).toNat then { x with state := s } else x := by
  unfold setSt
  cases hx : l[(n - 1).toNat]? with
  | none =>
    simp only
    cases hk : l[k]? with
    | none => rfl
    | some y =>
      have : k ≠ (n - 1).toNat := fun e => by subst e; rw [hx] at hk; cases hk
      simp only [Option.map_some, if_neg this]
  | some x =>
    simp only
    by_cases e : k = (n - 1).toNat
    · subst e
      rw [List.getElem?_set_self (get_lt' hx), hx]; simp only [Option.map_some, if_true]
    · rw [List.getElem?_set_ne (Ne.symm e)]
      cases l[k]? with
      | none => rfl
      | some y => simp only [Option.map_some, if_neg e]
theorem putSv_get (l : List Sv) (n : Int) (f : Sv → Sv) (k : Nat) : (putSv l n f)[k]? = (l[k]?).map fun x => if k = (n - 1).toNat then f x else x := by
  unfold putSv
  cases hx : l[(n - 1).toNat]? with
  | none =>
    simp only
    cases hk : l[k]? with
    | none => rfl
    | some y =>
      have : k ≠ (n - 1).toNat := fun e => by subst e; rw [hx] at hk; cases hk
      simp only [Option.map_some, if_neg this]
  | some x =>
    simp only
    by_cases e : k = (n - 1).toNat
    · subst e
      rw [List.getElem?_set_self (get_lt' hx), hx]; simp only [Option.map_some, if_true]
    · rw [List.getElem?_set_ne (Ne.symm e)]
      cases l[k]? with
      | none => rfl
      | some y => simp only [Option.map_some, if_neg e]

/-- What each service becomes: pointwise relations between two rows of services. -/
def Each (R : Sv → Sv → Prop) (l m : List Sv) : Prop := m.length = l.length ∧ ∀ (k : Nat) x y, l[k]? = some x → m[k]? = some y → R x y
theorem Each.refl {R : Sv → Sv → Prop} (hr : ∀ x, R x x) (l : List Sv) : Each R l l := ⟨rfl, fun k x y hx hy => by rw [hx] at hy; cases hy; exact hr x⟩
theorem Each.trans {R : Sv → Sv → Prop} (ht : ∀ x y z, R x y → R y z → R x z) {a b c : List Sv} (h : Each R a b) (g : Each R b c) : Each R a c :=
  ⟨by rw [g.1, h.1], fun k x z hx hz => by
    have hk := get_lt' hx
    have hb : k < b.length := by rw [h.1]; exact hk
    exact ht x b[k] z (h.2 k x _ hx (List.getElem?_eq_getElem hb)) (g.2 k _ z (List.getElem?_eq_getElem hb) hz)⟩
theorem Each.mono {R S : Sv → Sv → Prop} (hi : ∀ x y, R x y → S x y) {a b : List Sv} (h : Each R a b) : Each S a b := ⟨h.1, fun k x y hx hy => hi x y (h.2 k x y hx hy)⟩
theorem Each.of_map {R : Sv → Sv → Prop} {a b : List Sv} (f : Nat → Sv → Sv) (hl : b.length = a.length) (hb : ∀ k : Nat, b[k]? = (a[k]?).map (f k)) (hr : ∀ k x, R x (f k x)) : Each R a b :=
  ⟨hl, fun k x y hx hy => by rw [hb k, hx] at hy; simp at hy; subst hy; exact hr k x⟩

theorem stS_each {R : Sv → Sv → Prop} (p : Nat → Bool) (l : List Sv) (hr : ∀ k x, R x (stStep p k x)) : Each R l (stS p 0 l) := .of_map _ (stS_len p 0 l) (fun k => stS_get p 0 l k) (fun k x => by simpa using hr (0 + k) x)
theorem mS_each {R : Sv → Sv → Prop} (f : Nat → Sv → Sv) (l : List Sv) (hr : ∀ k x, R x (f k x)) : Each R l (mS f 0 l) := .of_map _ (mS_len f 0 l) (fun k => mS_get f 0 l k) (fun k x => by simpa using hr (0 + k) x)
theorem setSt_each {R : Sv → Sv → Prop} (l : List Sv) (n s : Int) (hr : ∀ x, R x x) (hs : ∀ x, R x { x with state := s }) : Each R l (setSt l n s) := .of_map _ (setSt_len l n s) (fun k => setSt_get l n s k) (fun k x => by split; exact hs x; exact hr x)
theorem putSv_each {R : Sv → Sv → Prop} (l : List Sv) (n : Int) (f : Sv → Sv) (hr : ∀ x, R x x) (hs : ∀ x, R x (f x)) : Each R l (putSv l n f) := .of_map _ (putSv_len l n f) (fun k => putSv_get l n f k) (fun k x => by split; exact hs x; exact hr x)
theorem map_each {R : Sv → Sv → Prop} (f : Sv → Sv) (l : List Sv) (hr : ∀ x, R x (f x)) : Each R l (l.map f) := .of_map (fun _ => f) (by simp) (fun k => by simp) (fun _ x => hr x)

/-- A service keeps its kind, and a state from 1 to 5. -/
def WH (x y : Sv) : Prop := y.when = x.when ∧ (1 ≤ x.state ∧ x.state ≤ 5 → 1 ≤ y.state ∧ y.state ≤ 5)
theorem WH.refl (x : Sv) : WH x x := ⟨rfl, id⟩
theorem WH.trans (x y z : Sv) (h : WH x y) (g : WH y z) : WH x z := ⟨g.1.trans h.1, fun e => g.2 (h.2 e)⟩
theorem stStep_wh (p : Nat → Bool) (k : Nat) (x : Sv) : WH x (stStep p k x) := by
  unfold stStep
  split
  · exact ⟨rfl, fun _ => by simp⟩
  · exact WH.refl x
theorem bgStep_wh (a : Int) (x : Sv) : WH x (bgStep a x) := by
  unfold bgStep
  split
  · exact ⟨rfl, fun _ => by simp⟩
  · exact WH.refl x
theorem gvStep_wh (k : Nat) (x : Sv) : WH x (gvStep k x) := by
  unfold gvStep
  split
  · exact ⟨rfl, fun _ => by simp⟩
  · exact WH.refl x
theorem ofStep_wh (p : Nat → Bool) (k : Nat) (x : Sv) : WH x (ofStep p k x) := by
  unfold ofStep
  split
  · exact ⟨rfl, fun _ => by simp⟩
  · exact WH.refl x
theorem set_wh {s : Int} (hs : 1 ≤ s ∧ s ≤ 5) (x : Sv) : WH x { x with state := s } := ⟨rfl, fun _ => hs⟩

theorem begin_wh (w : WS) : Each WH w.svs (beginF w).1.svs := by
  unfold beginF
  split
  · exact .refl WH.refl _
  · exact map_each _ _ (bgStep_wh _)
theorem giveUp_wh (w : WS) (n : Int) : Each WH w.svs (giveUpF w n).1.svs := by
  unfold giveUpF stopped gave
  exact ((setSt_each _ n 5 WH.refl (set_wh (by omega))).trans WH.trans (mS_each _ _ gvStep_wh)).trans WH.trans (stS_each _ _ (stStep_wh _))
theorem off3_wh (w : WS) (n : Int) : Each WH w.svs (off3 w n).svs := by
  unfold off3 off2 stopped off1
  exact ((setSt_each _ n 3 WH.refl (set_wh (by omega))).trans WH.trans (stS_each _ _ (stStep_wh _))).trans WH.trans (mS_each _ _ (ofStep_wh _))
theorem again_wh (w : WS) (n : Int) : Each WH w.svs (againF w n).1.svs := by
  unfold againF
  split
  · exact giveUp_wh (timed w) n
  · exact (off3_wh w n).trans WH.trans (begin_wh _)
theorem follow_wh (w : WS) (n fk : Int) (x : Sv) : Each WH w.svs (followF w n fk x).1.svs := by
  unfold followF
  split
  · exact setSt_each _ n 5 WH.refl (set_wh (by omega))
  · split
    · exact (setSt_each w.svs n 3 WH.refl (set_wh (by omega))).trans WH.trans (begin_wh { w with svs := setSt w.svs n 3 })
    · split
      · exact setSt_each _ n 5 WH.refl (set_wh (by omega))
      · exact again_wh w n
theorem ended_wh (w : WS) (n fk : Int) (ft : ByteArray) (now : Int) : Each WH w.svs (endedF w n fk ft now).1.svs := by
  unfold endedF
  split
  · exact .refl WH.refl _
  · split
    · exact .refl WH.refl _
    · split
      · exact follow_wh { w with now := now } n fk _
      · exact .refl WH.refl _
theorem started_wh (w : WS) (n now : Int) : Each WH w.svs (startedF w n now).1.svs := by
  unfold startedF
  split
  · exact .refl WH.refl _
  · split
    · exact .refl WH.refl _
    · split
      · split
        · exact .refl WH.refl _
        · exact putSv_each _ n _ WH.refl fun x => ⟨rfl, fun _ => by simp⟩
      · exact .refl WH.refl _
theorem run_wh (w : WS) (o : OpV) : Each WH w.svs (runF w o).1.svs := by
  unfold runF
  split
  · exact ended_wh _ _ _ _ _
  · exact started_wh _ _ _

/-- What stays as it was given. -/
def SameSpec (w v : WS) : Prop := v.rule = w.rule ∧ v.most = w.most ∧ v.within = w.within ∧ v.base = w.base ∧ v.cap = w.cap
theorem SameSpec.refl (w : WS) : SameSpec w w := ⟨rfl, rfl, rfl, rfl, rfl⟩
theorem SameSpec.trans {a b c : WS} (h : SameSpec a b) (g : SameSpec b c) : SameSpec a c := ⟨g.1.trans h.1, g.2.1.trans h.2.1, g.2.2.1.trans h.2.2.1, g.2.2.2.1.trans h.2.2.2.1, g.2.2.2.2.trans h.2.2.2.2⟩
theorem begin_same (w : WS) : SameSpec w (beginF w).1 := by
  unfold beginF
  split
  · exact .refl _
  · exact .refl _
theorem again_same (w : WS) (n : Int) : SameSpec w (againF w n).1 := by
  unfold againF
  split
  · exact ⟨rfl, rfl, rfl, rfl, rfl⟩
  · exact SameSpec.trans (b := off3 w n) ⟨rfl, rfl, rfl, rfl, rfl⟩ (begin_same _)
theorem follow_same (w : WS) (n fk : Int) (x : Sv) : SameSpec w (followF w n fk x).1 := by
  unfold followF
  split
  · exact .refl _
  · split
    · exact SameSpec.trans (b := { w with svs := setSt w.svs n 3 }) (.refl _) (begin_same _)
    · split
      · exact .refl _
      · exact again_same w n
theorem run_same (w : WS) (o : OpV) : SameSpec w (runF w o).1 := by
  unfold runF
  split
  · unfold endedF
    split
    · exact .refl _
    · split
      · exact .refl _
      · split
        · exact SameSpec.trans (b := { w with now := o.at' }) (.refl _) (follow_same _ _ _ _)
        · exact .refl _
  · unfold startedF
    split
    · exact .refl _
    · split
      · exact .refl _
      · split
        · split
          · exact .refl _
          · exact .refl _
        · exact .refl _

/-- The warden after some calls. -/
def stepF (w : WS) (o : OpV) : WS := (runF w o).1
def foldW (w : WS) (l : List OpV) : WS := l.foldl stepF w
theorem foldW_snoc (w : WS) (l : List OpV) (o : OpV) : foldW w (l ++ [o]) = stepF (foldW w l) o := by simp [foldW, List.foldl_append]

/-- What is so at the beginning and after every call. -/
theorem foldW_inv {I : Nat → WS → Prop} {w : WS} (h0 : I 0 w) (hs : ∀ k w o, k < 10000 → WOk w → I k w → w.times.length ≤ k → I (k + 1) (stepF w o)) (hw : WOk w) (ht : w.times = []) :
    ∀ (n : Nat) (l : List OpV), l.length = n → n ≤ 10000 → WOk (foldW w l) ∧ (foldW w l).times.length ≤ n ∧ I n (foldW w l)
  | 0, l, hl, _ => by
    rw [List.length_eq_zero_iff.1 hl]
    exact ⟨hw, by simp [foldW, ht], h0⟩
  | n + 1, l, hl, hn => by
    obtain ⟨m, o, rfl⟩ : ∃ m o, l = m ++ [o] := by
      refine ⟨l.dropLast, l.getLast (fun e => by subst e; simp at hl), (List.dropLast_concat_getLast _).symm⟩
    simp at hl
    obtain ⟨h1, h2, h3⟩ := foldW_inv h0 hs hw ht n m hl (by omega)
    rw [foldW_snoc]
    obtain ⟨k1, k2, k3⟩ := run_ok h1 (by omega) o
    exact ⟨k1, by show (runF (foldW w m) o).1.times.length ≤ n + 1; omega, hs n _ o (by omega) h1 h3 h2⟩

/-- The first facts: the bounds, the services' kinds and states, what was given. -/
structure Good (w0 w : WS) (n : Nat) : Prop where
  ok : WOk w
  times : w.times.length ≤ n
  each : Each WH w0.svs w.svs
  same : SameSpec w0 w

theorem foldW_good {w : WS} (hw : WOk w) (ht : w.times = []) (l : List OpV) (hl : l.length ≤ 10000) : Good w (foldW w l) l.length := by
  obtain ⟨h1, h2, h3, h4⟩ := foldW_inv (I := fun _ v => Each WH w.svs v.svs ∧ SameSpec w v) (w := w) ⟨.refl WH.refl _, .refl _⟩ (fun k v o _ _ hi _ => ⟨hi.1.trans WH.trans (run_wh v o), hi.2.trans (run_same v o)⟩) hw ht l.length l rfl hl
  exact ⟨h1, h2, h3, h4⟩

/-- The n-th service after its end. -/
def endSt (w : WS) (n fk : Int) (x : Sv) : Int × Nat × Bool := ((stateOf (followF w n fk x).1 n).1, (followF w n fk x).1.times.length, (followF w n fk x).1.given)

theorem stateOf_of {w : WS} {n : Int} {x : Sv} (hn : 1 ≤ n ∧ n ≤ w.svs.length) (hx : w.svs[(n - 1).toNat]? = some x) : stateOf w n = (x.state, x.at') := by
  simp only [stateOf, if_neg (show ¬ (n < 1 ∨ n > (w.svs.length : Int)) by omega), hx]

theorem begin_state {w : WS} {n : Int} {x : Sv} (hn : 1 ≤ n ∧ n ≤ w.svs.length) (hx : w.svs[(n - 1).toNat]? = some x) (h3 : x.state = 3) : (stateOf (beginF w).1 n).1 = 3 ∨ (stateOf (beginF w).1 n).1 = 4 := by
  unfold beginF
  split
  · left; rw [stateOf_of hn hx]; exact h3
  · right
    rw [stateOf_of (x := bgStep (atOf w) x) (by simpa using hn) (by simp only [List.getElem?_map, hx, Option.map_some])]
    simp [bgStep, h3]

theorem begin_given (w : WS) : (beginF w).1.given = w.given := by unfold beginF; split <;> rfl

theorem again_end {w : WS} {n : Int} {x : Sv} (hn : 1 ≤ n ∧ n ≤ w.svs.length) (hx : w.svs[(n - 1).toNat]? = some x) (hg : w.given = false) :
    (againF w n).1.times.length = w.times.length + 1 ∧ (((againF w n).1.given = true ∧ (stateOf (againF w n).1 n).1 = 5) ∨ ((againF w n).1.given = false ∧ ((stateOf (againF w n).1 n).1 = 3 ∨ (stateOf (againF w n).1 n).1 = 4))) := by
  refine ⟨by rw [again_times]; simp, ?_⟩
  unfold againF
  split
  · left
    refine ⟨rfl, ?_⟩
    have hl : (giveUpF (timed w) n).1.svs.length = w.svs.length := (giveUp_wh (timed w) n).1
    have : (giveUpF (timed w) n).1.svs[(n - 1).toNat]? = some { x with state := 5 } := by
      simp only [giveUpF, stopped, gave, stS_get, mS_get, setSt_get, timed, hx, Option.map_some, if_true]
      simp [gvStep, stStep]
    rw [stateOf_of (by rw [hl]; exact hn) this]
  · right
    have h3 : (off3 w n).svs[(n - 1).toNat]? = some { x with state := 3 } := by
      simp only [off3, off2, off1, stopped, stS_get, mS_get, setSt_get, timed, hx, Option.map_some, if_true]
      simp [ofStep, stStep]
    refine ⟨by rw [begin_given]; exact hg, begin_state (by rw [off3_len]; exact hn) h3 rfl⟩

theorem follow_end {w : WS} {n fk : Int} {x : Sv} (hn : 1 ≤ n ∧ n ≤ w.svs.length) (hx : w.svs[(n - 1).toNat]? = some x) :
    (w.given = true → (stateOf (followF w n fk x).1 n).1 = 5 ∧ (followF w n fk x).1.times = w.times) ∧
    (w.given = false → x.state = 2 → ((stateOf (followF w n fk x).1 n).1 = 3 ∨ (stateOf (followF w n fk x).1 n).1 = 4) ∧ (followF w n fk x).1.times = w.times) ∧
    (w.given = false → x.state ≠ 2 → (x.when = 3 ∨ (x.when = 2 ∧ fk ≠ 1)) → (stateOf (followF w n fk x).1 n).1 = 5 ∧ (followF w n fk x).1.times = w.times) ∧
    (w.given = false → x.state ≠ 2 → ¬ (x.when = 3 ∨ (x.when = 2 ∧ fk ≠ 1)) → (followF w n fk x).1.times.length = w.times.length + 1 ∧
      (((followF w n fk x).1.given = true ∧ (stateOf (followF w n fk x).1 n).1 = 5) ∨ ((followF w n fk x).1.given = false ∧ ((stateOf (followF w n fk x).1 n).1 = 3 ∨ (stateOf (followF w n fk x).1 n).1 = 4)))) := by
  have h5 : (stateOf { w with svs := setSt w.svs n 5 } n).1 = 5 := by
    rw [stateOf_of (x := { x with state := 5 }) (by simpa [setSt_len] using hn) (by simp only [setSt_get, hx, Option.map_some, if_true])]
  refine ⟨fun hg => ?_, fun hg h2 => ?_, fun hg h2 hx' => ?_, fun hg h2 hx' => ?_⟩
  · unfold followF; rw [if_pos hg]; exact ⟨h5, rfl⟩
  · unfold followF; rw [if_neg (by simp [hg]), if_pos h2]
    exact ⟨begin_state (x := { x with state := 3 }) (by simpa [setSt_len] using hn) (by simp only [setSt_get, hx, Option.map_some, if_true]) rfl, by rw [begin_times]⟩
  · unfold followF; rw [if_neg (by simp [hg]), if_neg h2, if_pos hx']; exact ⟨h5, rfl⟩
  · unfold followF; rw [if_neg (by simp [hg]), if_neg h2, if_neg hx']; exact again_end hn hx hg

end Go.Proofs.Ytkkhokgpcifckaa.wd

namespace Go.Proofs.Ytkkhokgpcifckaa.wd
open Go Go.Ev
set_option maxRecDepth 100000
set_option linter.constructorNameAsVariable false

/-! ### Parts one behind the other -/

def chain : List Code → Code
  | [] => .skip
  | a :: l => match l with
    | [] => a
    | _ :: _ => .seq a (chain l)
def chainT : List Code → Code → Code
  | [], d => d
  | a :: l, d => .seq a (chainT l d)
theorem ev_chain {P : Program} {C : CallF} {k n : Nat} {rd : Bool} {d : Code} {r : Ex × Env × Hp} : ∀ {l : List Code} {E E1 : Env} {h h1 : Hp}, evCode P C k n rd (chain l) E h = some (.normal, E1, h1) → evCode P C k n rd d E1 h1 = some r → evCode P C k n rd (chainT l d) E h = some r
  | [], E, E1, h, h1, e1, e2 => by
    simp only [chain, evCode, Option.some.injEq, Prod.mk.injEq] at e1
    obtain ⟨_, rfl, rfl⟩ := e1
    exact e2
  | [a], E, E1, h, h1, e1, e2 => by
    simp only [chain] at e1
    simp only [chainT, evCode, e1, e2]
  | a :: b :: l, E, E1, h, h1, e1, e2 => by
    simp only [chain] at e1
    rcases evSeq e1 with ⟨E', h', f1, f2⟩ | ⟨f1, _⟩
    · have := ev_chain (l := b :: l) (by simpa only [chain] using f2) e2
      show evCode P C k n rd (.seq a (chainT (b :: l) d)) E h = some r
      simp only [evCode, f1, this]
    · exact absurd rfl f1
theorem CRunChain {P : Program} {n : Nat} {rd : Bool} {l : List Code} {d : Code} {E E1 E2 : Env} {h h1 h2 : Hp} {x : Ex} (p : CRun P n rd (chain l) E h .normal E1 h1) (hd : CRun P n rd d E1 h1 x E2 h2) : CRun P n rd (chainT l d) E h x E2 h2 := p.map2 hd fun _ e1 e2 => ev_chain e1 e2

theorem ev_stop {P : Program} {C : CallF} {k n : Nat} {rd : Bool} {d : Code} {r : Ex × Env × Hp} (hr : r.1 ≠ .normal) : ∀ {l : List Code} {E : Env} {h : Hp}, evCode P C k n rd (chain l) E h = some r → evCode P C k n rd (chainT l d) E h = some r
  | [], E, h, e1 => by
    simp only [chain, evCode, Option.some.injEq] at e1
    subst e1
    exact absurd rfl hr
  | [a], E, h, e1 => by
    simp only [chain] at e1
    obtain ⟨x, E1, h1⟩ := r
    simp only [chainT, evCode, e1]
    cases x <;> first | rfl | exact absurd rfl hr
  | a :: b :: l, E, h, e1 => by
    simp only [chain] at e1
    rcases evSeq e1 with ⟨E', h', f1, f2⟩ | ⟨_, f1⟩
    · have := ev_stop (d := d) hr (l := b :: l) (by simpa only [chain] using f2)
      show evCode P C k n rd (.seq a (chainT (b :: l) d)) E h = some r
      simp only [evCode, f1, this]
    · show evCode P C k n rd (.seq a (chainT (b :: l) d)) E h = some r
      obtain ⟨x, E1, h1⟩ := r
      simp only [evCode, f1]
      cases x <;> first | rfl | exact absurd rfl hr
theorem CRunStop {P : Program} {n : Nat} {rd : Bool} {l : List Code} {d : Code} {E E1 : Env} {h h1 : Hp} {x : Ex} (p : CRun P n rd (chain l) E h x E1 h1) (hx : x ≠ .normal) : CRun P n rd (chainT l d) E h x E1 h1 := p.mono fun _ e1 => ev_stop hx e1

/-! ### What all laws begin with -/

/-- A specification's own object is neither its services' nor a list of values. -/
theorem SlAt.keepB {h h' : Hp} {b : Nat} {s : SpecV} {v0 v : Value} {l : List SvV} (hb : h[b]? = some (.cells (s.cells v0) true)) (K : Keep (fun q => q = b) h h') (a : SlAt h v l) : SlAt h' v l := by
  have hA : ∀ {v : Value} {l : List VV}, ArgsAt h v l → ArgsAt h' v l := fun {v l} a => by
    rcases a with h1 | ⟨o, rw', h1, h2⟩
    · exact .inl h1
    · refine .inr ⟨o, rw', h1, K.2 _ _ h2 fun e => ?_⟩
      subst e
      rw [hb] at h2
      simp only [Option.some.injEq, AObj.cells.injEq] at h2
      have h6 := congrArg List.length h2.1
      rw [vvC_len] at h6
      have h2l : l.length = 2 := by have : (s.cells v0).length = 6 := rfl
                                    omega
      match l, h2l with
      | [x, y], _ => simp [SpecV.cells, vvC] at h2
  rcases a with h1 | ⟨o, rw', xs, h1, h2, h3⟩
  · exact .inl h1
  · refine .inr ⟨o, rw', xs, h1, K.2 _ _ h2 fun e => ?_, h3.1, fun q x y hx hy => let ⟨z1, z2, z3⟩ := h3.2 q x y hx hy; ⟨z1, z2, hA z3⟩⟩
    subst e
    rw [hb] at h2
    simp only [Option.some.injEq, AObj.cells.injEq] at h2
    have h6 := congrArg List.length h2.1
    rw [svhC_len] at h6
    have h2l : xs.length = 2 := by have : (s.cells v0).length = 6 := rfl
                                   omega
    match xs, h2l with
    | [x, y], _ =>
      simp [SpecV.cells, svhC] at h2
      have hl := h3.1
      match l, hl with
      | [p, q], _ =>
        have := (h3.2 0 x p rfl rfl).2.2
        rcases this with ⟨e, _⟩ | ⟨_, _, e, _⟩ <;> rw [← h2.1.2.1] at e <;> cases e

/-- What the rounds of a law may turn: the warden, and what is new. -/
def fpB (i j B : Nat) (q : Nat) : Prop := q = i ∨ q = j ∨ B ≤ q
theorem keepB {i j B : Nat} {t : Option Nat} {g g' : Hp} (k : Keep (fpW i j t) g g') (ht : ∀ q, t = some q → B ≤ q) : Keep (fpB i j B) g g' := k.mono fun q _ e => by
  rcases e with e | e | e
  · exact .inl e
  · exact .inr (.inl e)
  · exact .inr (.inr (ht q e))
theorem keep2B {i j B : Nat} {g g' : Hp} (k : Keep (fun q => q = i ∨ q = j) g g') : Keep (fpB i j B) g g' := k.mono fun q _ e => by
  rcases e with e | e
  · exact .inl e
  · exact .inr (.inl e)
theorem keep0B {i j B : Nat} {g g' : Hp} (k : Keep (fun _ => False) g g') : Keep (fpB i j B) g g' := k.mono fun q _ e => e.elim

/-- The warden in the rounds of a law. -/
structure In (B i j : Nat) (w : WS) (h0 g : Hp) : Prop where
  at' : ∃ t, WAt g i j t w ∧ ∀ q, t = some q → B ≤ q
  keep : Keep (fpB i j B) h0 g
  base : B ≤ g.length

theorem In.next {B i j : Nat} {w w' : WS} {h0 g g' : Hp} {t t' : Option Nat} (I : In B i j w h0 g) (ht : ∀ q, t = some q → B ≤ q) (a' : WAt g' i j t' w') (K : Keep (fpW i j t) g g') (ht' : ∀ q, t' = some q → t = some q ∨ g.length ≤ q) : In B i j w' h0 g' :=
  ⟨⟨t', a', fun q e => by rcases ht' q e with e | e; exact ht q e; have := I.base; omega⟩, I.keep.trans (keepB K ht), Nat.le_trans I.base K.1⟩
theorem In.grow {B i j : Nat} {w : WS} {h0 g g' : Hp} (I : In B i j w h0 g) (K : Keep (fun _ => False) g g') : In B i j w h0 g' := by
  obtain ⟨t, a, ht⟩ := I.at'
  exact ⟨⟨t, a.keep K fun q _ e => e.elim, ht⟩, I.keep.trans (keep0B K), Nat.le_trans I.base K.1⟩
theorem In.tmp {B i j : Nat} {w : WS} {h0 g : Hp} (I : In B i j w h0 g) (x y : AObj) : In B i j w h0 ((g ++ [x]).set g.length y) :=
  I.grow ((Keep.push (fun _ => False) g _).trans_new (Keep.set (fp := fun q => q = g.length) rfl _) (fun q hq e => by omega))

/-- The slice of the calls that are made. -/
def Cut (h : Hp) (N : Nat) (vs : Value) (l : List OpV) (m : List OpV) : Prop := m = l.take N ∧ ((vs = .slice none 0 0 ∧ m = []) ∨ ∃ o rw, vs = .slice (some ⟨o, 0, none⟩) m.length 5 ∧ h[o]? = some (.cells (opC l) rw))

theorem whs {w0 w : WS} {n : Nat} (G : Good w0 w n) {l : List SvV} {s : SpecV} (e : w0 = newW s l) {k : Nat} {x : Sv} {y : SvV} (hx : w.svs[k]? = some x) (hy : l[k]? = some y) : x.when = y.wh := by
  subst e
  have h0 : (newW s l).svs[k]? = some (sv0 y) := by simp [newW, hy]
  exact (G.each.2 k _ _ h0 hx).1

/-! ### When -/

theorem body6 : Try.f6.body = some (chainT [partC Try.f6 [0], partC Try.f6 [1, 0], partC Try.f6 [1, 1, 0], partC Try.f6 [1, 1, 1, 0], partC Try.f6 [1, 1, 1, 1, 0]]
    (chainT [partC Try.f6 [1, 1, 1, 1, 1, 0], partC Try.f6 [1, 1, 1, 1, 1, 1, 0], partC Try.f6 [1, 1, 1, 1, 1, 1, 1, 0], partC Try.f6 [1, 1, 1, 1, 1, 1, 1, 1, 0]] (partC Try.f6 [1, 1, 1, 1, 1, 1, 1, 1, 1]))) := by kernel_rfl

theorem when_loop {B i j b b5 : Nat} {w0 : WS} {h0 g0 : Hp} {vs : Value} {m : List OpV} {l : List OpV} (hm : m.length ≤ 100) (hml : ∀ (k : Nat) x, m[k]? = some x → l[k]? = some x) (hvs : m = [] ∨ ∃ o rw, vs = .slice (some ⟨o, 0, none⟩) m.length 5 ∧ h0[o]? = some (.cells (opC l) rw) ∧ ¬ fpB i j B o)
    (I : In B i j w0 h0 g0) (hw : WOk w0) (ht : w0.times = []) :
    ∃ E1 g1, EnvLe [(7, .pointer (some ⟨i, 0, none⟩)), (5, .pointer (some ⟨b5, 0, none⟩)), (3, .pointer (some ⟨b, 0, none⟩))] E1 ∧
      LRun Try.prog 218 false (loopN Try.f6 0) [(46, .int .i64 0), (45, .int .i64 (Int.ofNat m.length)), (44, vs), (7, .pointer (some ⟨i, 0, none⟩)), (5, .pointer (some ⟨b5, 0, none⟩)), (3, .pointer (some ⟨b, 0, none⟩))] g0 (.exit 0) E1 g1 ∧ In B i j (foldW w0 m) h0 g1 := by
  obtain ⟨x', E1, g1, hl1, rfl, q1, q2⟩ := loop_inv (P := Try.prog) (n := 218) (rd := false) (b := loopN Try.f6 0)
    (Q := fun x' E1 g1 => x' = .exit 0 ∧ EnvLe [(7, .pointer (some ⟨i, 0, none⟩)), (5, .pointer (some ⟨b5, 0, none⟩)), (3, .pointer (some ⟨b, 0, none⟩))] E1 ∧ In B i j (foldW w0 m) h0 g1)
    (fun mm E g => ∃ k : Nat, k ≤ m.length ∧ mm = m.length - k ∧ EnvLe [(46, .int .i64 (k : Nat)), (45, .int .i64 (Int.ofNat m.length)), (44, vs), (7, .pointer (some ⟨i, 0, none⟩)), (5, .pointer (some ⟨b5, 0, none⟩)), (3, .pointer (some ⟨b, 0, none⟩))] E ∧
      In B i j (foldW w0 (m.take k)) h0 g)
    (fun mm E g ⟨k, k1, k2, k3, k4⟩ => by
      by_cases e : k = m.length
      · right
        subst e
        obtain ⟨E2, q1, q2⟩ := pvC 0 k3 (w20p.wh_out i b5 b m.length (m.length : Nat) vs g) ⟨by simp [Asm.holds, cmpB], trivial⟩
        exact ⟨_, E2, _, by simp, q2, rfl, .trans (.add (.add (.add (.nil _) rfl) rfl) rfl) q1, by rwa [List.take_length] at k4⟩
      · left
        obtain ⟨x, hx⟩ : ∃ x, m[k]? = some x := ⟨_, List.getElem?_eq_getElem (by omega)⟩
        rcases hvs with hnil | ⟨o, rw', rfl, ho, hoB⟩
        · rw [hnil] at hx; simp at hx
        · have hog := k4.keep.2 _ _ ho hoB
          have hlx := hml k x hx
          have hcl := opC_len l
          have hkl := get_lt' hlx
          have ak1 : IntKind.i64.wrap ((k : Int) + 1) = ((k + 1 : Nat) : Int) := add1 (by omega)
          have Gk := foldW_good hw ht (m.take k) (by simp; omega)
          have htk : (foldW w0 (m.take k)).times.length < 10000 := by have := Gk.times; simp at this; omega
          have I1 := k4.tmp (.cells [.int .i64 0, .int .i64 0, .int .i64 0, .int .i64 0, .string ⟨⟨[]⟩⟩] true) (.cells x.cells true)
          obtain ⟨t, a, hta⟩ := I1.at'
          obtain ⟨v, g2, t', r1, r2, _, r4, r5⟩ := run_run a Gk.ok htk x
          obtain ⟨E2, q1, q2⟩ := pvC 0 k3 (w20p.wh_go i b5 b m.length o (k * 5) g.length k ((k + 1 : Nat) : Int) x.kind x.n x.at' x.fk x.ft v g g2)
            ⟨by simp [Asm.holds, cmpB]; omega, ⟨by omega, by omega, by simp⟩, a_ldn hog (by omega) (opC_cut hlx), rfl, a_st (get_new g _) (by simp) rfl, a_ldn (get_set_eq (get_new g _)) (by simp) rfl, r1, by simp only [Asm.holds, arithI, ak1], trivial⟩
          refine ⟨m.length - (k + 1), E2, _, by omega, q2, k + 1, by omega, rfl, .trans (.add (.add (.add (.add (.add (.add (.nil _) rfl) rfl) rfl) rfl) rfl) rfl) q1, ?_⟩
          rw [take_snoc hx, foldW_snoc]
          exact I1.next hta r2 r4 r5)
    m.length [(46, .int .i64 ((0 : Nat) : Int)), (45, .int .i64 (Int.ofNat m.length)), (44, vs), (7, .pointer (some ⟨i, 0, none⟩)), (5, .pointer (some ⟨b5, 0, none⟩)), (3, .pointer (some ⟨b, 0, none⟩))] g0 ⟨0, by omega, rfl, EnvLe.refl _, I⟩
  exact ⟨E1, g1, q1, hl1, q2⟩

theorem endedF_bad {w : WS} {n fk : Int} {ft : ByteArray} {now : Int} (h : (endedF w n fk ft now).2.2 ≠ 0) : (endedF w n fk ft now).1 = w := by
  unfold endedF at h ⊢
  split
  · rfl
  · rename_i hc
    rw [if_neg hc] at h
    split
    · rfl
    · rename_i x hx
      rw [hx] at h
      simp only at h
      split
      · rename_i h1; rw [if_pos h1] at h; exact absurd rfl h
      · rfl
theorem endedF_ok {w : WS} {n fk : Int} {ft : ByteArray} {now : Int} (h : (endedF w n fk ft now).2.2 = 0) : (1 ≤ n ∧ n ≤ w.svs.length) ∧ ∃ x, w.svs[(n - 1).toNat]? = some x ∧ (x.state = 1 ∨ x.state = 2) ∧
    0 ≤ 0 ∧ (endedF w n fk ft now).1 = (followF { w with now := now } n fk x).1 := by
  unfold endedF at h ⊢
  split at h
  · cases h
  · rename_i hc
    rw [if_neg hc]
    split at h
    · cases h
    · rename_i x hx
      simp only
      split at h
      · rename_i h1
        unfold svAt at hx
        split at hx
        · rename_i hn
          exact ⟨hn, x, hx, h1, Nat.le_refl _, by rw [if_pos h1]; rfl⟩
        · cases hx
      · cases h

end Go.Proofs.Ytkkhokgpcifckaa.wd

namespace Go.Proofs.Ytkkhokgpcifckaa.wd
open Go Go.Ev
set_option maxRecDepth 100000
set_option linter.constructorNameAsVariable false
set_option linter.unusedVariables false

theorem eqT {a b : Int} (e : a = b) : (Asm.cmp .eql a b true).holds Try.prog := by simpa [Asm.holds, cmpB] using e
theorem eqF {a b : Int} (e : ¬ a = b) : (Asm.cmp .eql a b false).holds Try.prog := by simpa [Asm.holds, cmpB] using e
theorem neT {a b : Int} (e : ¬ a = b) : (Asm.cmp .neq a b true).holds Try.prog := by simpa [Asm.holds, cmpB] using e
theorem neF {a b : Int} (e : a = b) : (Asm.cmp .neq a b false).holds Try.prog := by simpa [Asm.holds, cmpB] using e

theorem svhC_wh : ∀ {l : List SvH} {k : Nat} {x : SvH}, l[k]? = some x → (svhC l)[k * 3 + 2]? = some (.int .i64 x.wh)
  | [], k, x, h => by simp at h
  | y :: l, 0, x, h => by simp at h; subst h; simp [svhC]
  | y :: l, k + 1, x, h => by
    have := svhC_wh (l := l) (k := k) (x := x) (by simpa using h)
    rw [show (k + 1) * 3 + 2 = (k * 3 + 2) + 3 by omega]
    simpa [svhC] using this

/-- The last part: what the end of the service is held against. -/
theorem when_last {B i j b b5 d dl : Nat} {w w' : WS} {op : OpV} {s : SpecV} {l : List SvV} {xs : List SvH} {x : Sv} {h0 g3 : Hp} {rw : Bool} {E : Env}
    (I : In B i j w' h0 g3) (hw' : WOk w') (hw : WOk w) (h5 : h0[b5]? = some (.cells op.cells true)) (hb : h0[b]? = some (.cells (s.cells (.slice (some ⟨d, 0, none⟩) dl 3)) true)) (hd : h0[d]? = some (.cells (svhC xs) rw))
    (n5 : ¬ fpB i j B b5) (nb : ¬ fpB i j B b) (nd : ¬ fpB i j B d) (hS : SvsAt h0 xs l) (hdl : dl = l.length) (hl : w.svs.length = l.length) (hall : l.all svOk = true)
    (hn : 1 ≤ op.n ∧ op.n ≤ w.svs.length) (hx : w.svs[(op.n - 1).toNat]? = some x) (hwh : ∀ y, l[(op.n - 1).toNat]? = some y → x.when = y.wh) (hf : w' = (followF { w with now := op.at' } op.n op.fk x).1)
    (hE0 : EnvLe [(15, .int .i64 w.times.length), (14, .bool w.given), (11, .int .i64 x.state), (7, .pointer (some ⟨i, 0, none⟩)), (5, .pointer (some ⟨b5, 0, none⟩)), (3, .pointer (some ⟨b, 0, none⟩))] E) :
    ∃ E2 g, EnvLe [(6, .bool true)] E2 ∧ CRun Try.prog 218 false (partC Try.f6 [1, 1, 1, 1, 1, 1, 1, 1, 1]) E g3 .ret E2 g := by
  obtain ⟨k, n, at', fk, ft⟩ := op
  simp only at hn hx hwh hf
  have n8 := hw.n8
  have hxl := hS.1
  have hk : (n - 1).toNat < l.length := by omega
  obtain ⟨y, hy⟩ : ∃ y, l[(n - 1).toNat]? = some y := ⟨_, List.getElem?_eq_getElem hk⟩
  obtain ⟨z, hz⟩ : ∃ z, xs[(n - 1).toNat]? = some z := ⟨_, List.getElem?_eq_getElem (by omega)⟩
  obtain ⟨_, hzw, _⟩ := hS.2 _ z y hz hy
  have hxy := hwh y hy
  have hyo : svOk y = true := List.all_eq_true.1 hall y (List.mem_of_getElem? hy)
  simp only [svOk, Bool.and_eq_true, decide_eq_true_eq] at hyo
  obtain ⟨⟨_, w1⟩, w3⟩ := hyo
  obtain ⟨F1, F2, F3, F4⟩ := follow_end (w := { w with now := at' }) (n := n) (fk := fk) hn hx
  simp only [← hf] at F1 F2 F3 F4
  rw [hxy] at F3 F4
  have g5 := I.keep.2 _ _ h5 n5
  have gb := I.keep.2 _ _ hb nb
  have gd := I.keep.2 _ _ hd nd
  obtain ⟨t, a, hta⟩ := I.at'
  obtain ⟨os, r16⟩ := over_run a hw'
  obtain ⟨g4, hg4⟩ : ∃ g4, g4 = g3 ++ os := ⟨_, rfl⟩
  have K4 : Keep (fun _ => False) g3 g4 := by rw [hg4]; exact Keep.app _ _ _
  rw [← hg4] at r16
  have I4 := I.grow K4
  obtain ⟨t4, a4, _⟩ := I4.at'
  have q5 := K4.2 _ _ g5 id
  have qb := K4.2 _ _ gb id
  have qd := K4.2 _ _ gd id
  have p1 : (Asm.ld1 (.is g3) b5 1 (.int .i64 n)).holds Try.prog := a_ld1 g5 rfl
  have p1' : (Asm.ld1 (.is g4) b5 1 (.int .i64 n)).holds Try.prog := a_ld1 q5 rfl
  have p2 : (Asm.call 18 [.pointer (some ⟨i, 0, none⟩), .int .i64 n] (.is g3) (.tuple #[.int .i64 (stateOf w' n).1, .int .i64 (stateOf w' n).2]) (.is g3)).holds Try.prog := state_run a hw' n
  have p3 : (Asm.call 16 [.pointer (some ⟨i, 0, none⟩)] (.is g3) (.tuple #[.bool (overOf w'), .bool w'.given]) (.is g4)).holds Try.prog := r16
  have n1 : (Asm.cmp .lss n 1 false).holds Try.prog := by simp [Asm.holds, cmpB]; omega
  have n2 : (Asm.cmp .gtr n (Int.ofNat dl) false).holds Try.prog := by simp [Asm.holds, cmpB]; omega
  have pb : (Asm.ld1 (.is g4) b 5 (.slice (some ⟨d, 0, none⟩) dl 3)).holds Try.prog := a_ld1 qb rfl
  have pf : (Asm.ld1 (.is g4) b5 3 (.int .i64 fk)).holds Try.prog := a_ld1 q5 rfl
  have ar : (Asm.arith .sub .i64 n 1 (n - 1)).holds Try.prog := by simp only [Asm.holds, arithI, wrap_id (x := n - 1) (by omega) (by omega)]
  have of : (Asm.off ((n - 1).toNat * 3) 0 (n - 1) dl 3).holds Try.prog := ⟨by omega, by omega, by omega⟩
  have pw : (Asm.ld1 (.is g4) d ((n - 1).toNat * 3 + 2) (.int .i64 y.wh)).holds Try.prog := a_ld1 qd (by rw [← hzw]; exact svhC_wh hz)
  have p5 : (Asm.call 13 [.pointer (some ⟨i, 0, none⟩)] (.is g4) (.int .i64 w'.times.length) (.is g4)).holds Try.prog := restarts_run a4
  have kk : (Asm.arith .add .i64 (w.times.length : Int) 1 ((w.times.length : Int) + 1)).holds Try.prog := by
    have := hw.times
    simp only [Asm.holds, arithI, wrap_id (x := (w.times.length : Int) + 1) (by omega) (by omega)]
  have eqK : w'.times = w.times → (Asm.cmp .eql (w'.times.length : Int) (w.times.length : Int) true).holds Try.prog := fun e => eqT (by rw [e])
  have eqK1 : w'.times.length = w.times.length + 1 → (Asm.cmp .eql (w'.times.length : Int) ((w.times.length : Int) + 1) true).holds Try.prog := fun e => eqT (by omega)
  have aw : (Asm.call 12 [] (.is g4) (.bool true) (.is g4)).holds Try.prog := awake_run g4
  have hE := hE0
  have fin : ∀ {ss' : SH} {E0 E1 : Env} {an r : List Ans} {asm : List Asm} (_ : Unit), EnvLe E0 E → pvCode Try.prog (pvCall Try.prog 0) 218 false (partC Try.f6 [1, 1, 1, 1, 1, 1, 1, 1, 1]) E0 (.is g3) an = some (.ret, (6, .bool true) :: E1, ss', r, asm) → AllA Try.prog asm →
      ∃ E2 g, EnvLe [(6, .bool true)] E2 ∧ CRun Try.prog 218 false (partC Try.f6 [1, 1, 1, 1, 1, 1, 1, 1, 1]) E g3 .ret E2 g := fun _ hE he ha => by
    obtain ⟨E2, q1, q2⟩ := pvC 0 hE he ha
    exact ⟨E2, _, .trans (.add (.nil _) rfl) q1, q2⟩
  by_cases c1 : y.wh = 1
  · have a1 : (Asm.cmp .eql y.wh 1 true).holds Try.prog := eqT c1
    cases cg : w.given with
    | true =>
      obtain ⟨f1, f2⟩ := F1 cg
      rw [cg] at hE
      cases cv : w'.given with
      | true =>
        rw [cv] at p3
        have p3 := p3
        refine fin () hE (w20p.wl_upAt i b5 b d dl ((n - 1).toNat * 3) n fk x.state w.times.length (stateOf w' n).1 (stateOf w' n).2 w'.times.length y.wh (n - 1) 0 (overOf w') g3 g4) ⟨p1, p2, p3, p1', n1, p1', pb, n2, pb, p1', ar, of, pw, a1, (eqT f1), p5, (eqK f2), aw, trivial⟩
      | false =>
        rw [cv] at p3
        have p3 := p3
        refine fin () hE (w20p.wl_upAf i b5 b d dl ((n - 1).toNat * 3) n fk x.state w.times.length (stateOf w' n).1 (stateOf w' n).2 w'.times.length y.wh (n - 1) 0 (overOf w') g3 g4) ⟨p1, p2, p3, p1', n1, p1', pb, n2, pb, p1', ar, of, pw, a1, (eqT f1), p5, (eqK f2), aw, trivial⟩
    | false =>
      rw [cg] at hE
      by_cases c2 : x.state = 2
      · obtain ⟨f1, f2⟩ := F2 cg c2
        cases cv : w'.given with
        | true =>
          rw [cv] at p3
          rcases f1 with f1 | f1
          · exact fin () hE (w20p.wl_st3At i b5 b d dl ((n - 1).toNat * 3) n fk x.state w.times.length (stateOf w' n).1 (stateOf w' n).2 w'.times.length y.wh (n - 1) 0 (overOf w') g3 g4) ⟨p1, p2, p3, p1', n1, p1', pb, n2, pb, p1', ar, of, pw, a1, (eqT c2), (eqT f1), p5, (eqK f2), aw, trivial⟩
          · exact fin () hE (w20p.wl_st4At i b5 b d dl ((n - 1).toNat * 3) n fk x.state w.times.length (stateOf w' n).1 (stateOf w' n).2 w'.times.length y.wh (n - 1) 0 (overOf w') g3 g4) ⟨p1, p2, p3, p1', n1, p1', pb, n2, pb, p1', ar, of, pw, a1, (eqT c2), (eqF (by omega)), (eqT f1), p5, (eqK f2), aw, trivial⟩
        | false =>
          rw [cv] at p3
          rcases f1 with f1 | f1
          · exact fin () hE (w20p.wl_st3Af i b5 b d dl ((n - 1).toNat * 3) n fk x.state w.times.length (stateOf w' n).1 (stateOf w' n).2 w'.times.length y.wh (n - 1) 0 (overOf w') g3 g4) ⟨p1, p2, p3, p1', n1, p1', pb, n2, pb, p1', ar, of, pw, a1, (eqT c2), (eqT f1), p5, (eqK f2), aw, trivial⟩
          · exact fin () hE (w20p.wl_st4Af i b5 b d dl ((n - 1).toNat * 3) n fk x.state w.times.length (stateOf w' n).1 (stateOf w' n).2 w'.times.length y.wh (n - 1) 0 (overOf w') g3 g4) ⟨p1, p2, p3, p1', n1, p1', pb, n2, pb, p1', ar, of, pw, a1, (eqT c2), (eqF (by omega)), (eqT f1), p5, (eqK f2), aw, trivial⟩
      · obtain ⟨f2, ⟨cv, f1⟩ | ⟨cv, f1⟩⟩ := F4 cg c2 (by omega)
        · rw [cv] at p3
          exact fin () hE (w20p.wl_gvA i b5 b d dl ((n - 1).toNat * 3) n fk x.state w.times.length (stateOf w' n).1 (stateOf w' n).2 w'.times.length y.wh (n - 1) (w.times.length + 1) (overOf w') g3 g4) ⟨p1, p2, p3, p1', n1, p1', pb, n2, pb, p1', ar, of, pw, a1, (eqF c2), (eqT f1), p5, kk, (eqK1 f2), aw, trivial⟩
        · rw [cv] at p3
          rcases f1 with f1 | f1
          · exact fin () hE (w20p.wl_f3A i b5 b d dl ((n - 1).toNat * 3) n fk x.state w.times.length (stateOf w' n).1 (stateOf w' n).2 w'.times.length y.wh (n - 1) (w.times.length + 1) (overOf w') g3 g4) ⟨p1, p2, p3, p1', n1, p1', pb, n2, pb, p1', ar, of, pw, a1, (eqF c2), (eqT f1), p5, kk, (eqK1 f2), aw, trivial⟩
          · exact fin () hE (w20p.wl_f4A i b5 b d dl ((n - 1).toNat * 3) n fk x.state w.times.length (stateOf w' n).1 (stateOf w' n).2 w'.times.length y.wh (n - 1) (w.times.length + 1) (overOf w') g3 g4) ⟨p1, p2, p3, p1', n1, p1', pb, n2, pb, p1', ar, of, pw, a1, (eqF c2), (eqF (by omega)), (eqT f1), p5, kk, (eqK1 f2), aw, trivial⟩
  · have a1 : (Asm.cmp .eql y.wh 1 false).holds Try.prog := eqF c1
    by_cases c2 : y.wh = 2
    · have a2 : (Asm.cmp .eql y.wh 2 true).holds Try.prog := eqT c2
      by_cases c3 : fk = 1
      · have a3 : (Asm.cmp .eql fk 1 true).holds Try.prog := eqT c3
        cases cg : w.given with
        | true =>
          obtain ⟨f1, f2⟩ := F1 cg
          rw [cg] at hE
          cases cv : w'.given with
          | true =>
            rw [cv] at p3
            have p3 := p3
            refine fin () hE (w20p.wl_upBt i b5 b d dl ((n - 1).toNat * 3) n fk x.state w.times.length (stateOf w' n).1 (stateOf w' n).2 w'.times.length y.wh (n - 1) 0 (overOf w') g3 g4) ⟨p1, p2, p3, p1', n1, p1', pb, n2, pb, p1', ar, of, pw, a1, a2, pf, a3, (eqT f1), p5, (eqK f2), aw, trivial⟩
          | false =>
            rw [cv] at p3
            have p3 := p3
            refine fin () hE (w20p.wl_upBf i b5 b d dl ((n - 1).toNat * 3) n fk x.state w.times.length (stateOf w' n).1 (stateOf w' n).2 w'.times.length y.wh (n - 1) 0 (overOf w') g3 g4) ⟨p1, p2, p3, p1', n1, p1', pb, n2, pb, p1', ar, of, pw, a1, a2, pf, a3, (eqT f1), p5, (eqK f2), aw, trivial⟩
        | false =>
          rw [cg] at hE
          by_cases c2 : x.state = 2
          · obtain ⟨f1, f2⟩ := F2 cg c2
            cases cv : w'.given with
            | true =>
              rw [cv] at p3
              rcases f1 with f1 | f1
              · exact fin () hE (w20p.wl_st3Bt i b5 b d dl ((n - 1).toNat * 3) n fk x.state w.times.length (stateOf w' n).1 (stateOf w' n).2 w'.times.length y.wh (n - 1) 0 (overOf w') g3 g4) ⟨p1, p2, p3, p1', n1, p1', pb, n2, pb, p1', ar, of, pw, a1, a2, pf, a3, (eqT c2), (eqT f1), p5, (eqK f2), aw, trivial⟩
              · exact fin () hE (w20p.wl_st4Bt i b5 b d dl ((n - 1).toNat * 3) n fk x.state w.times.length (stateOf w' n).1 (stateOf w' n).2 w'.times.length y.wh (n - 1) 0 (overOf w') g3 g4) ⟨p1, p2, p3, p1', n1, p1', pb, n2, pb, p1', ar, of, pw, a1, a2, pf, a3, (eqT c2), (eqF (by omega)), (eqT f1), p5, (eqK f2), aw, trivial⟩
            | false =>
              rw [cv] at p3
              rcases f1 with f1 | f1
              · exact fin () hE (w20p.wl_st3Bf i b5 b d dl ((n - 1).toNat * 3) n fk x.state w.times.length (stateOf w' n).1 (stateOf w' n).2 w'.times.length y.wh (n - 1) 0 (overOf w') g3 g4) ⟨p1, p2, p3, p1', n1, p1', pb, n2, pb, p1', ar, of, pw, a1, a2, pf, a3, (eqT c2), (eqT f1), p5, (eqK f2), aw, trivial⟩
              · exact fin () hE (w20p.wl_st4Bf i b5 b d dl ((n - 1).toNat * 3) n fk x.state w.times.length (stateOf w' n).1 (stateOf w' n).2 w'.times.length y.wh (n - 1) 0 (overOf w') g3 g4) ⟨p1, p2, p3, p1', n1, p1', pb, n2, pb, p1', ar, of, pw, a1, a2, pf, a3, (eqT c2), (eqF (by omega)), (eqT f1), p5, (eqK f2), aw, trivial⟩
          · obtain ⟨f2, ⟨cv, f1⟩ | ⟨cv, f1⟩⟩ := F4 cg c2 (by omega)
            · rw [cv] at p3
              exact fin () hE (w20p.wl_gvB i b5 b d dl ((n - 1).toNat * 3) n fk x.state w.times.length (stateOf w' n).1 (stateOf w' n).2 w'.times.length y.wh (n - 1) (w.times.length + 1) (overOf w') g3 g4) ⟨p1, p2, p3, p1', n1, p1', pb, n2, pb, p1', ar, of, pw, a1, a2, pf, a3, (eqF c2), (eqT f1), p5, kk, (eqK1 f2), aw, trivial⟩
            · rw [cv] at p3
              rcases f1 with f1 | f1
              · exact fin () hE (w20p.wl_f3B i b5 b d dl ((n - 1).toNat * 3) n fk x.state w.times.length (stateOf w' n).1 (stateOf w' n).2 w'.times.length y.wh (n - 1) (w.times.length + 1) (overOf w') g3 g4) ⟨p1, p2, p3, p1', n1, p1', pb, n2, pb, p1', ar, of, pw, a1, a2, pf, a3, (eqF c2), (eqT f1), p5, kk, (eqK1 f2), aw, trivial⟩
              · exact fin () hE (w20p.wl_f4B i b5 b d dl ((n - 1).toNat * 3) n fk x.state w.times.length (stateOf w' n).1 (stateOf w' n).2 w'.times.length y.wh (n - 1) (w.times.length + 1) (overOf w') g3 g4) ⟨p1, p2, p3, p1', n1, p1', pb, n2, pb, p1', ar, of, pw, a1, a2, pf, a3, (eqF c2), (eqF (by omega)), (eqT f1), p5, kk, (eqK1 f2), aw, trivial⟩
      · have a3 : (Asm.cmp .eql fk 1 false).holds Try.prog := eqF c3
        cases cg : w.given with
        | true =>
          obtain ⟨f1, f2⟩ := F1 cg
          rw [cg] at hE
          cases cv : w'.given with
          | true =>
            rw [cv] at p3
            have p3 := p3
            refine fin () hE (w20p.wl_upCt i b5 b d dl ((n - 1).toNat * 3) n fk x.state w.times.length (stateOf w' n).1 (stateOf w' n).2 w'.times.length y.wh (n - 1) 0 (overOf w') g3 g4) ⟨p1, p2, p3, p1', n1, p1', pb, n2, pb, p1', ar, of, pw, a1, a2, pf, a3, (eqT f1), p5, (eqK f2), aw, trivial⟩
          | false =>
            rw [cv] at p3
            have p3 := p3
            refine fin () hE (w20p.wl_upCf i b5 b d dl ((n - 1).toNat * 3) n fk x.state w.times.length (stateOf w' n).1 (stateOf w' n).2 w'.times.length y.wh (n - 1) 0 (overOf w') g3 g4) ⟨p1, p2, p3, p1', n1, p1', pb, n2, pb, p1', ar, of, pw, a1, a2, pf, a3, (eqT f1), p5, (eqK f2), aw, trivial⟩
        | false =>
          rw [cg] at hE
          by_cases c2 : x.state = 2
          · obtain ⟨f1, f2⟩ := F2 cg c2
            cases cv : w'.given with
            | true =>
              rw [cv] at p3
              rcases f1 with f1 | f1
              · exact fin () hE (w20p.wl_st3Ct i b5 b d dl ((n - 1).toNat * 3) n fk x.state w.times.length (stateOf w' n).1 (stateOf w' n).2 w'.times.length y.wh (n - 1) 0 (overOf w') g3 g4) ⟨p1, p2, p3, p1', n1, p1', pb, n2, pb, p1', ar, of, pw, a1, a2, pf, a3, (eqT c2), (eqT f1), p5, (eqK f2), aw, trivial⟩
              · exact fin () hE (w20p.wl_st4Ct i b5 b d dl ((n - 1).toNat * 3) n fk x.state w.times.length (stateOf w' n).1 (stateOf w' n).2 w'.times.length y.wh (n - 1) 0 (overOf w') g3 g4) ⟨p1, p2, p3, p1', n1, p1', pb, n2, pb, p1', ar, of, pw, a1, a2, pf, a3, (eqT c2), (eqF (by omega)), (eqT f1), p5, (eqK f2), aw, trivial⟩
            | false =>
              rw [cv] at p3
              rcases f1 with f1 | f1
              · exact fin () hE (w20p.wl_st3Cf i b5 b d dl ((n - 1).toNat * 3) n fk x.state w.times.length (stateOf w' n).1 (stateOf w' n).2 w'.times.length y.wh (n - 1) 0 (overOf w') g3 g4) ⟨p1, p2, p3, p1', n1, p1', pb, n2, pb, p1', ar, of, pw, a1, a2, pf, a3, (eqT c2), (eqT f1), p5, (eqK f2), aw, trivial⟩
              · exact fin () hE (w20p.wl_st4Cf i b5 b d dl ((n - 1).toNat * 3) n fk x.state w.times.length (stateOf w' n).1 (stateOf w' n).2 w'.times.length y.wh (n - 1) 0 (overOf w') g3 g4) ⟨p1, p2, p3, p1', n1, p1', pb, n2, pb, p1', ar, of, pw, a1, a2, pf, a3, (eqT c2), (eqF (by omega)), (eqT f1), p5, (eqK f2), aw, trivial⟩
          · obtain ⟨f1, f2⟩ := F3 cg c2 (by omega)
            cases cv : w'.given with
            | true =>
              rw [cv] at p3
              exact fin () hE (w20p.wl_noCt i b5 b d dl ((n - 1).toNat * 3) n fk x.state w.times.length (stateOf w' n).1 (stateOf w' n).2 w'.times.length y.wh (n - 1) 0 (overOf w') g3 g4) ⟨p1, p2, p3, p1', n1, p1', pb, n2, pb, p1', ar, of, pw, a1, a2, pf, a3, (eqF c2), (eqT f1), p5, (eqK f2), aw, trivial⟩
            | false =>
              rw [cv] at p3
              exact fin () hE (w20p.wl_noCf i b5 b d dl ((n - 1).toNat * 3) n fk x.state w.times.length (stateOf w' n).1 (stateOf w' n).2 w'.times.length y.wh (n - 1) 0 (overOf w') g3 g4) ⟨p1, p2, p3, p1', n1, p1', pb, n2, pb, p1', ar, of, pw, a1, a2, pf, a3, (eqF c2), (eqT f1), p5, (eqK f2), aw, trivial⟩
    · have a2 : (Asm.cmp .eql y.wh 2 false).holds Try.prog := eqF c2
      cases cg : w.given with
      | true =>
        obtain ⟨f1, f2⟩ := F1 cg
        rw [cg] at hE
        cases cv : w'.given with
        | true =>
          rw [cv] at p3
          have p3 := p3
          refine fin () hE (w20p.wl_upDt i b5 b d dl ((n - 1).toNat * 3) n fk x.state w.times.length (stateOf w' n).1 (stateOf w' n).2 w'.times.length y.wh (n - 1) 0 (overOf w') g3 g4) ⟨p1, p2, p3, p1', n1, p1', pb, n2, pb, p1', ar, of, pw, a1, a2, (eqT f1), p5, (eqK f2), aw, trivial⟩
        | false =>
          rw [cv] at p3
          have p3 := p3
          refine fin () hE (w20p.wl_upDf i b5 b d dl ((n - 1).toNat * 3) n fk x.state w.times.length (stateOf w' n).1 (stateOf w' n).2 w'.times.length y.wh (n - 1) 0 (overOf w') g3 g4) ⟨p1, p2, p3, p1', n1, p1', pb, n2, pb, p1', ar, of, pw, a1, a2, (eqT f1), p5, (eqK f2), aw, trivial⟩
      | false =>
        rw [cg] at hE
        by_cases c2 : x.state = 2
        · obtain ⟨f1, f2⟩ := F2 cg c2
          cases cv : w'.given with
          | true =>
            rw [cv] at p3
            rcases f1 with f1 | f1
            · exact fin () hE (w20p.wl_st3Dt i b5 b d dl ((n - 1).toNat * 3) n fk x.state w.times.length (stateOf w' n).1 (stateOf w' n).2 w'.times.length y.wh (n - 1) 0 (overOf w') g3 g4) ⟨p1, p2, p3, p1', n1, p1', pb, n2, pb, p1', ar, of, pw, a1, a2, (eqT c2), (eqT f1), p5, (eqK f2), aw, trivial⟩
            · exact fin () hE (w20p.wl_st4Dt i b5 b d dl ((n - 1).toNat * 3) n fk x.state w.times.length (stateOf w' n).1 (stateOf w' n).2 w'.times.length y.wh (n - 1) 0 (overOf w') g3 g4) ⟨p1, p2, p3, p1', n1, p1', pb, n2, pb, p1', ar, of, pw, a1, a2, (eqT c2), (eqF (by omega)), (eqT f1), p5, (eqK f2), aw, trivial⟩
          | false =>
            rw [cv] at p3
            rcases f1 with f1 | f1
            · exact fin () hE (w20p.wl_st3Df i b5 b d dl ((n - 1).toNat * 3) n fk x.state w.times.length (stateOf w' n).1 (stateOf w' n).2 w'.times.length y.wh (n - 1) 0 (overOf w') g3 g4) ⟨p1, p2, p3, p1', n1, p1', pb, n2, pb, p1', ar, of, pw, a1, a2, (eqT c2), (eqT f1), p5, (eqK f2), aw, trivial⟩
            · exact fin () hE (w20p.wl_st4Df i b5 b d dl ((n - 1).toNat * 3) n fk x.state w.times.length (stateOf w' n).1 (stateOf w' n).2 w'.times.length y.wh (n - 1) 0 (overOf w') g3 g4) ⟨p1, p2, p3, p1', n1, p1', pb, n2, pb, p1', ar, of, pw, a1, a2, (eqT c2), (eqF (by omega)), (eqT f1), p5, (eqK f2), aw, trivial⟩
        · obtain ⟨f1, f2⟩ := F3 cg c2 (by omega)
          cases cv : w'.given with
          | true =>
            rw [cv] at p3
            exact fin () hE (w20p.wl_noDt i b5 b d dl ((n - 1).toNat * 3) n fk x.state w.times.length (stateOf w' n).1 (stateOf w' n).2 w'.times.length y.wh (n - 1) 0 (overOf w') g3 g4) ⟨p1, p2, p3, p1', n1, p1', pb, n2, pb, p1', ar, of, pw, a1, a2, (eqF c2), (eqT f1), p5, (eqK f2), aw, trivial⟩
          | false =>
            rw [cv] at p3
            exact fin () hE (w20p.wl_noDf i b5 b d dl ((n - 1).toNat * 3) n fk x.state w.times.length (stateOf w' n).1 (stateOf w' n).2 w'.times.length y.wh (n - 1) 0 (overOf w') g3 g4) ⟨p1, p2, p3, p1', n1, p1', pb, n2, pb, p1', ar, of, pw, a1, a2, (eqF c2), (eqT f1), p5, (eqK f2), aw, trivial⟩

theorem when_run {h : Hp} {v vl : Value} {l : List SvV} {ops : List OpV} (s : SpecV) (op : OpV) (hS : SlAt h v l) (hO : OpsAt h vl ops) : ∃ h', Run Try.prog 6 [.agg (s.cells v).toArray, vl, .agg op.cells.toArray] h (.bool true) h' := by
  obtain ⟨r, m, wi, ba, ca⟩ := s
  obtain ⟨k, n, at', fk, ft⟩ := op
  let S : Value → List Value := fun v => SpecV.cells ⟨r, m, wi, ba, ca⟩ v
  let O : List Value := OpV.cells ⟨k, n, at', fk, ft⟩
  let hA : Hp := (h ++ [AObj.cells (S v) true]) ++ [AObj.cells O true]
  have KA : Keep (fun _ => False) h hA := (Keep.push _ _ _).trans (Keep.push _ _ _)
  have gb : hA[h.length]? = some (.cells (S v) true) := get_push (get_new h _)
  have g5 : hA[h.length + 1]? = some (.cells O true) := get_new' _ (by simp)
  have hAl : hA.length = h.length + 2 := by simp [hA]
  obtain ⟨v', hB, r1, SB, KB⟩ := clipped_run ⟨r, m, wi, ba, ca⟩ (hS.keep KA)
  have gbB := KB.2 _ _ gb id
  obtain ⟨hC, ehC⟩ : ∃ hC, hC = hB.set h.length (.cells (S v') true) := ⟨_, rfl⟩
  have KC : Keep (fun q => q = h.length) hB hC := by rw [ehC]; exact Keep.set (fp := fun q => q = h.length) rfl _
  have SC := SB.keepB gbB KC
  have gbC : hC[h.length]? = some (.cells (S v') true) := by rw [ehC]; exact get_set_eq gbB
  have g5C := KC.2 _ _ (KB.2 _ _ g5 id) (show ¬ h.length + 1 = h.length by omega)
  have hCl : h.length + 2 ≤ hC.length := by have := KB.1; have := KC.1; omega
  have ln : (Asm.len (.push (.is h) (.cells (S v) true)) (h.length + 1)).holds Try.prog := by simp [Asm.holds, SH.den]
  have st : (Asm.st (.is hB) h.length 0 (S v') (S v')).holds Try.prog := a_st gbB (by simp [S, SpecV.cells]) (by simp [S, SpecV.cells])
  have ld : (Asm.ldn (.set (.is hB) h.length (.cells (S v') true)) h.length 0 6 (S v')).holds Try.prog := a_ldn (get_set_eq gbB) (by simp [S, SpecV.cells]) rfl
  have ld0 : (Asm.ldn (.push (.push (.is h) (.cells (S v) true)) (.cells O true)) h.length 0 6 (S v)).holds Try.prog := a_ldn gb (by simp [S, SpecV.cells]) rfl
  rcases new_run ⟨r, m, wi, ba, ca⟩ SC with ⟨e, hD, rN, KN⟩ | ⟨e, i, j, hD, rN, KN, W, hi, hj⟩
  · refine ⟨hD, ?_⟩
    rw [ehC] at rN
    rcases SC with ⟨rfl, _⟩ | ⟨d, _, _, rfl, _, _⟩
    · exact pvF 0 Try.func6 (w20p.wh_badn h.length (h.length + 1) r m wi ba ca k n at' fk ft _ v vl h hB hD) ⟨rfl, ln, ld0, r1, st, ld, rN, neT e, awake_run _, trivial⟩
    · exact pvF 0 Try.func6 (w20p.wh_bads h.length (h.length + 1) r m wi ba ca k n at' fk ft _ v vl h hB hD d _) ⟨rfl, ln, ld0, r1, st, ld, rN, neT e, awake_run _, trivial⟩
  · obtain ⟨hw0, hwl, hh, hall⟩ := newW_ok e
    have SD := SC.keep KN
    rcases SC with ⟨rfl, hnil⟩ | ⟨d, rwd, xs, rfl, hd, hxs⟩
    · rw [hnil] at hh; simp [headOk] at hh
    · have hdC := get_lt hd
      have hdD := KN.2 _ _ hd id
      have hxD := hxs.keep KN
      have g5D := KN.2 _ _ g5C id
      have gbD := KN.2 _ _ gbC id
      have hDl := KN.1
      have hw0' := hw0
      let w0 := newW ⟨r, m, wi, ba, ca⟩ (clipF l)
      have I0 : In hD.length i j w0 hD hD := ⟨⟨none, W, fun q e => by cases e⟩, .refl _ _, Nat.le_refl _⟩
      have nf : ∀ q, q < hC.length → ¬ fpB i j hD.length q := fun q hq e => by rcases e with e | e | e <;> omega
      have rN' := rN
      rw [ehC] at rN'
      have pl : plainC (loopN Try.f6 0) = true := by kernel_rfl
      -- the calls
      have pre : ∃ E1 g1 mm, mm.length ≤ 60 ∧ EnvLe [(7, .pointer (some ⟨i, 0, none⟩)), (5, .pointer (some ⟨h.length + 1, 0, none⟩)), (3, .pointer (some ⟨h.length, 0, none⟩))] E1 ∧
          CRun Try.prog 218 false (chain [partC Try.f6 [0], partC Try.f6 [1, 0], partC Try.f6 [1, 1, 0], partC Try.f6 [1, 1, 1, 0], partC Try.f6 [1, 1, 1, 1, 0]]) (enterE 0 [.agg (S v).toArray, vl, .agg O.toArray]) h .normal E1 g1 ∧ In hD.length i j (foldW w0 mm) hD g1 := by
        rcases hO with ⟨rfl, _⟩ | ⟨o, rwo, rfl, ho⟩
        · obtain ⟨E2, q1, q2⟩ := pvC 0 (EnvLe.refl _) (w20p.wh_pren h.length (h.length + 1) i d (clipF l).length r m wi ba ca k n at' fk ft v h hB hD hD) ⟨rfl, ln, ld0, r1, st, ld, rN', neF rfl, by simp [Asm.holds], by simp [Asm.holds, cmpB], trivial⟩
          exact ⟨E2, _, [], by simp, .trans (.add (.add (.add (.nil _) rfl) rfl) rfl) q1, q2, I0⟩
        · have hol := get_lt ho
          have hoD := KN.2 _ _ (KC.2 _ _ (KB.2 _ _ (KA.2 _ _ ho id) id) (show ¬ o = h.length by omega)) id
          have hmin : min 60 ops.length = min ops.length 60 := Nat.min_comm _ _
          have htl : (ops.take 60).length = min ops.length 60 := by simp [hmin]
          obtain ⟨E1, g1, e1, hl1, I1⟩ := when_loop (b := h.length) (b5 := h.length + 1) (m := ops.take 60) (l := ops) (vs := .slice (some ⟨o, 0, none⟩) (ops.take 60).length 5) (by omega) (fun q x hx => by
            rw [List.getElem?_take] at hx
            split at hx
            · exact hx
            · cases hx) (.inr ⟨o, rwo, rfl, hoD, nf o (by omega)⟩) I0 hw0 rfl
          rw [htl] at hl1
          obtain ⟨E2, q1, q2⟩ := pvC 0 (EnvLe.refl _) (w20p.wh_pres h.length (h.length + 1) i d (clipF l).length r m wi ba ca k n at' fk ft v h hB hD g1 o ops.length (min ops.length 60))
            ⟨rfl, ln, ld0, r1, st, ld, rN', neF rfl, .inr ⟨rfl, by simp only [Int.ofNat_eq_natCast]; split <;> omega⟩, a_cut (by omega), a_loop pl (.add (.add (.add (.add (.add (.add (.nil _) rfl) rfl) rfl) rfl) rfl) rfl) e1 hl1, trivial⟩
          exact ⟨E2, _, _, by omega, q1, q2, I1⟩
      obtain ⟨E1, g1, mm, hmm, e1, c1, I1⟩ := pre
      have G := foldW_good hw0 rfl mm (by omega)
      obtain ⟨w, ew⟩ : ∃ w, w = foldW w0 mm := ⟨_, rfl⟩
      rw [← ew] at I1 G
      have hG := G.times
      obtain ⟨t1, a1, ht1⟩ := I1.at'
      obtain ⟨os, r16⟩ := over_run a1 G.ok
      have I2 := I1.grow (Keep.app (fun _ => False) g1 os)
      obtain ⟨t2, a2, ht2⟩ := I2.at'
      obtain ⟨vo, g3, t3, r14, a3, _, K3, ht3⟩ := ended_run text_run a2 G.ok (by omega) n fk at' ft
      have I3 := I2.next ht2 a3 K3 ht3
      obtain ⟨t3', a3', _⟩ := I3.at'
      have n5 := nf (h.length + 1) (by omega)
      have f1 := I1.keep.2 _ _ g5D n5
      have f2 := I2.keep.2 _ _ g5D n5
      have f3 := I3.keep.2 _ _ g5D n5
      have hwe := (G.ok.ended (by omega) n fk ft at').1
      by_cases ez : (endedF w n fk ft at').2.2 = 0
      · rw [ez] at r14
        obtain ⟨hn, x, hx, hxs', _, hfo⟩ := endedF_ok ez
        obtain ⟨E2, q1, q2⟩ := pvC 0 e1 (w20p.wh_ok i (h.length + 1) h.length k n at' fk ft (stateOf w n).1 (stateOf w n).2 w.times.length 0 0 0 0 (overOf w) w.given vo g1 (g1 ++ os) g3)
          ⟨a_ld1 f1 rfl, state_run a1 G.ok n, r16, restarts_run a2, a_ld1 f2 rfl, a_ldn f2 (by simp [O, OpV.cells]) rfl, a_ld1 f2 rfl, r14, neF rfl, trivial⟩
        have hst : (stateOf w n).1 = x.state := by rw [stateOf_of hn hx]
        rw [hst] at q1
        have hsl : w.svs.length = (clipF l).length := by rw [G.each.1]; exact hwl
        obtain ⟨E3, g, q3, q4⟩ := when_last (E := E2) (op := ⟨k, n, at', fk, ft⟩) (s := ⟨r, m, wi, ba, ca⟩) I3 hwe G.ok g5D gbD hdD n5 (nf _ (by omega)) (nf _ hdC) hxD rfl hsl hall hn hx (fun y hy => whs G rfl hx hy) hfo
          (.trans (.add (.add (.add (.add (.add (.add (.nil _) rfl) rfl) rfl) rfl) rfl) rfl) q1)
        exact ⟨g, Run.code Try.func6 body6 (.inr rfl) (CRunChain c1 (CRunChain q2 q4)) (evResults_one rfl (q3 6 _ rfl))⟩
      · have hsame : (endedF w n fk ft at').1 = w := endedF_bad ez
        rw [hsame] at a3'
        obtain ⟨E2, q1, q2⟩ := pvC 0 e1 (w20p.wh_err i (h.length + 1) h.length k n at' fk ft (stateOf w n).1 (stateOf w n).2 w.times.length (endedF w n fk ft at').2.2 (stateOf w n).1 (stateOf w n).2 w.times.length (overOf w) w.given vo g1 (g1 ++ os) g3)
          ⟨a_ld1 f1 rfl, state_run a1 G.ok n, r16, restarts_run a2, a_ld1 f2 rfl, a_ldn f2 (by simp [O, OpV.cells]) rfl, a_ld1 f2 rfl, r14, neT ez, a_ld1 f3 rfl, state_run a3' G.ok n, eqT rfl, restarts_run a3', eqT rfl, awake_run g3, trivial⟩
        refine ⟨g3, Run.code Try.func6 body6 (.inr rfl) (CRunChain c1 (?_ : CRun Try.prog 218 false (chainT [partC Try.f6 [1, 1, 1, 1, 1, 0], partC Try.f6 [1, 1, 1, 1, 1, 1, 0], partC Try.f6 [1, 1, 1, 1, 1, 1, 1, 0], partC Try.f6 [1, 1, 1, 1, 1, 1, 1, 1, 0]] (partC Try.f6 [1, 1, 1, 1, 1, 1, 1, 1, 1])) E1 g1 .ret E2 g3)) (evResults_one rfl (q1 6 _ rfl))⟩
        exact CRunStop q2 (by simp)

end Go.Proofs.Ytkkhokgpcifckaa.wd

namespace Go.Proofs.Ytkkhokgpcifckaa.wd
open Go Go.Ev
set_option maxRecDepth 100000
set_option linter.constructorNameAsVariable false
set_option linter.unusedVariables false

/-! ### Ends: plain facts -/

/-- A warden that has given up orders nothing but that it is done. -/
theorem run_given {w : WS} {o : OpV} (hg : w.given = true) : ∀ x ∈ (runF w o).2, x.when = 4 := by
  unfold runF
  split
  · unfold endedF
    split
    · intro x hx; cases hx
    · split
      · intro x hx; cases hx
      · split
        · intro x hx
          simp only [doneF, followF, hg, if_true] at hx
          split at hx
          · simp at hx; subst hx; rfl
          · cases hx
        · intro x hx; cases hx
  · intro x hx; cases hx

/-- It has nobody who is due or off. -/
def NoDue (w : WS) : Prop := w.given = true → ∀ x ∈ w.svs, x.state ≠ 3 ∧ x.state ≠ 4

theorem mem_of_get {α : Type} {l : List α} {P : α → Prop} (h : ∀ (k : Nat) x, l[k]? = some x → P x) : ∀ x ∈ l, P x := fun x hx => by
  obtain ⟨k, hk⟩ := List.mem_iff_getElem?.1 hx
  exact h k x hk

theorem setSt_noDue {l : List Sv} {n s : Int} (hs : s ≠ 3 ∧ s ≠ 4) (h : ∀ x ∈ l, x.state ≠ 3 ∧ x.state ≠ 4) : ∀ x ∈ setSt l n s, x.state ≠ 3 ∧ x.state ≠ 4 := mem_of_get fun k x hx => by
  rw [setSt_get] at hx
  cases hl : l[k]? with
  | none => rw [hl] at hx; cases hx
  | some y =>
    rw [hl] at hx
    simp only [Option.map_some, Option.some.injEq] at hx
    subst hx
    split
    · exact hs
    · exact h y (List.mem_of_getElem? hl)

theorem giveUp_noDue (w : WS) (n : Int) : ∀ x ∈ (giveUpF w n).1.svs, x.state ≠ 3 ∧ x.state ≠ 4 := mem_of_get fun k x hx => by
  simp only [giveUpF, stopped, gave, stS_get, mS_get, setSt_get] at hx
  cases hl : w.svs[k]? with
  | none => rw [hl] at hx; cases hx
  | some y =>
    rw [hl] at hx
    simp only [Option.map_some, Option.some.injEq] at hx
    subst hx
    generalize (if k = (n - 1).toNat then { y with state := 5 } else y) = z
    unfold stStep
    split
    · simp
    · unfold gvStep
      split
      · simp
      · rename_i h; exact ⟨fun e => h (.inl e), fun e => h (.inr e)⟩

theorem stepF_noDue {w : WS} {o : OpV} (h : NoDue w) : NoDue (stepF w o) := by
  unfold stepF runF
  split
  · unfold endedF
    split
    · exact h
    · split
      · exact h
      · split
        · rename_i x _ _
          show NoDue (followF { w with now := o.at' } o.n o.fk x).1
          unfold followF
          split
          · rename_i hg
            intro _
            exact setSt_noDue (by decide) (h hg)
          · rename_i hg
            split
            · intro hg'
              rw [begin_given] at hg'
              exact absurd hg' hg
            · split
              · intro hg'; exact absurd hg' hg
              · intro hg'
                unfold againF at hg' ⊢
                split at hg'
                · rename_i hc
                  rw [if_pos hc]
                  exact giveUp_noDue _ _
                · rw [begin_given] at hg'
                  exact absurd hg' hg
        · exact h
  · unfold startedF
    split
    · exact h
    · split
      · exact h
      · split
        · split
          · exact h
          · intro hg
            have := h hg
            refine mem_of_get fun k x hx => ?_
            simp only [putSv_get] at hx
            cases hl : w.svs[k]? with
            | none => rw [hl] at hx; cases hx
            | some y =>
              rw [hl] at hx
              simp only [Option.map_some, Option.some.injEq] at hx
              subst hx
              split
              · simp
              · exact this y (List.mem_of_getElem? hl)
        · exact h

/-- A time that is not before any that can have been. -/
def lastF : List OpV → Int → Int
  | [], now => now
  | o :: l, now => lastF l (if o.at' ≤ 1000000000000 then (if o.at' > now then o.at' else now) else now)
theorem lastF_ge : ∀ (l : List OpV) (now : Int), now ≤ lastF l now
  | [], now => Int.le_refl _
  | o :: l, now => by
    have := lastF_ge l (if o.at' ≤ 1000000000000 then (if o.at' > now then o.at' else now) else now)
    simp only [lastF]
    split at this
    · split at this
      · rename_i h1 h2; rw [if_pos h1, if_pos h2]; omega
      · rename_i h1 h2; rw [if_pos h1, if_neg h2]; omega
    · rename_i h1; rw [if_neg h1]; omega
theorem lastF_le : ∀ (l : List OpV) {now : Int}, now ≤ 1000000000000 → lastF l now ≤ 1000000000000
  | [], now, h => h
  | o :: l, now, h => by
    simp only [lastF]
    refine lastF_le l ?_
    split
    · split <;> omega
    · omega
theorem lastF_mem : ∀ (l : List OpV) (now : Int), ∀ o ∈ l, o.at' ≤ 1000000000000 → o.at' ≤ lastF l now
  | x :: l, now, o, ho, hb => by
    rcases List.mem_cons.1 ho with rfl | ho
    · have := lastF_ge l (if o.at' ≤ 1000000000000 then (if o.at' > now then o.at' else now) else now)
      simp only [lastF]
      rw [if_pos hb] at this ⊢
      split at this <;> rename_i h1
      · rw [if_pos h1]; omega
      · rw [if_neg h1]; omega
    · exact lastF_mem l _ o ho hb

theorem begin_now (w : WS) : (beginF w).1.now = w.now := by unfold beginF; split <;> rfl
theorem follow_now (w : WS) (n fk : Int) (x : Sv) : (followF w n fk x).1.now = w.now := by
  unfold followF
  split
  · rfl
  · split
    · rw [begin_now]
    · split
      · rfl
      · unfold againF
        split
        · rfl
        · rw [begin_now]; rfl
theorem step_now (w : WS) (o : OpV) : (stepF w o).now = w.now ∨ ((stepF w o).now = o.at' ∧ o.at' ≤ 1000000000000) := by
  unfold stepF runF
  split
  · unfold endedF
    split
    · exact .inl rfl
    · rename_i hc
      split
      · exact .inl rfl
      · split
        · right
          refine ⟨follow_now _ _ _ _, ?_⟩
          simp [lateB] at hc; omega
        · exact .inl rfl
  · unfold startedF
    split
    · exact .inl rfl
    · rename_i hc
      split
      · exact .inl rfl
      · split
        · split
          · exact .inl rfl
          · right
            refine ⟨rfl, ?_⟩
            simp [lateB] at hc; omega
        · exact .inl rfl

theorem fold_now {w : WS} (h0 : w.now = 0) (L : List OpV) : ∀ (l : List OpV), (∀ o ∈ l, o ∈ L) → ∀ v : WS, v.now ≤ lastF L 0 → (l.foldl stepF v).now ≤ lastF L 0
  | [], _, v, hv => hv
  | o :: l, hm, v, hv => by
    simp only [List.foldl_cons]
    refine fold_now h0 L l (fun x hx => hm x (List.mem_cons_of_mem _ hx)) _ ?_
    rcases step_now v o with e | ⟨e, hb⟩
    · rw [e]; exact hv
    · rw [e]; exact lastF_mem L 0 o (hm o (List.mem_cons_self ..)) hb

theorem fold_noDue : ∀ (l : List OpV) {w : WS}, NoDue w → NoDue (l.foldl stepF w)
  | [], w, h => h
  | o :: l, w, h => fold_noDue l (stepF_noDue h)

/-- The end of a service of a warden that has given up. -/
theorem ended_up {w : WS} {n now : Int} {x : Sv} (hg : w.given = true) (hl : lateB w now = false) (hn : 1 ≤ n ∧ n ≤ w.svs.length) (hx : w.svs[(n - 1).toNat]? = some x) (hs : x.state = 1 ∨ x.state = 2) :
    (endedF w n 1 ⟨#[120]⟩ now).1 = { w with now := now, svs := setSt w.svs n 5 } ∧ (endedF w n 1 ⟨#[120]⟩ now).2.2 = 0 ∧ (startedF w n now).2 = 6 ∧ (startedF w n now).1 = w := by
  have hf : faultB 1 ⟨#[120]⟩ = true := by decide +kernel
  have hsv : svAt w n = some x := by simp only [svAt, if_pos hn, hx]
  have h4 : ¬ x.state = 4 := by omega
  refine ⟨?_, ?_, ?_, ?_⟩
  · simp [endedF, hl, hf, hsv, hs, doneF, followF, hg]
  · simp [endedF, hl, hf, hsv, hs]
  · simp [startedF, hl, hsv, h4]
  · simp [startedF, hl, hsv, h4]

theorem over_of {w : WS} (h : ∀ x ∈ w.svs, x.state = 5) : overOf w = true := by
  unfold overOf
  rw [Bool.not_eq_true', List.any_eq_false]
  intro x hx
  rw [h x hx]
  decide

end Go.Proofs.Ytkkhokgpcifckaa.wd

namespace Go.Proofs.Ytkkhokgpcifckaa.wd
open Go Go.Ev
set_option maxRecDepth 100000
set_option linter.constructorNameAsVariable false
set_option linter.unusedVariables false

/-! ### Ends: the walk -/

/-- The orders of a reply, one by one. -/
theorem ends_inner {i p o w' : Nat} {j : Int} {up : Bool} {vl : Value} {L : List Sv} {h : Hp} (hw : h[w']? = some (.cells (svC L) true)) (hL : L.length ≤ 1000) (hup : up = true → ∀ x ∈ L, x.when = 4) :
    ∃ E1 h1, EnvLe [(11, .bool up), (42, .int .i64 j), (41, .int .i64 (Int.ofNat p)), (40, .slice (some ⟨o, 0, none⟩) p 5), (7, .int .i64 0), (5, .pointer (some ⟨i, 0, none⟩)), (1, vl)] E1 ∧
      LRun Try.prog 132 false (loopN Try.f5 1) [(55, .int .i64 0), (54, .int .i64 (Int.ofNat L.length)), (53, .slice (some ⟨w', 0, none⟩) L.length 3), (11, .bool up), (42, .int .i64 j), (41, .int .i64 (Int.ofNat p)), (40, .slice (some ⟨o, 0, none⟩) p 5), (7, .int .i64 0), (5, .pointer (some ⟨i, 0, none⟩)), (1, vl)] h (.exit 2) E1 h1 ∧
      Keep (fun _ => False) h h1 := by
  have hlc := svC_len L
  obtain ⟨x', E1, h1, hl1, rfl, q1, q2⟩ := loop_inv (P := Try.prog) (n := 132) (rd := false) (b := loopN Try.f5 1)
    (Q := fun x' E1 h1 => x' = .exit 2 ∧ EnvLe [(11, .bool up), (42, .int .i64 j), (41, .int .i64 (Int.ofNat p)), (40, .slice (some ⟨o, 0, none⟩) p 5), (7, .int .i64 0), (5, .pointer (some ⟨i, 0, none⟩)), (1, vl)] E1 ∧ Keep (fun _ => False) h h1)
    (fun m E g => ∃ k : Nat, k ≤ L.length ∧ m = L.length - k ∧ EnvLe [(55, .int .i64 (k : Nat)), (54, .int .i64 (Int.ofNat L.length)), (53, .slice (some ⟨w', 0, none⟩) L.length 3), (11, .bool up), (42, .int .i64 j), (41, .int .i64 (Int.ofNat p)), (40, .slice (some ⟨o, 0, none⟩) p 5), (7, .int .i64 0), (5, .pointer (some ⟨i, 0, none⟩)), (1, vl)] E ∧ Keep (fun _ => False) h g)
    (fun m E g ⟨k, k1, k2, k3, k4⟩ => by
      have sub : ∀ {E2 : Env} {c : Int}, EnvLe [(55, .int .i64 c), (54, .int .i64 (Int.ofNat L.length)), (53, .slice (some ⟨w', 0, none⟩) L.length 3), (11, .bool up), (42, .int .i64 j), (41, .int .i64 (Int.ofNat p)), (40, .slice (some ⟨o, 0, none⟩) p 5), (7, .int .i64 0), (5, .pointer (some ⟨i, 0, none⟩)), (1, vl)] E2 →
          EnvLe [(11, .bool up), (42, .int .i64 j), (41, .int .i64 (Int.ofNat p)), (40, .slice (some ⟨o, 0, none⟩) p 5), (7, .int .i64 0), (5, .pointer (some ⟨i, 0, none⟩)), (1, vl)] E2 := fun h => .trans (.add (.add (.add (.add (.add (.add (.add (.nil _) rfl) rfl) rfl) rfl) rfl) rfl) rfl) h
      by_cases e : k = L.length
      · right
        subst e
        obtain ⟨E2, q1, q2⟩ := pvC 0 k3 (w20p.ei_out i p o w' L.length 0 0 j (L.length : Nat) 0 0 0 0 up vl g) ⟨by simp [Asm.holds, cmpB], trivial⟩
        exact ⟨_, E2, _, by simp, q2, rfl, sub (.trans (.add (.add (.add (.add (.add (.add (.add (.add (.add (.add (.nil _) rfl) rfl) rfl) rfl) rfl) rfl) rfl) rfl) rfl) rfl) q1), k4⟩
      · left
        obtain ⟨x, hx⟩ : ∃ x, L[k]? = some x := ⟨_, List.getElem?_eq_getElem (by omega)⟩
        have hwg := k4.2 _ _ hw id
        have ak1 : IntKind.i64.wrap ((k : Int) + 1) = ((k + 1 : Nat) : Int) := add1 (by omega)
        have hK : Keep (fun _ => False) g ((g ++ [AObj.cells [.int .i64 0, .int .i64 0, .int .i64 0] true]).set g.length (.cells x.cells true)) := (Keep.push (fun _ => False) g _).trans_new (Keep.set (fp := fun q => q = g.length) rfl _) (fun q hq e => by omega)
        cases up with
        | false =>
          obtain ⟨E2, q1, q2⟩ := pvC 0 k3 (w20p.ei_no i p o w' L.length (k * 3) g.length j k ((k + 1 : Nat) : Int) x.when x.state x.at' false vl g)
            ⟨by simp [Asm.holds, cmpB]; omega, ⟨by omega, by omega, by simp⟩, a_ldn hwg (by omega) (svC_cut hx), rfl, a_st (get_new g _) (by simp) rfl, by simp only [Asm.holds, arithI, ak1], trivial⟩
          exact ⟨L.length - (k + 1), E2, _, by omega, q2, k + 1, by omega, rfl, .trans (.add (.add (.add (.add (.add (.add (.add (.add (.add (.add (.nil _) rfl) rfl) rfl) rfl) rfl) rfl) rfl) rfl) rfl) rfl) q1, k4.trans hK⟩
        | true =>
          have h4 := hup rfl x (List.mem_of_getElem? hx)
          obtain ⟨E2, q1, q2⟩ := pvC 0 k3 (w20p.ei_up i p o w' L.length (k * 3) g.length j k ((k + 1 : Nat) : Int) x.when x.state x.at' true vl g)
            ⟨by simp [Asm.holds, cmpB]; omega, ⟨by omega, by omega, by simp⟩, a_ldn hwg (by omega) (svC_cut hx), rfl, a_st (get_new g _) (by simp) rfl, a_ld1 (get_set_eq (get_new g _)) rfl, neF h4, by simp only [Asm.holds, arithI, ak1], trivial⟩
          exact ⟨L.length - (k + 1), E2, _, by omega, q2, k + 1, by omega, rfl, .trans (.add (.add (.add (.add (.add (.add (.add (.add (.add (.add (.nil _) rfl) rfl) rfl) rfl) rfl) rfl) rfl) rfl) rfl) rfl) q1, k4.trans hK⟩)
    L.length _ h ⟨0, by omega, rfl, EnvLe.refl _, .refl _ _⟩
  exact ⟨E1, h1, q1, hl1, q2⟩

/-- A reply has few orders. -/
theorem follow_len {w : WS} (n8 : w.svs.length ≤ 8) (n fk : Int) (x : Sv) : (followF w n fk x).2.length ≤ 100 := by
  unfold followF
  split
  · simp
  · split
    · have := beginF_len { w with svs := setSt w.svs n 3 }
      simp only [setSt_len] at this
      omega
    · split
      · simp
      · unfold againF
        split
        · simp only [giveUpF, List.length_cons]
          have := stO_len (fun _ => true) 0 (gave (timed w) n).svs
          simp only [gave, mS_len, setSt_len, timed] at this ⊢
          omega
        · have h1 := beginF_len (off3 w n)
          have h2 := stO_len (nameP w n) 0 (off1 w n).svs
          rw [off3_len] at h1
          rw [off1_len] at h2
          simp only [List.length_append]
          omega
theorem run_len {w : WS} (hw : WOk w) (ht : w.times.length < 10000) (o : OpV) : (runF w o).2.length ≤ 1000 := by
  unfold runF
  split
  · unfold endedF
    split
    · simp
    · split
      · simp
      · split
        · rename_i x _ _
          have := follow_len (w := { w with now := o.at' }) hw.n8 o.n o.fk x
          simp only [doneF]
          split
          · simp only [List.length_append, List.length_cons, List.length_nil]; omega
          · omega
        · simp
  · simp

theorem ends_loop {B i j : Nat} {w0 : WS} {h0 g0 : Hp} {vs vl : Value} {m l : List OpV} (hm : m.length ≤ 100) (hml : ∀ (k : Nat) x, m[k]? = some x → l[k]? = some x) (hvs : m = [] ∨ ∃ o rw, vs = .slice (some ⟨o, 0, none⟩) m.length 5 ∧ h0[o]? = some (.cells (opC l) rw) ∧ ¬ fpB i j B o)
    (I : In B i j w0 h0 g0) (hw : WOk w0) (ht : w0.times = []) :
    ∃ E1 g1, EnvLe [(7, .int .i64 0), (5, .pointer (some ⟨i, 0, none⟩)), (1, vl)] E1 ∧
      LRun Try.prog 132 false (loopN Try.f5 0) [(42, .int .i64 0), (41, .int .i64 (Int.ofNat m.length)), (40, vs), (7, .int .i64 0), (5, .pointer (some ⟨i, 0, none⟩)), (1, vl)] g0 (.exit 0) E1 g1 ∧ In B i j (foldW w0 m) h0 g1 := by
  obtain ⟨x', E1, g1, hl1, rfl, q1, q2⟩ := loop_inv (P := Try.prog) (n := 132) (rd := false) (b := loopN Try.f5 0)
    (Q := fun x' E1 g1 => x' = .exit 0 ∧ EnvLe [(7, .int .i64 0), (5, .pointer (some ⟨i, 0, none⟩)), (1, vl)] E1 ∧ In B i j (foldW w0 m) h0 g1)
    (fun mm E g => ∃ k : Nat, k ≤ m.length ∧ mm = m.length - k ∧ EnvLe [(42, .int .i64 (k : Nat)), (41, .int .i64 (Int.ofNat m.length)), (40, vs), (7, .int .i64 0), (5, .pointer (some ⟨i, 0, none⟩)), (1, vl)] E ∧ In B i j (foldW w0 (m.take k)) h0 g)
    (fun mm E g ⟨k, k1, k2, k3, k4⟩ => by
      by_cases e : k = m.length
      · right
        subst e
        obtain ⟨E2, q1, q2⟩ := pvC 0 k3 (w20p.en_out i m.length (m.length : Nat) vs vl g) ⟨by simp [Asm.holds, cmpB], trivial⟩
        exact ⟨_, E2, _, by simp, q2, rfl, .trans (.add (.add (.add (.nil _) rfl) rfl) rfl) q1, by rwa [List.take_length] at k4⟩
      · left
        obtain ⟨x, hx⟩ : ∃ x, m[k]? = some x := ⟨_, List.getElem?_eq_getElem (by omega)⟩
        rcases hvs with hnil | ⟨o, rw', rfl, ho, hoB⟩
        · rw [hnil] at hx; simp at hx
        · have hog := k4.keep.2 _ _ ho hoB
          have hlx := hml k x hx
          have hcl := opC_len l
          have hkl := get_lt' hlx
          have ak1 : IntKind.i64.wrap ((k : Int) + 1) = ((k + 1 : Nat) : Int) := add1 (by omega)
          have Gk := foldW_good hw ht (m.take k) (by simp; omega)
          have htk : (foldW w0 (m.take k)).times.length < 10000 := by have := Gk.times; simp at this; omega
          obtain ⟨wk, ewk⟩ : ∃ wk, wk = foldW w0 (m.take k) := ⟨_, rfl⟩
          rw [← ewk] at k4 Gk htk
          have gx : ((g ++ [AObj.cells [.int .i64 0, .int .i64 0, .int .i64 0, .int .i64 0, .string ⟨⟨[]⟩⟩] true]).set g.length (.cells x.cells true))[g.length]? = some (.cells x.cells true) := get_set_eq (get_new g _)
          have I1 := k4.tmp (.cells [.int .i64 0, .int .i64 0, .int .i64 0, .int .i64 0, .string ⟨⟨[]⟩⟩] true) (.cells x.cells true)
          obtain ⟨t, a, hta⟩ := I1.at'
          obtain ⟨os, r16⟩ := over_run a Gk.ok
          have KO : Keep (fun _ => False) _ _ := Keep.app (fun _ => False) ((g ++ [AObj.cells [.int .i64 0, .int .i64 0, .int .i64 0, .int .i64 0, .string ⟨⟨[]⟩⟩] true]).set g.length (.cells x.cells true)) os
          have I2 := I1.grow KO
          obtain ⟨t2, a2, ht2⟩ := I2.at'
          obtain ⟨v, g3, t', r1, r2, ⟨bo, b1, b2, hO⟩, r4, r5⟩ := run_run a2 Gk.ok htk x
          have I3 := I2.next ht2 r2 r4 r5
          have pre : (Asm.cmp .lss (k : Int) (Int.ofNat m.length) true).holds Try.prog := by simp [Asm.holds, cmpB]; omega
          have fin : ∀ (E2 : Env) (g4 : Hp), EnvLe [(42, .int .i64 ((k + 1 : Nat) : Int)), (41, .int .i64 (Int.ofNat m.length)), (40, .slice (some ⟨o, 0, none⟩) m.length 5), (7, .int .i64 0), (5, .pointer (some ⟨i, 0, none⟩)), (1, vl)] E2 → Keep (fun _ => False) g3 g4 →
              CRun Try.prog 132 false (loopN Try.f5 0) E g .normal E2 g4 → ∃ m' E1 h1, m' < mm ∧ CRun Try.prog 132 false (loopN Try.f5 0) E g .normal E1 h1 ∧ ∃ k : Nat, k ≤ m.length ∧ m' = m.length - k ∧
                EnvLe [(42, .int .i64 (k : Nat)), (41, .int .i64 (Int.ofNat m.length)), (40, .slice (some ⟨o, 0, none⟩) m.length 5), (7, .int .i64 0), (5, .pointer (some ⟨i, 0, none⟩)), (1, vl)] E1 ∧ In B i j (foldW w0 (m.take k)) h0 h1 := fun E2 g4 q1 K q2 =>
            ⟨m.length - (k + 1), E2, _, by omega, q2, k + 1, by omega, rfl, q1, by rw [take_snoc hx, foldW_snoc, ← ewk]; exact I3.grow K⟩
          rcases hO with ⟨rfl, hnil⟩ | ⟨ob, rfl, hob, _, _⟩
          · obtain ⟨E2, q1, q2⟩ := pvC 0 k3 (w20p.en_gon i m.length o (k * 5) g.length k ((k + 1 : Nat) : Int) x.kind x.n x.at' x.fk x.ft (overOf wk) wk.given vl g _ g3 g3)
              ⟨pre, ⟨by omega, by omega, by simp⟩, a_ldn hog (by omega) (opC_cut hlx), rfl, a_st (get_new g _) (by simp) rfl, r16, a_ldn (KO.2 _ _ gx id) (by simp [OpV.cells]) rfl, r1, by simp [Asm.holds, cmpB], by simp only [Asm.holds, arithI, ak1], trivial⟩
            exact fin E2 _ (.trans (.add (.add (.add (.add (.add (.add (.nil _) rfl) rfl) rfl) rfl) rfl) rfl) q1) (.refl _ _) q2
          · have pl : plainC (loopN Try.f5 1) = true := by kernel_rfl
            obtain ⟨Ei, g4, i1, i2, i3⟩ := ends_inner (i := i) (p := m.length) (o := o) (j := (k : Int)) (up := wk.given) (vl := vl) hob (run_len Gk.ok htk x) (fun hg => run_given hg)
            obtain ⟨E2, q1, q2⟩ := pvC 0 k3 (w20p.en_gos i m.length o (k * 5) g.length k ((k + 1 : Nat) : Int) x.kind x.n x.at' x.fk x.ft (overOf wk) wk.given vl g _ g3 g4 ob _)
              ⟨pre, ⟨by omega, by omega, by simp⟩, a_ldn hog (by omega) (opC_cut hlx), rfl, a_st (get_new g _) (by simp) rfl, r16, a_ldn (KO.2 _ _ gx id) (by simp [OpV.cells]) rfl, r1,
                a_loop pl (.add (.add (.add (.add (.add (.add (.add (.add (.add (.add (.nil _) rfl) rfl) rfl) rfl) rfl) rfl) rfl) rfl) rfl) rfl) i1 i2, by simp only [Asm.holds, arithI, ak1], trivial⟩
            exact fin E2 _ (.trans (.add (.add (.add (.add (.add (.add (.nil _) rfl) rfl) rfl) rfl) rfl) rfl) q1) i3 q2)
    m.length _ g0 ⟨0, by omega, rfl, EnvLe.refl _, I⟩
  exact ⟨E1, g1, q1, hl1, q2⟩

/-- 'last'. -/
theorem last_run {h : Hp} {vl : Value} {ops : List OpV} (hO : OpsAt h vl ops) (now : Int) : ∃ h', Run Try.prog 20 [vl, .int .i64 now] h (.int .i64 (lastF (ops.take 100) now)) h' ∧ Keep (fun _ => False) h h' := by
  rcases hO with ⟨rfl, rfl⟩ | ⟨o, rw, rfl, ho⟩
  · exact ⟨h, pvF 0 Try.func20 (w20p.la_nil now h) ⟨by simp [Asm.holds], by simp [Asm.holds, cmpB], trivial⟩, .refl _ _⟩
  · have hcl := opC_len ops
    have htl : (ops.take 100).length = min ops.length 100 := by simp [Nat.min_comm]
    obtain ⟨m, em⟩ : ∃ m, m = ops.take 100 := ⟨_, rfl⟩
    rw [← em] at htl ⊢
    obtain ⟨x', E1, h1, hl1, rfl, q1, q2⟩ := loop_inv (P := Try.prog) (n := 26) (rd := false) (b := loopN Try.f20 0)
      (Q := fun x' E1 h1 => x' = .exit 0 ∧ EnvLe [(1, .int .i64 (lastF m now))] E1 ∧ Keep (fun _ => False) h h1)
      (fun mm E g => ∃ (k : Nat) (c : Int), k ≤ m.length ∧ mm = m.length - k ∧ EnvLe [(13, .int .i64 (k : Nat)), (12, .int .i64 (Int.ofNat m.length)), (11, .slice (some ⟨o, 0, none⟩) m.length 5), (1, .int .i64 c)] E ∧ lastF (m.drop k) c = lastF m now ∧ Keep (fun _ => False) h g)
      (fun mm E g ⟨k, c, k1, k2, k3, k4, k5⟩ => by
        by_cases e : k = m.length
        · right
          subst e
          obtain ⟨E2, q1, q2⟩ := pvC 0 k3 (w20p.la_out m.length o 0 0 (m.length : Nat) 0 c 0 0 0 0 0 ⟨#[]⟩ g) ⟨by simp [Asm.holds, cmpB], trivial⟩
          rw [List.drop_length] at k4
          exact ⟨_, E2, _, by simp, q2, rfl, by rw [← k4]; exact .trans (.add (.nil _) rfl) q1, k5⟩
        · left
          obtain ⟨x, hx⟩ : ∃ x, m[k]? = some x := ⟨_, List.getElem?_eq_getElem (by omega)⟩
          have hlx : ops[k]? = some x := by
            rw [em, List.getElem?_take] at hx
            split at hx
            · exact hx
            · cases hx
          have hkl := get_lt' hlx
          have hog := k5.2 _ _ ho id
          have hd : m.drop k = x :: m.drop (k + 1) := drop_cons hx
          rw [hd] at k4
          simp only [lastF] at k4
          have ak1 : IntKind.i64.wrap ((k : Int) + 1) = ((k + 1 : Nat) : Int) := add1 (by omega)
          have gx : ((g ++ [AObj.cells [.int .i64 0, .int .i64 0, .int .i64 0, .int .i64 0, .string ⟨⟨[]⟩⟩] true]).set g.length (.cells x.cells true))[g.length]? = some (.cells x.cells true) := get_set_eq (get_new g _)
          have hK : Keep (fun _ => False) g ((g ++ [AObj.cells [.int .i64 0, .int .i64 0, .int .i64 0, .int .i64 0, .string ⟨⟨[]⟩⟩] true]).set g.length (.cells x.cells true)) := (Keep.push (fun _ => False) g _).trans_new (Keep.set (fp := fun q => q = g.length) rfl _) (fun q hq e => by omega)
          by_cases hb : x.at' ≤ 1000000000000
          · rw [if_pos hb] at k4
            obtain ⟨E2, q1, q2⟩ := pvC 0 k3 (w20p.la_in m.length o (k * 5) g.length k ((k + 1 : Nat) : Int) c (if x.at' > c then x.at' else c) x.kind x.n x.at' x.fk x.ft g)
              ⟨by simp [Asm.holds, cmpB]; omega, ⟨by omega, by omega, by simp⟩, a_ldn hog (by omega) (opC_cut hlx), rfl, a_st (get_new g _) (by simp) rfl, a_ld1 gx rfl, by simpa [Asm.holds, cmpB] using hb, a_ld1 gx rfl, .inl ⟨rfl, rfl⟩, by simp only [Asm.holds, arithI, ak1], trivial⟩
            exact ⟨m.length - (k + 1), E2, _, by omega, q2, k + 1, _, by omega, rfl, .trans (.add (.add (.add (.add (.nil _) rfl) rfl) rfl) rfl) q1, k4, k5.trans hK⟩
          · rw [if_neg hb] at k4
            obtain ⟨E2, q1, q2⟩ := pvC 0 k3 (w20p.la_late m.length o (k * 5) g.length k ((k + 1 : Nat) : Int) c 0 x.kind x.n x.at' x.fk x.ft g)
              ⟨by simp [Asm.holds, cmpB]; omega, ⟨by omega, by omega, by simp⟩, a_ldn hog (by omega) (opC_cut hlx), rfl, a_st (get_new g _) (by simp) rfl, a_ld1 gx rfl, by simp [Asm.holds, cmpB]; omega, by simp only [Asm.holds, arithI, ak1], trivial⟩
            exact ⟨m.length - (k + 1), E2, _, by omega, q2, k + 1, _, by omega, rfl, .trans (.add (.add (.add (.add (.nil _) rfl) rfl) rfl) rfl) q1, k4, k5.trans hK⟩)
      m.length [(13, .int .i64 ((0 : Nat) : Int)), (12, .int .i64 (Int.ofNat m.length)), (11, .slice (some ⟨o, 0, none⟩) m.length 5), (1, .int .i64 now)] h ⟨0, now, by omega, rfl, EnvLe.refl _, rfl, .refl _ _⟩
    have pl : plainC (loopN Try.f20 0) = true := by kernel_rfl
    rw [htl] at hl1
    exact ⟨h1, pvF 0 Try.func20 (w20p.la_some o ops.length (min ops.length 100) now (lastF m now) h h1) ⟨.inr ⟨rfl, by simp only [Int.ofNat_eq_natCast]; split <;> omega⟩, a_cut (by omega), a_loop pl (.add (.add (.add (.add (.nil _) rfl) rfl) rfl) rfl) q1 hl1, trivial⟩, q2⟩

end Go.Proofs.Ytkkhokgpcifckaa.wd

namespace Go.Proofs.Ytkkhokgpcifckaa.wd
open Go Go.Ev
set_option maxRecDepth 100000
set_option linter.constructorNameAsVariable false
set_option linter.unusedVariables false

/-- The calls, where the rounds of a law do not turn them. -/
def OpsIn (i j B : Nat) (h : Hp) (v : Value) (l : List OpV) : Prop := (v = .slice none 0 0 ∧ l = []) ∨ ∃ o rw, v = .slice (some ⟨o, 0, none⟩) l.length 5 ∧ h[o]? = some (.cells (opC l) rw) ∧ ¬ fpB i j B o
theorem OpsIn.at {i j B : Nat} {h g : Hp} {v : Value} {l : List OpV} (a : OpsIn i j B h v l) (K : Keep (fpB i j B) h g) : OpsAt g v l := by
  rcases a with h1 | ⟨o, rw, h1, h2, h3⟩
  · exact .inl h1
  · exact .inr ⟨o, rw, h1, K.2 _ _ h2 h3⟩

/-- The warden that has given up, while its services end. -/
structure UpI (m : List OpV) (w : WS) (now n : Int) : Prop where
  ok : WOk w
  times : w.times.length < 10000
  given : w.given = true
  st : ∀ x ∈ w.svs, x.state = 1 ∨ x.state = 2 ∨ x.state = 5
  low : w.now ≤ lastF m now
  top : now ≤ 1000000000000
  done : ∀ (k : Nat) x, (k : Int) < n - 1 → w.svs[k]? = some x → x.state = 5

theorem setSt_up {m : List OpV} {w : WS} {now n : Int} (I : UpI m w now n) (hn : 1 ≤ n ∧ n ≤ w.svs.length) :
    UpI m { w with now := lastF m now, svs := setSt w.svs n 5 } (lastF m now) (n + 1) := by
  have hge := lastF_ge m (lastF m now)
  have hle := lastF_le m I.top
  have h0 := lastF_ge m now
  have hnow := I.ok.now
  have hnw := I.low
  refine ⟨⟨by simp only [setSt_len]; exact I.ok.n1, by simp only [setSt_len]; exact I.ok.n8, I.ok.most, I.ok.within, I.ok.base, I.ok.cap, ⟨by simp only; omega, hle⟩, I.ok.delay, I.ok.times, I.ok.rule⟩, I.times, I.given, ?_, hge, hle, ?_⟩
  · refine mem_of_get fun k x hx => ?_
    rw [setSt_get] at hx
    cases hl : w.svs[k]? with
    | none => rw [hl] at hx; cases hx
    | some y =>
      rw [hl] at hx
      simp only [Option.map_some, Option.some.injEq] at hx
      subst hx
      split
      · simp
      · exact I.st y (List.mem_of_getElem? hl)
  · intro k x hk hx
    simp only [setSt_get] at hx
    cases hl : w.svs[k]? with
    | none => rw [hl] at hx; cases hx
    | some y =>
      rw [hl] at hx
      simp only [Option.map_some, Option.some.injEq] at hx
      subst hx
      split
      · rfl
      · rename_i hne
        exact I.done k y (by omega) hl

theorem UpI.next {m : List OpV} {w : WS} {now n : Int} (I : UpI m w now n) (h : ∀ x, 1 ≤ n → w.svs[(n - 1).toNat]? = some x → x.state = 5) (h1 : 1 ≤ n) : UpI m w now (n + 1) :=
  ⟨I.ok, I.times, I.given, I.st, I.low, I.top, fun k x hk hx => by
    by_cases e : (k : Int) < n - 1
    · exact I.done k x e hx
    · have : k = (n - 1).toNat := by omega
      subst this
      exact h x h1 hx⟩

theorem ends_second {B i j : Nat} {w : WS} {h0 g0 : Hp} {vl : Value} {ops : List OpV} {up : Bool} (hO : OpsIn i j B h0 vl ops) (I : In B i j w h0 g0) (hw : WOk w) (hu : up = true → UpI (ops.take 100) w 0 1) :
    ∃ E1 g1 w1, EnvLe [(15, .bool up), (5, .pointer (some ⟨i, 0, none⟩))] E1 ∧
      LRun Try.prog 132 false (loopN Try.f5 2) [(16, .int .i64 1), (15, .bool up), (7, .int .i64 0), (5, .pointer (some ⟨i, 0, none⟩)), (1, vl)] g0 (.exit 4) E1 g1 ∧ In B i j w1 h0 g1 ∧ WOk w1 ∧ (up = true → overOf w1 = true) := by
  obtain ⟨x', E1, g1, hl1, rfl, w1, q1, q2, q3, q4⟩ := loop_inv (P := Try.prog) (n := 132) (rd := false) (b := loopN Try.f5 2)
    (Q := fun x' E1 g1 => x' = .exit 4 ∧ ∃ w1, EnvLe [(15, .bool up), (5, .pointer (some ⟨i, 0, none⟩))] E1 ∧ In B i j w1 h0 g1 ∧ WOk w1 ∧ (up = true → overOf w1 = true))
    (fun mm E g => ∃ (n : Int) (now : Int) (w : WS), 1 ≤ n ∧ n ≤ 9 ∧ mm = (9 - n).toNat ∧ EnvLe [(16, .int .i64 n), (15, .bool up), (7, .int .i64 now), (5, .pointer (some ⟨i, 0, none⟩)), (1, vl)] E ∧ In B i j w h0 g ∧ WOk w ∧ (up = true → UpI (ops.take 100) w now n))
    (fun mm E g ⟨n, now, w, n1, n9, hmm, k3, k4, k5, k6⟩ => by
      have ak1 : IntKind.i64.wrap (n + 1) = n + 1 := wrap_id (by omega) (by omega)
      by_cases e : n = 9
      · right
        subst e
        obtain ⟨E2, q1, q2⟩ := pvC 0 k3 (w20p.ec_out i 9 0 now 0 0 0 0 (.bool false) vl g g g g up) ⟨by simp [Asm.holds, cmpB], trivial⟩
        refine ⟨_, E2, _, by simp, q2, rfl, w, .trans (.add (.add (.nil _) rfl) rfl) q1, k4, k5, fun hu => ?_⟩
        have U := k6 hu
        refine over_of (mem_of_get fun k x hx => U.done k x ?_ hx)
        have := get_lt' hx
        have := k5.n8
        omega
      · left
        obtain ⟨t, a, ht⟩ := k4.at'
        have pre : (Asm.cmp .leq n 8 true).holds Try.prog := by simp [Asm.holds, cmpB]; omega
        have ar : (Asm.arith .add .i64 n 1 (n + 1)).holds Try.prog := by simp only [Asm.holds, arithI, ak1]
        have rs := state_run a k5 n
        cases up with
        | false =>
          obtain ⟨E2, q1, q2⟩ := pvC 0 k3 (w20p.ec_no i n (n + 1) now (stateOf w n).1 (stateOf w n).2 0 0 (.bool false) vl g g g g) ⟨pre, rs, ar, trivial⟩
          exact ⟨(9 - (n + 1)).toNat, E2, _, by omega, q2, n + 1, now, w, by omega, by omega, rfl, .trans (.add (.add (.add (.add (.add (.nil _) rfl) rfl) rfl) rfl) rfl) q1, k4, k5, fun h => by cases h⟩
        | true =>
          have U := k6 rfl
          -- nothing to end
          have gone : (stateOf w n).1 ≠ 1 → (stateOf w n).1 ≠ 2 → (stateOf w n).1 ≠ 3 → (stateOf w n).1 ≠ 4 → (∀ x, 1 ≤ n → w.svs[(n - 1).toNat]? = some x → x.state = 5) →
              ∃ m' E1 h1, m' < mm ∧ CRun Try.prog 132 false (loopN Try.f5 2) E g .normal E1 h1 ∧ ∃ (n : Int) (now : Int) (w : WS), 1 ≤ n ∧ n ≤ 9 ∧ m' = (9 - n).toNat ∧
                EnvLe [(16, .int .i64 n), (15, .bool true), (7, .int .i64 now), (5, .pointer (some ⟨i, 0, none⟩)), (1, vl)] E1 ∧ In B i j w h0 h1 ∧ WOk w ∧ (true = true → UpI (ops.take 100) w now n) := fun e1 e2 e3 e4 hx => by
            obtain ⟨E2, q1, q2⟩ := pvC 0 k3 (w20p.ec_gone i n (n + 1) now (stateOf w n).1 (stateOf w n).2 0 0 (.bool false) vl g g g g) ⟨pre, rs, eqF e4, eqF e3, neT e1, neT e2, ar, trivial⟩
            exact ⟨(9 - (n + 1)).toNat, E2, _, by omega, q2, n + 1, now, w, by omega, by omega, rfl, .trans (.add (.add (.add (.add (.add (.nil _) rfl) rfl) rfl) rfl) rfl) q1, k4, k5, fun _ => U.next hx n1⟩
          by_cases hn : n ≤ w.svs.length
          · obtain ⟨x, hx⟩ : ∃ x, w.svs[(n - 1).toNat]? = some x := ⟨_, List.getElem?_eq_getElem (by omega)⟩
            have hst := stateOf_of ⟨n1, hn⟩ hx
            have hs := U.st x (List.mem_of_getElem? hx)
            by_cases h5 : x.state = 5
            · have h1 : (stateOf w n).1 = 5 := by rw [hst]; exact h5
              exact gone (by omega) (by omega) (by omega) (by omega) (fun y _ hy => by rw [hx] at hy; cases hy; exact h5)
            · have hs' : x.state = 1 ∨ x.state = 2 := by omega
              have hle := lastF_le (ops.take 100) U.top
              have hnow := U.low
              have hlate : lateB w (lastF (ops.take 100) now) = false := by simp [lateB]; omega
              obtain ⟨f1, f2, f3, f4⟩ := ended_up U.given hlate ⟨n1, hn⟩ hx hs'
              obtain ⟨g2, r20, K2⟩ := last_run (hO.at k4.keep) now
              have I2 := k4.grow K2
              obtain ⟨t2, a2, ht2⟩ := I2.at'
              obtain ⟨g3, r15, a3, K3⟩ := started_run a2 k5 n (lastF (ops.take 100) now)
              rw [f3] at r15
              rw [f4] at a3
              have I3 : In B i j w h0 g3 := I2.next ht2 a3 (K3.mono fun q _ e => by rcases e with e | e; exact .inl e; exact .inr (.inl e)) (fun q e => .inl e)
              obtain ⟨v, g4, t4, r14, a4, _, K4, ht4⟩ := ended_run text_run a3 k5 U.times n 1 (lastF (ops.take 100) now) ⟨#[120]⟩
              rw [f2] at r14
              rw [f1] at a4
              have I4 := I3.next ht2 a4 K4 ht4
              have U4 := setSt_up U ⟨n1, hn⟩
              have h1 : (stateOf w n).1 = x.state := by rw [hst]
              rcases hs' with hs' | hs'
              · obtain ⟨E2, q1, q2⟩ := pvC 0 k3 (w20p.ec_runs i n (n + 1) now (stateOf w n).1 (stateOf w n).2 (lastF (ops.take 100) now) 6 v vl g g2 g3 g4)
                  ⟨pre, rs, eqF (by omega), eqF (by omega), neF (by omega), r20, r15, eqF (by omega), r14, neF rfl, ar, trivial⟩
                exact ⟨(9 - (n + 1)).toNat, E2, _, by omega, q2, n + 1, _, _, by omega, by omega, rfl, .trans (.add (.add (.add (.add (.add (.nil _) rfl) rfl) rfl) rfl) rfl) q1, I4, U4.ok, fun _ => U4⟩
              · obtain ⟨E2, q1, q2⟩ := pvC 0 k3 (w20p.ec_stops i n (n + 1) now (stateOf w n).1 (stateOf w n).2 (lastF (ops.take 100) now) 6 v vl g g2 g3 g4)
                  ⟨pre, rs, eqF (by omega), eqF (by omega), neT (by omega), neF (by omega), r20, r15, eqF (by omega), r14, neF rfl, ar, trivial⟩
                exact ⟨(9 - (n + 1)).toNat, E2, _, by omega, q2, n + 1, _, _, by omega, by omega, rfl, .trans (.add (.add (.add (.add (.add (.nil _) rfl) rfl) rfl) rfl) rfl) q1, I4, U4.ok, fun _ => U4⟩
          · have h1 : (stateOf w n).1 = 0 := by simp only [stateOf, if_pos (show n < 1 ∨ n > (w.svs.length : Int) by omega)]
            exact gone (by omega) (by omega) (by omega) (by omega) (fun y _ hy => by have := get_lt' hy; omega))
    8 _ g0 ⟨1, 0, w, by omega, by omega, by decide, EnvLe.refl _, I, hw, hu⟩
  exact ⟨E1, g1, w1, q1, hl1, q2, q3, q4⟩

theorem body5 : Try.f5.body = some (chainT [partC Try.f5 [0], partC Try.f5 [1, 0], partC Try.f5 [1, 1, 0], partC Try.f5 [1, 1, 1, 0], partC Try.f5 [1, 1, 1, 1, 0]] (partC Try.f5 [1, 1, 1, 1, 1])) := by kernel_rfl

theorem each_st {w0 w : WS} (h : Each WH w0.svs w.svs) (h0 : ∀ x ∈ w0.svs, 1 ≤ x.state ∧ x.state ≤ 5) : ∀ x ∈ w.svs, 1 ≤ x.state ∧ x.state ≤ 5 := mem_of_get fun k y hy => by
  have hk := get_lt' hy
  rw [h.1] at hk
  have hx := List.getElem?_eq_getElem hk
  exact (h.2 k _ y hx hy).2 (h0 _ (List.mem_of_getElem? hx))

theorem ends_run {h : Hp} {v vl : Value} {l : List SvV} {ops : List OpV} (s : SpecV) (hS : SlAt h v l) (hO : OpsAt h vl ops) : ∃ h', Run Try.prog 5 [.agg (s.cells v).toArray, vl] h (.bool true) h' := by
  obtain ⟨r, m, wi, ba, ca⟩ := s
  let S : Value → List Value := fun v => SpecV.cells ⟨r, m, wi, ba, ca⟩ v
  let hA : Hp := h ++ [AObj.cells (S v) true]
  have KA : Keep (fun _ => False) h hA := Keep.push _ _ _
  have gb : hA[h.length]? = some (.cells (S v) true) := get_new h _
  have ld0 : (Asm.ldn (.push (.is h) (.cells (S v) true)) h.length 0 6 (S v)).holds Try.prog := a_ldn gb (by simp [S, SpecV.cells]) rfl
  obtain ⟨v', hB, r1, SB, KB⟩ := clipped_run ⟨r, m, wi, ba, ca⟩ (hS.keep KA)
  have hBl := KB.1
  simp [hA] at hBl
  rcases new_run ⟨r, m, wi, ba, ca⟩ SB with ⟨e, hD, rN, KN⟩ | ⟨e, i, j, hD, rN, KN, W, hi, hj⟩
  · exact ⟨hD, pvF 0 Try.func5 (w20p.en_bad h.length r m wi ba ca _ v v' vl h hB hD) ⟨rfl, ld0, r1, rN, neT e, awake_run _, trivial⟩⟩
  · obtain ⟨hw0, hwl, hh, hall⟩ := newW_ok e
    let w0 := newW ⟨r, m, wi, ba, ca⟩ (clipF l)
    have I0 : In hD.length i j w0 hD hD := ⟨⟨none, W, fun q e => by cases e⟩, .refl _ _, Nat.le_refl _⟩
    have hDl := KN.1
    have nf : ∀ q, q < hB.length → ¬ fpB i j hD.length q := fun q hq e => by rcases e with e | e | e <;> omega
    have pl : plainC (loopN Try.f5 0) = true := by kernel_rfl
    have hOI : OpsIn i j hD.length hD vl ops := by
      rcases hO with h1 | ⟨o, rwo, h1, h2⟩
      · exact .inl h1
      · have := get_lt h2
        exact .inr ⟨o, rwo, h1, KN.2 _ _ (KB.2 _ _ (KA.2 _ _ h2 id) id) id, nf o (by omega)⟩
    have pre : ∃ E1 g1, EnvLe [(7, .int .i64 0), (5, .pointer (some ⟨i, 0, none⟩)), (1, vl)] E1 ∧
        CRun Try.prog 132 false (chain [partC Try.f5 [0], partC Try.f5 [1, 0], partC Try.f5 [1, 1, 0], partC Try.f5 [1, 1, 1, 0], partC Try.f5 [1, 1, 1, 1, 0]]) (enterE 0 [.agg (S v).toArray, vl]) h .normal E1 g1 ∧ In hD.length i j (foldW w0 (ops.take 100)) hD g1 := by
      rcases hOI with ⟨rfl, hnil⟩ | ⟨o, rwo, rfl, ho, hno⟩
      · obtain ⟨E2, q1, q2⟩ := pvC 0 (EnvLe.refl _) (w20p.en_pren h.length i r m wi ba ca v v' h hB hD hD) ⟨rfl, ld0, r1, rN, neF rfl, by simp [Asm.holds], by simp [Asm.holds, cmpB], trivial⟩
        refine ⟨E2, _, .trans (.add (.add (.add (.nil _) rfl) rfl) rfl) q1, q2, ?_⟩
        rw [hnil]; exact I0
      · have htl : (ops.take 100).length = min ops.length 100 := by simp [Nat.min_comm]
        obtain ⟨E1, g1, e1, hl1, I1⟩ := ends_loop (vl := .slice (some ⟨o, 0, none⟩) ops.length 5) (m := ops.take 100) (l := ops) (vs := .slice (some ⟨o, 0, none⟩) (ops.take 100).length 5) (by omega) (fun q x hx => by
          rw [List.getElem?_take] at hx
          split at hx
          · exact hx
          · cases hx) (.inr ⟨o, rwo, rfl, ho, hno⟩) I0 hw0 rfl
        rw [htl] at hl1
        obtain ⟨E2, q1, q2⟩ := pvC 0 (EnvLe.refl _) (w20p.en_pres h.length i r m wi ba ca v v' h hB hD g1 o ops.length (min ops.length 100))
          ⟨rfl, ld0, r1, rN, neF rfl, .inr ⟨rfl, by simp only [Int.ofNat_eq_natCast]; split <;> omega⟩, a_cut (by omega), a_loop pl (.add (.add (.add (.add (.add (.add (.nil _) rfl) rfl) rfl) rfl) rfl) rfl) e1 hl1, trivial⟩
        exact ⟨E2, _, q1, q2, I1⟩
    obtain ⟨E1, g1, e1, c1, I1⟩ := pre
    have G := foldW_good hw0 rfl (ops.take 100) (by simp; omega)
    have hG := G.times
    have hstates : ∀ x ∈ w0.svs, 1 ≤ x.state ∧ x.state ≤ 5 := fun x hx => by
      simp only [w0, newW, List.mem_map] at hx
      obtain ⟨y, _, rfl⟩ := hx
      simp [sv0]
    have hst := each_st G.each hstates
    have hnd : NoDue (foldW w0 (ops.take 100)) := fold_noDue _ (fun hg => by cases hg)
    have hnow : (foldW w0 (ops.take 100)).now ≤ lastF (ops.take 100) 0 := fold_now (w := w0) rfl (ops.take 100) (ops.take 100) (fun o h => h) w0 (lastF_ge _ 0)
    obtain ⟨w, ew⟩ : ∃ w, w = foldW w0 (ops.take 100) := ⟨_, rfl⟩
    rw [← ew] at I1 G hG hst hnd hnow
    obtain ⟨t1, a1, ht1⟩ := I1.at'
    obtain ⟨os, r16⟩ := over_run a1 G.ok
    have I2 := I1.grow (Keep.app (fun _ => False) g1 os)
    have htt : (ops.take 100).length ≤ 100 := by simp; omega
    have hU : w.given = true → UpI (ops.take 100) w 0 1 := fun hu => ⟨G.ok, by omega, hu, fun x hx => by have h1 := hst x hx; have h2 := hnd hu x hx; omega, hnow, by omega, fun k x hk hx => by omega⟩
    obtain ⟨E3, g3, w3, e3, hl3, I3, hw3, hov⟩ := ends_second (up := w.given) hOI I2 G.ok hU
    obtain ⟨t3, a3, _⟩ := I3.at'
    obtain ⟨os3, r16'⟩ := over_run a3 hw3
    have pl2 : plainC (loopN Try.f5 2) = true := by kernel_rfl
    have fin : ∃ E4 g4, EnvLe [(4, .bool true)] E4 ∧ CRun Try.prog 132 false (partC Try.f5 [1, 1, 1, 1, 1]) E1 g1 .ret E4 g4 := by
      cases hu : w.given with
      | true =>
        rw [hu] at r16 e3 hl3 hov
        rw [hov rfl] at r16'
        obtain ⟨E4, q1, q2⟩ := pvC 0 e1 (w20p.er_t i (overOf w) w3.given true 0 [] vl g1 _ g3 _)
          ⟨r16, a_loop pl2 (.add (.add (.add (.add (.add (.nil _) rfl) rfl) rfl) rfl) rfl) e3 hl3, r16', awake_run _, trivial⟩
        exact ⟨E4, _, .trans (.add (.nil _) rfl) q1, q2⟩
      | false =>
        rw [hu] at r16 e3 hl3 hov
        obtain ⟨E4, q1, q2⟩ := pvC 0 e1 (w20p.er_f i (overOf w) w3.given (overOf w3) 0 [] vl g1 _ g3 _)
          ⟨r16, a_loop pl2 (.add (.add (.add (.add (.add (.nil _) rfl) rfl) rfl) rfl) rfl) e3 hl3, r16', awake_run _, trivial⟩
        exact ⟨E4, _, .trans (.add (.nil _) rfl) q1, q2⟩
    obtain ⟨E4, g4, e4, c4⟩ := fin
    exact ⟨g4, Run.code Try.func5 body5 (.inr rfl) (CRunChain c1 c4) (evResults_one rfl (e4 4 _ rfl))⟩

end Go.Proofs.Ytkkhokgpcifckaa.wd
