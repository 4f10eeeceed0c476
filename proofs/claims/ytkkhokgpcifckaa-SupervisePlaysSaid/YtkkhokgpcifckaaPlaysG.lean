import Derived.Test.YtkkhokgpcifckaaPlaysF
set_option linter.unusedVariables false
namespace Go.Proofs.Ytkkhokgpcifckaa.wd
open Go Go.Ev
set_option maxRecDepth 100000
set_option linter.constructorNameAsVariable false
set_option linter.unusedVariables false

section
variable {h : Hp} {i j : Nat} {t : Option Nat} {w : WS}
/-- 'Copy': a warden of its own, with the same state. -/
theorem copy_run2 (a : WAt h i j t w) (hw : WOk w) : ∃ c j2 t2 h', Run Try.prog 21 [.pointer (some ⟨i, 0, none⟩)] h (.pointer (some ⟨c, 0, none⟩)) h' ∧ WAt h' c j2 t2 w ∧ Keep (fun _ => False) h h' ∧ (∀ q, fpW c j2 t2 q → h.length ≤ q) := by
  have n8 := hw.n8
  have n1 := hw.n1
  have hne : w.svs ≠ [] := fun e => by rw [e] at n1; simp at n1
  have htm := hw.times
  let z : AObj := .cells [.int .i64 0, .int .i64 0, .int .i64 0, .int .i64 0, .int .i64 0, .slice none 0 0, .slice none 0 0, .int .i64 0, .slice none 0 0, .int .i64 0, .bool false] true
  let hA : Hp := (h ++ [z]).set h.length (.cells (wCells w j t) true)
  have KA : Keep (fun _ => False) h hA := (Keep.push (fun _ => False) h z).trans_new (Keep.set (fp := fun q => q = h.length) rfl _) (fun q hq e => by omega)
  have hlA : hA.length = h.length + 1 := by simp [hA]
  have aA := a.keep KA (fun q _ e => e.elim)
  have hcA : hA[h.length]? = some (.cells (wCells w j t) true) := get_set_eq (get_new h _)
  obtain ⟨j2, h1, r1, g1, l1, K1⟩ := clone35_run aA.svs hne (by omega)
  have a1 := aA.keep K1 (fun q _ e => e.elim)
  have hc1 := K1.2 _ _ hcA (fun e => e)
  have hj2 : j2 < h1.length := get_lt g1
  have fin : ∀ (t2 : Option Nat) (h2 : Hp), Keep (fun _ => False) h1 h2 → (∀ q, t2 = some q → h1.length ≤ q) → ((t2 = none ∧ w.times = []) ∨ ∃ q, t2 = some q ∧ h2[q]? = some (.cells (w.times.map (.int .i64)) true)) →
      WAt ((h2.set h.length (.cells (wCells w j2 t) true)).set h.length (.cells (wCells w j2 t2) true)) h.length j2 t2 w ∧ Keep (fun _ => False) h ((h2.set h.length (.cells (wCells w j2 t) true)).set h.length (.cells (wCells w j2 t2) true)) ∧ (∀ q, fpW h.length j2 t2 q → h.length ≤ q) := by
    intro t2 h2 K2 hb ht
    have hc2 := K2.2 _ _ hc1 (fun e => e)
    have hj2' := K2.2 _ _ g1 (fun e => e)
    refine ⟨⟨get_set_eq (get_set_eq hc2), get_set_ne (get_set_ne hj2' (by omega)) (by omega), ?_, by omega⟩, ?_, ?_⟩
    · rcases ht with q1 | ⟨q, q1, q2⟩
      · exact .inl q1
      · have := hb q q1
        exact .inr ⟨q, q1, get_set_ne (get_set_ne q2 (by omega)) (by omega), by omega, by omega⟩
    · exact ((KA.trans K1).trans K2).trans_new ((Keep.set (fp := fun q => q = h.length) rfl _).trans (Keep.set (fp := fun q => q = h.length) rfl _)) (fun q hq e => by omega)
    · rintro q (e | e | e)
      · omega
      · omega
      · have := hb q e; have := K1.1; omega
  have hl0 := a_ldn (P := Try.prog) (s := .is h) (d := 0) (k := 11) (l := wCells w j t) a.obj (by simp [wCells]) (by simp [wCells])
  have st0 := a_st (P := Try.prog) (s := .push (.is h) z) (i := h.length) (d := 0) (l := wCells w j t) (c' := wCells w j t) (get_new h z) (by simp [wCells]) (by simp [wCells])
  rcases a.tms with ⟨rfl, hnil⟩ | ⟨q, rfl, hq, hqi, hqj⟩
  · have h8 : (wCells w j none)[8]? = some (.slice none 0 0) := rfl
    have hc2 := hc1
    obtain ⟨w1, w2, w3⟩ := fin none h1 (Keep.refl _ _) (fun q e => by cases e) (.inl ⟨rfl, hnil⟩)
    refine ⟨h.length, j2, none, _, pvF 0 Try.func21 (w13p.cp_nil i j w.svs.length h.length j2 w.rule w.most w.within w.base w.cap w.now w.delay w.given (wCells w j2 none) (wCells w j2 none) h h1 h1)
      ⟨hl0, rfl, st0, stat21, a_again1 agg32 a1.obj h8 rfl, a_again1 agg32 aA.obj h8 rfl, a_again1 agg32 a1.obj h8 rfl, a_ld1 aA.obj rfl, r1, a_ld1 a1.obj h8, clone36_nil, a_st hc1 (by simp [wCells]) rfl, a_st (get_set_eq hc1) (by simp [wCells]) rfl, trivial⟩, w1, w2, w3⟩
  · have h8 : (wCells w j (some q))[8]? = some (.slice (some ⟨q, 0, none⟩) w.times.length 1) := rfl
    by_cases ht : w.times = []
    · have hq1 := K1.2 _ _ (KA.2 _ _ hq (fun e => e)) (fun e => e)
      have hm0 : w.times.length = 0 := by rw [ht]; rfl
      have r2 : Run Try.prog 36 [.slice (some ⟨q, 0, none⟩) w.times.length 1] h1 (.slice (some ⟨h1.length, 0, none⟩) w.times.length 1) (h1 ++ [AObj.cells [] true]) := by
        rw [hm0]
        exact pvF 0 Try.func36 (w29p.cl36_none q 0 h1.length h1) ⟨rfl, ⟨rfl, _, cells_of (get_push hq1), by omega⟩, trivial⟩
      have K2 : Keep (fun _ => False) h1 (h1 ++ [AObj.cells [] true]) := Keep.push _ _ _
      have hc2 := K2.2 _ _ hc1 (fun e => e)
      obtain ⟨w1, w2, w3⟩ := fin (some h1.length) (h1 ++ [AObj.cells [] true]) K2 (fun q e => by cases e; exact Nat.le_refl _) (.inr ⟨h1.length, rfl, by rw [ht]; exact get_new h1 _⟩)
      refine ⟨h.length, j2, some h1.length, _, pvF 0 Try.func21 (w13p.cp_some i j w.svs.length h.length j2 q w.times.length h1.length w.rule w.most w.within w.base w.cap w.now w.delay w.given (wCells w j2 (some q)) (wCells w j2 (some h1.length)) h h1 (h1 ++ [AObj.cells [] true]))
        ⟨hl0, rfl, st0, stat21, a_again1 agg32 a1.obj h8 rfl, a_again1 agg32 aA.obj h8 rfl, a_again1 agg32 a1.obj h8 rfl, a_ld1 aA.obj rfl, r1, a_ld1 a1.obj h8, r2, a_st hc2 (by simp [wCells]) rfl, a_st (get_set_eq hc2) (by simp [wCells]) rfl, trivial⟩, w1, w2, w3⟩
    · have hq1 := K1.2 _ _ (KA.2 _ _ hq (fun e => e)) (fun e => e)
      obtain ⟨t2, h2, r2, g2, l2, K2⟩ := clone36_run hq1 ht (by omega)
      have hc2 := K2.2 _ _ hc1 (fun e => e)
      obtain ⟨w1, w2, w3⟩ := fin (some t2) h2 K2 (fun q e => by cases e; exact l2) (.inr ⟨t2, rfl, g2⟩)
      refine ⟨h.length, j2, some t2, _, pvF 0 Try.func21 (w13p.cp_some i j w.svs.length h.length j2 q w.times.length t2 w.rule w.most w.within w.base w.cap w.now w.delay w.given (wCells w j2 (some q)) (wCells w j2 (some t2)) h h1 h2)
        ⟨hl0, rfl, st0, stat21, a_again1 agg32 a1.obj h8 rfl, a_again1 agg32 aA.obj h8 rfl, a_again1 agg32 a1.obj h8 rfl, a_ld1 aA.obj rfl, r1, a_ld1 a1.obj h8, r2, a_st hc2 (by simp [wCells]) rfl, a_st (get_set_eq hc2) (by simp [wCells]) rfl, trivial⟩, w1, w2, w3⟩


end

/-! ### alike, Equal -/

theorem leaves47 : leaves Try.prog 8 47 = some (3, [(0, .int .i64), (1, .int .i64), (2, .int .i64)]) := by kernel_rfl
theorem guard47 : Try.prog.eqGuardType Try.prog.depth 47 = false := by kernel_rfl
theorem aeq47 (a b c : Int) : (Asm.aeq .neq 47 #[.int .i64 a, .int .i64 b, .int .i64 c] #[.int .i64 a, .int .i64 b, .int .i64 c] false).holds Try.prog := by
  refine ⟨rfl, rfl, .inr ⟨rfl, ?_⟩⟩
  simp [aggEq, leaves47, guard47, eqOffs, leafEq]

/-- A row of orders of the law's own. -/
def OneAt (g : Hp) (F : Nat → Prop) (v : Value) (L : List Sv) : Prop := (v = .slice none 0 0 ∧ L = []) ∨ ∃ u, v = .slice (some ⟨u, 0, none⟩) L.length 3 ∧ g[u]? = some (.cells (svC L) true) ∧ ¬ F u ∧ L ≠ []

theorem OneAt.keep {g g' : Hp} {F fp : Nat → Prop} {v : Value} {L : List Sv} (a : OneAt g F v L) (K : Keep fp g g') (hf : ∀ q, fp q → F q) : OneAt g' F v L := by
  rcases a with h1 | ⟨u, h1, h2, h3, h4⟩
  · exact .inl h1
  · exact .inr ⟨u, h1, K.2 _ _ h2 fun e => h3 (hf u e), h3, h4⟩
theorem OneAt.mono {g : Hp} {F F' : Nat → Prop} {v : Value} {L : List Sv} (a : OneAt g F v L) (hf : ∀ q, q < g.length → F' q → F q) : OneAt g F' v L := by
  rcases a with h1 | ⟨u, h1, h2, h3, h4⟩
  · exact .inl h1
  · exact .inr ⟨u, h1, h2, fun e => h3 (hf u (get_lt h2) e), h4⟩

/-- One more reply behind the orders (of which the warden with the place p is turned; F: what else may not be touched). -/
theorem WAt.away {g g' : Hp} {i j : Nat} {t : Option Nat} {w : WS} {fp : Nat → Prop} (a : WAt g i j t w) (K : Keep fp g g') (hd : ∀ q, fpW i j t q → ¬ fp q) : WAt g' i j t w := a.keep K fun q _ e r => hd q r e

/-- Three wardens apart from each other. -/
structure Tri (g : Hp) (B : Nat) (i j : Nat) (t : Option Nat) (w : WS) (c1 j1 : Nat) (t1 : Option Nat) (v : WS) (c2 j2 : Nat) (t2 : Option Nat) (u : WS) : Prop where
  a : WAt g i j t w
  b : WAt g c1 j1 t1 v
  c : WAt g c2 j2 t2 u
  ab : ∀ q, fpW i j t q → ¬ fpW c1 j1 t1 q
  ac : ∀ q, fpW i j t q → ¬ fpW c2 j2 t2 q
  bc : ∀ q, fpW c1 j1 t1 q → ¬ fpW c2 j2 t2 q

def fpT (i j : Nat) (t : Option Nat) (c1 j1 : Nat) (t1 : Option Nat) (c2 j2 : Nat) (t2 : Option Nat) (q : Nat) : Prop := fpW i j t q ∨ fpW c1 j1 t1 q ∨ fpW c2 j2 t2 q

theorem Tri.keep {g g' : Hp} {B i j c1 j1 c2 j2 : Nat} {t t1 t2 : Option Nat} {w v u : WS} (T : Tri g B i j t w c1 j1 t1 v c2 j2 t2 u) {fp : Nat → Prop} (K : Keep fp g g') (hf : ∀ q, fp q → ¬ fpT i j t c1 j1 t1 c2 j2 t2 q) : Tri g' B i j t w c1 j1 t1 v c2 j2 t2 u :=
  ⟨T.a.away K fun q e r => hf q r (.inl e), T.b.away K fun q e r => hf q r (.inr (.inl e)), T.c.away K fun q e r => hf q r (.inr (.inr e)), T.ab, T.ac, T.bc⟩
theorem Tri.lt {g : Hp} {B i j c1 j1 c2 j2 : Nat} {t t1 t2 : Option Nat} {w v u : WS} (T : Tri g B i j t w c1 j1 t1 v c2 j2 t2 u) {q : Nat} (e : fpT i j t c1 j1 t1 c2 j2 t2 q) : q < g.length := by
  rcases e with e | e | e
  · exact T.a.lts q e
  · exact T.b.lts q e
  · exact T.c.lts q e
end Go.Proofs.Ytkkhokgpcifckaa.wd

namespace Go.Proofs.Ytkkhokgpcifckaa.rf
open Go Go.Ev Go.Proofs.Ytkkhokgpcifckaa.wd
set_option maxRecDepth 100000
set_option linter.constructorNameAsVariable false
set_option linter.unusedVariables false

variable {h h' g g' : Hp} {o p q : Nat} {t : Option Nat} {w : WS}

def zerosC (k : Nat) : List Value := iC (List.replicate k 0)
theorem mk_zeros (h : Hp) {n : Nat} (hn : 1 ≤ n ∧ n ≤ 8) : evMakeSlice Try.prog h 32 (Int.ofNat n) (Int.ofNat n) = some (.slice (some ⟨h.length, 0, none⟩) n 1, h ++ [.cells (zerosC n) true]) := by
  have : n = 1 ∨ n = 2 ∨ n = 3 ∨ n = 4 ∨ n = 5 ∨ n = 6 ∨ n = 7 ∨ n = 8 := by omega
  rcases this with rfl | rfl | rfl | rfl | rfl | rfl | rfl | rfl <;> (show evMakeSlice Try.prog h 32 _ _ = _; kernel_rfl)
theorem stat24 : statOk (drawN Try.f24 0) = true := by kernel_rfl
def z12 : List Value := [.int .i64 0, .int .i64 0, .int .i64 0, .int .i64 0, .int .i64 0, .slice none 0 0, .slice none 0 0, .slice none 0 0, .int .i64 0, .slice none 0 0, .int .i64 0, .bool false]

theorem newR_run {v : Value} {l : List SvV} (s : SpecV) (a : SlAt h v l) :
    (checkF s l ≠ 0 ∧ ∃ h', Run Try.prog 24 [.agg (s.cells v).toArray] h (.tuple #[.agg z12.toArray, .int .i64 (checkF s l)]) h' ∧ Keep (fun _ => False) h h') ∨
    (checkF s l = 0 ∧ ∃ o p q h', Run Try.prog 24 [.agg (s.cells v).toArray] h (.tuple #[.agg (rC o p q none (newW s l)).toArray, .int .i64 0]) h' ∧ Keep (fun _ => False) h h' ∧ RAt h' o p q none (newW s l) ∧ h.length ≤ p ∧ h.length ≤ q ∧ v = .slice (some ⟨o, 0, none⟩) l.length 3) := by
  obtain ⟨r, m, wi, ba, ca⟩ := s
  have K0 : Keep (fun _ => False) h (h ++ [.cells (SpecV.cells ⟨r, m, wi, ba, ca⟩ v) true] ++ [zR]) := (Keep.push _ _ _).trans (Keep.push _ _ _)
  have g0 : (h ++ [AObj.cells (SpecV.cells ⟨r, m, wi, ba, ca⟩ v) true] ++ [zR])[h.length]? = some (.cells (SpecV.cells ⟨r, m, wi, ba, ca⟩ v) true) := get_push (get_new h _)
  have gc0 : (h ++ [AObj.cells (SpecV.cells ⟨r, m, wi, ba, ca⟩ v) true] ++ [zR])[h.length + 1]? = some zR := get_new' _ (by simp)
  have l2 : (Asm.len (.push (.is h) (.cells (SpecV.cells ⟨r, m, wi, ba, ca⟩ v) true)) (h.length + 1)).holds Try.prog := by simp [Asm.holds, SH.den]
  obtain ⟨g2, hc, K2⟩ := checkR_run ⟨r, m, wi, ba, ca⟩ (a.keep K0)
  have gc2 := K2.2 _ _ gc0 id
  have ge := K2.2 _ _ g0 id
  have hg2 := K2.1
  simp at hg2
  by_cases e : checkF ⟨r, m, wi, ba, ca⟩ l = 0
  · right
    refine ⟨e, ?_⟩
    have hh : headOk ⟨r, m, wi, ba, ca⟩ l.length := by
      unfold checkF at e
      split at e
      · rename_i hx; exact hx.1
      · cases e
    rw [e] at hc
    rcases a with ⟨rfl, rfl⟩ | ⟨o, rw, xs, rfl, ho, ha⟩
    · simp [headOk] at hh
    · have hn : 1 ≤ l.length ∧ l.length ≤ 8 := by have := hh; unfold headOk at this; omega
      have hol := get_lt ho
      let s : SpecV := ⟨r, m, wi, ba, ca⟩
      let SL : Value := .slice (some ⟨o, 0, none⟩) l.length 3
      let Q : Value := .slice (some ⟨g2.length, 0, none⟩) l.length 1
      let C0 := nwC s SL (.slice none 0 0) Q
      let g3 : Hp := ((g2 ++ [AObj.cells (zerosC l.length) true]) ++ [zR]).set (g2.length + 1) (.cells C0 true)
      have hw3 : g3[g2.length + 1]? = some (.cells C0 true) := get_set_eq (get_new' _ (by simp))
      have gz3 : g3[g2.length]? = some (.cells (zerosC l.length) true) := get_set_ne (get_push (get_new g2 _)) (by omega)
      have ge3 : g3[h.length]? = some (.cells (s.cells SL) true) := get_set_ne (get_push (get_push ge)) (by omega)
      have gc3 : g3[h.length + 1]? = some zR := get_set_ne (get_push (get_push gc2)) (by omega)
      have K3 : Keep (fun _ => False) h g3 := (((K0.trans K2).pushN _).pushN _).setN (by omega) _
      obtain ⟨E1, h1, p, e1, hl1, hw, hp, K4, hbp⟩ := nl_loop (c := h.length + 1) s hw3 hn
      have gc4 := K4.2 _ _ gc3 (by omega)
      have gz4 := K4.2 _ _ gz3 (by omega)
      have hl3 : g3.length = g2.length + 2 := by simp [g3]
      have hr : rC o p g2.length none (newW s l) = nwC s SL (.slice (some ⟨p, 0, none⟩) l.length 1) Q := by simp [rC, nwC, newW, s, SL, Q, tvA, tvL, tvZ]
      have hst : stC (newW s l).svs = onesC l.length := by
        have : (l.map sv0).map Sv.state = List.replicate l.length 1 := by
          rw [List.map_map]; exact List.eq_replicate_iff.2 ⟨by simp, fun b hb => by obtain ⟨y, _, rfl⟩ := List.mem_map.1 hb; rfl⟩
        simp only [stC, newW, onesC, this]
      have hat : atC (newW s l).svs = zerosC l.length := by
        have : (l.map sv0).map Sv.at' = List.replicate l.length 0 := by
          rw [List.map_map]; exact List.eq_replicate_iff.2 ⟨by simp, fun b hb => by obtain ⟨y, _, rfl⟩ := List.mem_map.1 hb; rfl⟩
        simp only [atC, newW, zerosC, this]
      have hwh : xs.map SvH.wh = (newW s l).svs.map Sv.when := by
        refine List.ext_getElem? fun k => ?_
        simp only [newW, List.getElem?_map]
        cases hx : xs[k]? with
        | none =>
          have : l[k]? = none := by rw [List.getElem?_eq_none_iff] at hx ⊢; rw [← ha.1]; exact hx
          simp [this]
        | some x =>
          have hkl := get_lt' hx
          rw [ha.1] at hkl
          have hy := List.getElem?_eq_getElem hkl
          simp [(ha.2 k x _ hx hy).2.1, sv0, hkl]
      let R := nwC s SL (.slice (some ⟨p, 0, none⟩) l.length 1) Q
      let HF : Hp := h1.set (h.length + 1) (.cells R true)
      have gF : ∀ {x y}, h1[x]? = some y → x ≠ h.length + 1 → HF[x]? = some y := fun hx hn => get_set_ne hx (Ne.symm hn)
      have KF : Keep (fun _ => False) h HF := (K3.trans_new K4 (fun x hx e => by omega)).setN (by omega) _
      refine ⟨o, p, g2.length, HF, ?_, KF, ⟨by rw [hst]; exact gF hp (by omega), by rw [hat]; exact gF gz4 (by omega), .inl ⟨rfl, rfl⟩, by omega, ⟨xs, rw, KF.2 _ _ ho id, hwh⟩, by omega, by omega, by simp⟩, by omega, by omega, rfl⟩
      rw [hr]
      exact pvF 0 Try.func24 (v3p.nw_ok h.length (h.length + 1) o l.length g2.length (g2.length + 1) p r m wi ba ca 0 [] (zerosC l.length) C0 R h g2 h1)
        ⟨rfl, l2, a_ldn g0 (by simp [SpecV.cells]) rfl, hc, Ev.neF rfl, stat24, a_ldn ge (by simp [SpecV.cells]) rfl, a_ld1 ge rfl, mk_zeros g2 hn, by simp [Asm.holds, SH.den], a_st (get_new' (h := g2 ++ [AObj.cells (zerosC l.length) true]) _ (by simp)) (by simp) rfl, a_ld1 ge3 rfl,
          a_loop (by kernel_rfl) (.add (.add (.add (.add (.nil _) rfl) rfl) rfl) rfl) e1 hl1, a_ldn hw (by simp [nwC]) (by rfl), a_st gc4 (by simp) (by rfl), a_ldn (get_set_eq gc4) (by simp [R, nwC]) (by rfl), trivial⟩
  · left
    refine ⟨e, g2.set (h.length + 1) (.cells z12 true), ?_, (K0.trans K2).setN (by omega) _⟩
    rcases a with ⟨rfl, rfl⟩ | ⟨o, rw, xs, rfl, ho, ha⟩
    · exact pvF 0 Try.func24 (v3p.nw_non h.length (h.length + 1) r m wi ba ca _ z12 h g2) ⟨rfl, l2, a_ldn g0 (by simp [SpecV.cells]) rfl, hc, Ev.neT e, a_st gc2 (by simp) rfl, a_ldn (get_set_eq gc2) (by simp [z12]) rfl, trivial⟩
    · exact pvF 0 Try.func24 (v3p.nw_nos h.length (h.length + 1) r m wi ba ca _ z12 h g2 o l.length) ⟨rfl, l2, a_ldn g0 (by simp [SpecV.cells]) rfl, hc, Ev.neT e, a_st gc2 (by simp) rfl, a_ldn (get_set_eq gc2) (by simp [z12]) rfl, trivial⟩

/-! ### SameOrders -/
theorem stat42 : statOk (drawN Try.f42 0) = true := by kernel_rfl
/-- A list of orders, or none. -/
def LAt (h : Hp) (v : Value) (L : List Sv) : Prop := (v = .slice none 0 0 ∧ L = []) ∨ ∃ x, v = .slice (some ⟨x, 0, none⟩) L.length 3 ∧ h[x]? = some (.cells (svC L) true) ∧ L ≠ []
theorem same_run {va vb : Value} {L : List Sv} (ha : LAt h va L) (hb : LAt h vb L) (hL : L.length ≤ 1000) : ∃ h', Run Try.prog 42 [va, vb] h (.bool true) h' ∧ Keep (fun _ => False) h h' := by
  rcases ha with ⟨rfl, e⟩ | ⟨x, rfl, gx, hne⟩
  · rcases hb with ⟨rfl, _⟩ | ⟨y, _, _, hne⟩
    · exact ⟨h, pvF 0 Try.func42 (v1p.sm_nil h) ⟨Ev.neF rfl, ltF (by omega), trivial⟩, .refl _ _⟩
    · exact absurd e hne
  · rcases hb with ⟨_, e⟩ | ⟨y, rfl, gy, _⟩
    · exact absurd e hne
    · obtain ⟨x', E1, h1, hl1, rfl, k1⟩ := loop_inv (P := Try.prog) (n := 26) (rd := false) (b := loopN Try.f42 0)
        (Q := fun x' E1 h1 => x' = .exit 0 ∧ Keep (fun _ => False) h h1)
        (fun m E g => ∃ k : Nat, k ≤ L.length ∧ m = L.length - k ∧ EnvLe [(14, .int .i64 k), (13, .int .i64 (Int.ofNat L.length)), (12, .slice (some ⟨x, 0, none⟩) L.length 3), (1, .slice (some ⟨y, 0, none⟩) L.length 3)] E ∧ Keep (fun _ => False) h g)
        (fun m E g ⟨k, k1, k2, k3, k4⟩ => by
          by_cases e : k = L.length
          · right
            obtain ⟨E2, q1, q2⟩ := pvC 0 k3 (v1p.sm_out x L.length y 0 0 0 k 0 0 0 0 g) ⟨ltF (by simp; omega), trivial⟩
            exact ⟨_, E2, _, by simp, q2, rfl, k4⟩
          · left
            obtain ⟨z, hz⟩ : ∃ z, L[k]? = some z := ⟨_, List.getElem?_eq_getElem (by omega)⟩
            have hlen := svC_len L
            have gx' := k4.2 _ _ gx id
            have gy' := k4.2 _ _ gy id
            have c2 : (Asm.off (k * 3) 0 (k : Int) L.length 3).holds Try.prog := offI rfl (by omega) (by omega)
            have hyl := get_lt gy'
            obtain ⟨E2, q1, q2⟩ := pvC 0 k3 (v1p.sm_go x L.length y (k * 3) (k * 3) g.length k ((k + 1 : Nat) : Int) z.when z.state z.at' g)
              ⟨ltT (by simp; omega), c2, a_ldn gx' (by omega) (svC_cut hz), rfl, a_st (get_new g _) (by simp) rfl, stat42, a_ldn (get_set_eq (get_new g _)) (by simp) rfl, c2, a_ldn (get_set_ne (get_push gy') (by omega)) (by omega) (svC_cut hz), aeq47 _ _ _, inc (by omega), trivial⟩
            exact ⟨L.length - (k + 1), E2, _, by omega, q2, k + 1, by omega, rfl, .trans (.add (.add (.add (.add (.nil _) rfl) rfl) rfl) rfl) q1, (k4.pushN _).setN k4.1 _⟩)
        L.length _ h ⟨0, by omega, rfl, EnvLe.refl _, .refl _ _⟩
      exact ⟨h1, pvF 0 Try.func42 (v1p.sm_all x L.length y E1 h h1) ⟨Ev.neF rfl, a_loop (by kernel_rfl) (.add (.add (.add (.add (.nil _) rfl) rfl) rfl) rfl) (.refl _) hl1, trivial⟩, k1⟩

end Go.Proofs.Ytkkhokgpcifckaa.rf

namespace Go.Proofs.Ytkkhokgpcifckaa.rf
open Go Go.Ev Go.Proofs.Ytkkhokgpcifckaa.wd
set_option maxRecDepth 100000
set_option linter.constructorNameAsVariable false
set_option linter.unusedVariables false

variable {h h' g g' : Hp} {i j o p q : Nat} {t tw : Option Nat} {w : WS}

/-! ### agree -/
theorem stat26 : statOk (drawN Try.f26 0) = true := by kernel_rfl
theorem agree_loop {b : Nat} (aW : WAt h i j tw w) (a : RAt h o p q t w) (hw : WOk w) (hb : h[b]? = some (.cells (rC o p q t w) true)) :
    ∃ E1 h1, LRun Try.prog 70 false (loopN Try.f26 0) [(9, .int .i64 (0 : Nat)), (3, .pointer (some ⟨b, 0, none⟩)), (0, .pointer (some ⟨i, 0, none⟩))] h (.exit 0) E1 h1 ∧ Keep (fun _ => False) h h1 := by
  have n8 := hw.n8
  obtain ⟨x', E1, h1, hl1, rfl, k1⟩ := loop_inv (P := Try.prog) (n := 70) (rd := false) (b := loopN Try.f26 0)
    (Q := fun x' E1 h1 => x' = .exit 0 ∧ Keep (fun _ => False) h h1)
    (fun m E g => ∃ k : Nat, k ≤ w.svs.length + 2 ∧ m = w.svs.length + 2 - k ∧ EnvLe [(9, .int .i64 k), (3, .pointer (some ⟨b, 0, none⟩)), (0, .pointer (some ⟨i, 0, none⟩))] E ∧ Keep (fun _ => False) h g)
    (fun m E g ⟨k, k1, k2, k3, k4⟩ => by
      have hgb := k4.2 _ _ hb id
      have l6 : (Asm.ld1 (.is g) b 6 (.slice (some ⟨p, 0, none⟩) w.svs.length 1)).holds Try.prog := a_ld1 hgb rfl
      have ad : (Asm.arith .add .i64 (Int.ofNat w.svs.length) 1 ((w.svs.length : Int) + 1)).holds Try.prog := addI rfl (by omega) (by omega)
      by_cases e : k = w.svs.length + 2
      · right
        obtain ⟨E2, q1, q2⟩ := pvC 0 k3 (v4p.al_out w.rule w.most w.within w.base w.cap w.now w.delay o p q w.svs.length (tvA t) (tvL t w.times.length) (tvZ t) w.given i b k 0 ((w.svs.length : Int) + 1) 0 0 g g g) ⟨l6, ad, leF (by omega), trivial⟩
        exact ⟨_, E2, _, by simp, q2, rfl, k4⟩
      · left
        have aW' := aW.keep k4 (fun _ _ e => e.elim)
        have a' := a.grow k4
        obtain ⟨E2, q1, q2⟩ := pvC 0 k3 (v4p.al_go w.rule w.most w.within w.base w.cap w.now w.delay o p q w.svs.length (tvA t) (tvL t w.times.length) (tvZ t) w.given i b k ((k + 1 : Nat) : Int) ((w.svs.length : Int) + 1) _ _ g g _)
          ⟨l6, ad, leT (by omega), state_run aW' hw k, a_ldn hgb (by simp [rC_len]) (by rfl), stateR_run a' hw k, Ev.neF rfl, Ev.neF rfl, inc (by omega), trivial⟩
        exact ⟨w.svs.length + 2 - (k + 1), E2, _, by omega, q2, k + 1, by omega, rfl, .trans (.add (.add (.add (.nil _) rfl) rfl) rfl) q1, k4.pushN _⟩)
    (w.svs.length + 2) _ h ⟨0, by omega, rfl, EnvLe.refl _, .refl _ _⟩
  exact ⟨E1, h1, hl1, k1⟩

theorem agree_aux {gv : Bool} (aW : WAt h i j tw { w with given := gv }) (a : RAt h o p q t { w with given := gv }) (hw : WOk { w with given := gv }) (hs : Sts { w with given := gv }) :
    ∃ h', Run Try.prog 26 [.pointer (some ⟨i, 0, none⟩), .agg (rC o p q t { w with given := gv }).toArray] h (.bool true) h' ∧ Keep (fun _ => False) h h' := by
  have K1 : Keep (fun _ => False) h (h ++ [.cells (rC o p q t { w with given := gv }) true]) := Keep.push _ _ _
  have hb : (h ++ [AObj.cells (rC o p q t { w with given := gv }) true])[h.length]? = some (.cells (rC o p q t { w with given := gv }) true) := get_new h _
  have aW1 := aW.keep K1 (fun _ _ e => e.elim)
  have a1 := a.grow K1
  have r13 := restarts_run aW1
  obtain ⟨os, r16⟩ := over_run aW1 hw
  have K2 : Keep (fun _ => False) h (h ++ [.cells (rC o p q t { w with given := gv }) true] ++ os) := K1.trans (Keep.app _ _ _)
  have hb2 := (Keep.app (fun _ => False) (h ++ [AObj.cells (rC o p q t { w with given := gv }) true]) os).2 _ _ hb id
  have r39 := overR_run (a.grow K2) hw hs
  have K3 := (K2.pushN (.cells (rC o p q t { w with given := gv }) true)).pushN (.cells (rC o p q t { w with given := gv }) true)
  have hb3 := get_push (x := .cells (rC o p q t { w with given := gv }) true) (get_push (x := .cells (rC o p q t { w with given := gv }) true) hb2)
  obtain ⟨E1, h4, hl4, K4⟩ := agree_loop (aW.keep K3 (fun _ _ e => e.elim)) (a.grow K3) hw hb3
  have ld2 : (Asm.ldn (.is (h ++ [AObj.cells (rC o p q t { w with given := gv }) true] ++ os)) h.length 0 12 (rC o p q t { w with given := gv })).holds Try.prog := a_ldn hb2 (by simp [rC_len]) (by rfl)
  refine ⟨h4, ?_, K3.trans K4⟩
  have lo : ∀ {E : Env} {s s' : SH}, EnvLe [(9, .int .i64 (0 : Nat)), (3, .pointer (some ⟨h.length, 0, none⟩)), (0, .pointer (some ⟨i, 0, none⟩))] E → s.den = (h ++ [AObj.cells (rC o p q t { w with given := gv }) true] ++ os ++ [.cells (rC o p q t { w with given := gv }) true] ++ [.cells (rC o p q t { w with given := gv }) true]) → s'.den = h4 → (Asm.loop 70 false (loopN Try.f26 0) E s (.exit 0) E1 s').holds Try.prog :=
    fun he e1 e2 => a_loop (by kernel_rfl) he (.refl _) (by rw [e1, e2]; exact hl4)
  have hE9 : ∀ {E : Env}, Ev.look E 9 = some (.int .i64 (0 : Nat)) → Ev.look E 3 = some (.pointer (some ⟨h.length, 0, none⟩)) → Ev.look E 0 = some (.pointer (some ⟨i, 0, none⟩)) → EnvLe [(9, .int .i64 (0 : Nat)), (3, .pointer (some ⟨h.length, 0, none⟩)), (0, .pointer (some ⟨i, 0, none⟩))] E := fun a1 a2 a3 => .add (.add (.add (.nil _) a3) a2) a1
  obtain ⟨ovb, hov⟩ : ∃ z, overOf { w with given := gv } = z := ⟨_, rfl⟩
  rw [hov] at r16 r39
  rcases a.tms with ⟨rfl, e⟩ | ⟨r, rfl, _⟩
  · simp only [] at e
    simp only [e, List.length_nil] at r13
    have x1 := a_again1 (P := Try.prog) (s := .is (h ++ [AObj.cells (rC o p q none { w with given := gv }) true])) (d := 9) agg32 hb rfl rfl
    have x2 := a_again1 (P := Try.prog) (s := .push (.is h) (.cells (rC o p q none { w with given := gv }) true)) (d := 9) agg32 hb rfl rfl
    have x3 := a_ld1 (P := Try.prog) (s := .is (h ++ [AObj.cells (rC o p q none { w with given := gv }) true])) (d := 9) (v := .slice none 0 0) hb rfl
    cases gv <;> cases ovb
    · exact pvF 0 Try.func26 (v4p.ag_n_false_false w.rule w.most w.within w.base w.cap w.now w.delay o p q w.svs.length i h.length 0 h _ _ _ h4 E1) ⟨rfl, stat26, x1, x2, x1, r13, x3, Ev.neF rfl, r16, ld2, r39, lo (hE9 rfl rfl rfl) rfl rfl, trivial⟩
    · exact pvF 0 Try.func26 (v4p.ag_n_true_false w.rule w.most w.within w.base w.cap w.now w.delay o p q w.svs.length i h.length 0 h _ _ _ h4 E1) ⟨rfl, stat26, x1, x2, x1, r13, x3, Ev.neF rfl, r16, ld2, r39, lo (hE9 rfl rfl rfl) rfl rfl, trivial⟩
    · exact pvF 0 Try.func26 (v4p.ag_n_false_true w.rule w.most w.within w.base w.cap w.now w.delay o p q w.svs.length i h.length 0 h _ _ _ h4 E1) ⟨rfl, stat26, x1, x2, x1, r13, x3, Ev.neF rfl, r16, ld2, r39, lo (hE9 rfl rfl rfl) rfl rfl, trivial⟩
    · exact pvF 0 Try.func26 (v4p.ag_n_true_true w.rule w.most w.within w.base w.cap w.now w.delay o p q w.svs.length i h.length 0 h _ _ _ h4 E1) ⟨rfl, stat26, x1, x2, x1, r13, x3, Ev.neF rfl, r16, ld2, r39, lo (hE9 rfl rfl rfl) rfl rfl, trivial⟩
  · have x1 := a_again1 (P := Try.prog) (s := .is (h ++ [AObj.cells (rC o p q (some r) { w with given := gv }) true])) (d := 9) agg32 hb rfl rfl
    have x2 := a_again1 (P := Try.prog) (s := .push (.is h) (.cells (rC o p q (some r) { w with given := gv }) true)) (d := 9) agg32 hb rfl rfl
    have x3 := a_ld1 (P := Try.prog) (s := .is (h ++ [AObj.cells (rC o p q (some r) { w with given := gv }) true])) (d := 9) (v := .slice (some ⟨r, 0, none⟩) w.times.length 1) hb rfl
    cases gv <;> cases ovb
    · exact pvF 0 Try.func26 (v4p.ag_s_false_false w.rule w.most w.within w.base w.cap w.now w.delay o p q w.svs.length r w.times.length i h.length w.times.length h _ _ _ h4 E1) ⟨rfl, stat26, x1, x2, x1, r13, x3, Ev.neF rfl, r16, ld2, r39, lo (hE9 rfl rfl rfl) rfl rfl, trivial⟩
    · exact pvF 0 Try.func26 (v4p.ag_s_true_false w.rule w.most w.within w.base w.cap w.now w.delay o p q w.svs.length r w.times.length i h.length w.times.length h _ _ _ h4 E1) ⟨rfl, stat26, x1, x2, x1, r13, x3, Ev.neF rfl, r16, ld2, r39, lo (hE9 rfl rfl rfl) rfl rfl, trivial⟩
    · exact pvF 0 Try.func26 (v4p.ag_s_false_true w.rule w.most w.within w.base w.cap w.now w.delay o p q w.svs.length r w.times.length i h.length w.times.length h _ _ _ h4 E1) ⟨rfl, stat26, x1, x2, x1, r13, x3, Ev.neF rfl, r16, ld2, r39, lo (hE9 rfl rfl rfl) rfl rfl, trivial⟩
    · exact pvF 0 Try.func26 (v4p.ag_s_true_true w.rule w.most w.within w.base w.cap w.now w.delay o p q w.svs.length r w.times.length i h.length w.times.length h _ _ _ h4 E1) ⟨rfl, stat26, x1, x2, x1, r13, x3, Ev.neF rfl, r16, ld2, r39, lo (hE9 rfl rfl rfl) rfl rfl, trivial⟩

theorem agree_run (aW : WAt h i j tw w) (a : RAt h o p q t w) (hw : WOk w) (hs : Sts w) :
    ∃ h', Run Try.prog 26 [.pointer (some ⟨i, 0, none⟩), .agg (rC o p q t w).toArray] h (.bool true) h' ∧ Keep (fun _ => False) h h' := agree_aux (w := w) (gv := w.given) aW a hw hs

end Go.Proofs.Ytkkhokgpcifckaa.rf

namespace Go.Proofs.Ytkkhokgpcifckaa.rf
open Go Go.Ev Go.Proofs.Ytkkhokgpcifckaa.wd
set_option maxRecDepth 100000
set_option linter.constructorNameAsVariable false
set_option linter.unusedVariables false

variable {h h' g g' : Hp} {i j o p q : Nat} {t tw : Option Nat} {w : WS}

theorem a_againN {P : Program} {s : SH} {i n : Nat} {l : List Value} {t : TypeId} {rw : Bool} (ha : aggSize P t = some (some n)) (h : s.den[i]? = some (.cells l rw)) (hl : Ev.cut l 0 n = some l) (hr : veqR (.agg l.toArray) = true) :
    (Asm.again s t (.pointer (some ⟨i, 0, none⟩)) (.agg l.toArray)).holds P :=
  ⟨by simp only [evLoad, cells_of h, ha, hl], veq_refl hr⟩
theorem rC_gen {w' : WS} (hs : SameSpec w w') (hl : w'.svs.length = w.svs.length) : rC o p q t w' = rC o p q t { w with now := w'.now, times := w'.times, delay := w'.delay, given := w'.given } := by
  obtain ⟨h1, h2, h3, h4, h5⟩ := hs
  simp [rC, h1, h2, h3, h4, h5, hl]

/-! ### play -/
theorem stat27 : statOk (drawN Try.f27 0) = true := by kernel_rfl
def stepP (w : WS) (op : OpV) : WS := if op.kind = 0 then (endedF w op.n op.fk op.ft op.at').1 else if op.kind = 1 then (startedF w op.n op.at').1 else w
/-- The warden and the reference's warden lie apart. -/
def Dis (i j : Nat) (tw : Option Nat) (o p q : Nat) (t : Option Nat) : Prop := ∀ x, (fpR p q t x ∨ x = o) → ¬ fpW i j tw x

theorem play_tail {gk : Hp} {b c i2 j2 p1 q1 : Nat} {tw2 t1 : Option Nat} {w1 : WS} (aW : WAt gk i2 j2 tw2 w1) (a : RAt gk o p1 q1 t1 w1) (hw : WOk w1) (hs : Sts w1) (gb : gk[b]? = some (.cells (rC o p1 q1 t1 w1) true)) (gc : gk[c]? = some zR) (hbc : b ≠ c)
    (nw : ¬ fpW i2 j2 tw2 c) (nr : ¬ fpR p1 q1 t1 c ∧ c ≠ o) :
    ∃ g4, (Asm.again (.is gk) 60 (.pointer (some ⟨b, 0, none⟩)) (.agg (rC o p1 q1 t1 w1).toArray)).holds Try.prog ∧ (Asm.again (.is g4) 60 (.pointer (some ⟨b, 0, none⟩)) (.agg (rC o p1 q1 t1 w1).toArray)).holds Try.prog ∧ (Asm.ldn (.is gk) b 0 12 (rC o p1 q1 t1 w1)).holds Try.prog ∧
      Run Try.prog 26 [.pointer (some ⟨i2, 0, none⟩), .agg (rC o p1 q1 t1 w1).toArray] gk (.bool true) g4 ∧ (Asm.st (.is g4) c 0 (rC o p1 q1 t1 w1) (rC o p1 q1 t1 w1)).holds Try.prog ∧ (Asm.ldn (.set (.is g4) c (.cells (rC o p1 q1 t1 w1) true)) c 0 12 (rC o p1 q1 t1 w1)).holds Try.prog ∧
      WAt (g4.set c (.cells (rC o p1 q1 t1 w1) true)) i2 j2 tw2 w1 ∧ RAt (g4.set c (.cells (rC o p1 q1 t1 w1) true)) o p1 q1 t1 w1 ∧ Keep (fun x => x = c) gk (g4.set c (.cells (rC o p1 q1 t1 w1) true)) := by
  obtain ⟨g4, r, k⟩ := agree_run aW a hw hs
  have gb4 := k.2 _ _ gb id
  have gc4 := k.2 _ _ gc id
  have hv : veqR (.agg (rC o p1 q1 t1 w1).toArray) = true := by rfl
  have hcut : Ev.cut (rC o p1 q1 t1 w1) 0 12 = some (rC o p1 q1 t1 w1) := by rfl
  have K2 : Keep (fun x => x = c) g4 (g4.set c (.cells (rC o p1 q1 t1 w1) true)) := Keep.set (fp := fun x => x = c) rfl _
  refine ⟨g4, a_againN agg60 gb hcut hv, a_againN agg60 gb4 hcut hv, a_ldn gb (by simp [rC_len]) (by rfl), r, a_st gc4 (by simp [rC_len]) (by rfl), a_ldn (get_set_eq gc4) (by simp [rC_len]) (by rfl), (aW.keep k (fun _ _ e => e.elim)).keep K2 (fun x _ e => by subst e; exact nw), (a.grow k).keep K2 (fun x _ e => by subst e; exact nr), ?_⟩
  exact (k.mono fun x _ e => e.elim).trans K2

theorem play_run (aW : WAt h i j tw w) (a : RAt h o p q t w) (hd : Dis i j tw o p q t) (hw : WOk w) (ht : w.times.length < 10000) (hs : Sts w) (op : OpV) :
    ∃ i' j' tw' p' q' t' h', Run Try.prog 27 [.pointer (some ⟨i, 0, none⟩), .agg (rC o p q t w).toArray, .agg op.cells.toArray] h (.tuple #[.pointer (some ⟨i', 0, none⟩), .agg (rC o p' q' t' (stepP w op)).toArray, .bool true]) h' ∧
      WAt h' i' j' tw' (stepP w op) ∧ RAt h' o p' q' t' (stepP w op) ∧ Dis i' j' tw' o p' q' t' ∧ Keep (fpW i j tw) h h' ∧ (∀ x, fpW i' j' tw' x → fpW i j tw x ∨ h.length ≤ x) ∧ (∀ x, fpR p' q' t' x → fpR p q t x ∨ h.length ≤ x) := by
  obtain ⟨kd, n0, at', fk, ft⟩ := op
  have hlt := a.lts
  have hol := a.olt
  have hWl := aW.lts
  let oc : List Value := [.int .i64 kd, .int .i64 n0, .int .i64 at', .int .i64 fk, .string ft]
  let G3 : Hp := h ++ [AObj.cells (rC o p q t w) true] ++ [AObj.cells oc true] ++ [zR]
  have K3 : Keep (fun _ => False) h G3 := ((Keep.push _ _ _).trans (Keep.push _ _ _)).trans (Keep.push _ _ _)
  have a3 := a.grow K3
  have aW3 := aW.keep K3 (fun _ _ e => e.elim)
  have gb : G3[h.length]? = some (.cells (rC o p q t w) true) := get_push (get_push (get_new h _))
  have go : G3[h.length + 1]? = some (.cells oc true) := get_push (get_new' _ (by simp))
  have gc : G3[h.length + 2]? = some zR := get_new' _ (by simp)
  have hl3 : G3.length = h.length + 3 := by simp [G3]
  have l1 : (Asm.len (.is h) h.length).holds Try.prog := rfl
  have l2 : (Asm.len (.push (.is h) (.cells (rC o p q t w) true)) (h.length + 1)).holds Try.prog := by simp [Asm.holds, SH.den]
  have l3 : (Asm.len (.push (.push (.is h) (.cells (rC o p q t w) true)) (.cells oc true)) (h.length + 2)).holds Try.prog := by simp [Asm.holds, SH.den]
  let S3 : SH := .push (.push (.push (.is h) (.cells (rC o p q t w) true)) (.cells oc true)) zR
  have lk : (Asm.ld1 S3 (h.length + 1) 0 (.int .i64 kd)).holds Try.prog := a_ld1 go rfl
  have ln : (Asm.ld1 S3 (h.length + 1) 1 (.int .i64 n0)).holds Try.prog := a_ld1 go rfl
  have lt : (Asm.ld1 S3 (h.length + 1) 2 (.int .i64 at')).holds Try.prog := a_ld1 go rfl
  have lf : (Asm.ldn S3 (h.length + 1) 3 2 [.int .i64 fk, .string ft]).holds Try.prog := a_ldn go (by simp [oc]) rfl
  have nWb : ∀ x, h.length ≤ x → ¬ fpW i j tw x := fun x hx r => by have := hWl x r; omega
  by_cases k0 : kd = 0
  · skip
    obtain ⟨v1, g1, tw1, r14, aW1, ⟨Bo, hB1, hB2, o1⟩, kW, fW⟩ := ended_run text_run aW3 hw ht n0 fk at' ft
    have a1 : RAt g1 o p q t w := a3.keep kW (fun x hx e => ⟨fun r => hd x (.inl r) e, fun r => hd x (.inr r) e⟩)
    obtain ⟨v2, g2, p1, q1, t1, r41, a2, o2, kR, fR⟩ := endedR_run a1 hw ht hs n0 fk at' ft
    have hok := hw.ended ht n0 fk ft at'
    have hsm : SameSpec w (endedF w n0 fk ft at').1 := by have := run_same w ⟨0, n0, at', fk, ft⟩; simpa [runF] using this
    have hs1 : Sts (endedF w n0 fk ft at').1 := hs.of (ended_wh w n0 fk ft at')
    have hst : stepP w ⟨kd, n0, at', fk, ft⟩ = (endedF w n0 fk ft at').1 := by simp [stepP, k0]
    rw [hst]
    have aW2 := aW1.keep kR (fun _ _ e => e.elim)
    have gb1 := kW.2 _ _ gb (nWb _ (Nat.le_refl _))
    have go1 := kW.2 _ _ go (nWb _ (by omega))
    have gc1 := kW.2 _ _ gc (nWb _ (by omega))
    have gb2 := kR.2 _ _ gb1 id
    have gc2 := kR.2 _ _ gc1 id
    have hl1 := kW.1
    have hl2 := kR.1
    have hR : rC o p1 q1 t1 (endedF w n0 fk ft at').1 = rC o p1 q1 t1 { w with now := (endedF w n0 fk ft at').1.now, times := (endedF w n0 fk ft at').1.times, delay := (endedF w n0 fk ft at').1.delay, given := (endedF w n0 fk ft at').1.given } := rC_gen hsm hok.2.1
    let R := rC o p1 q1 t1 { w with now := (endedF w n0 fk ft at').1.now, times := (endedF w n0 fk ft at').1.times, delay := (endedF w n0 fk ft at').1.delay, given := (endedF w n0 fk ft at').1.given }
    have lenR : R.length = 12 := rfl
    rw [hR] at r41
    let ga : Hp := (g2 ++ [zR]).set g2.length (.cells R true)
    have gda : ga[g2.length]? = some (.cells R true) := get_set_eq (get_new g2 _)
    have gba : ga[h.length]? = some (.cells (rC o p q t w) true) := get_set_ne (get_push gb2) (by omega)
    let gg : Hp := ga.set h.length (.cells R true)
    have gbg : gg[h.length]? = some (.cells R true) := get_set_eq gba
    have gcg : gg[h.length + 2]? = some zR := get_set_ne (get_set_ne (get_push gc2) (by omega)) (by omega)
    have Kg : Keep (fun x => x = h.length ∨ g2.length ≤ x) g2 gg := ((Keep.push _ _ _).trans (Keep.set (fp := fun x => x = h.length ∨ g2.length ≤ x) (.inr (Nat.le_refl _)) _)).trans (Keep.set (.inl rfl) _)
    have hnew : ∀ x, fpR p1 q1 t1 x → fpR p q t x ∨ g1.length ≤ x := fR
    have ndW : ∀ x, h.length ≤ x → x < h.length + 3 → ¬ fpW i j tw1 x := fun x h1 h2 r => by
      rcases r with r | r | r
      · have := hWl x (.inl r); omega
      · have := hWl x (.inr (.inl r)); omega
      · rcases fW x r with e | e
        · have := hWl x (.inr (.inr e)); omega
        · omega
    have ndR : ∀ x, h.length ≤ x → x < h.length + 3 → ¬ fpR p1 q1 t1 x ∧ x ≠ o := fun x h1 h2 => ⟨fun r => by
      rcases hnew x r with e | e
      · have := hlt x e; omega
      · omega, by omega⟩
    have aWg : WAt gg i j tw1 (endedF w n0 fk ft at').1 := aW2.keep Kg (fun x hx e r => by rcases e with e | e; exact ndW x (by omega) (by omega) r; omega)
    have ag : RAt gg o p1 q1 t1 (endedF w n0 fk ft at').1 := a2.keep Kg (fun x hx e => by rcases e with e | e; exact ndR x (by omega) (by omega); omega)
    have s1 : (Asm.st (.push (.is g2) zR) g2.length 0 R R).holds Try.prog := a_st (get_new g2 _) (by simp [R, rC_len]) (by rfl)
    have s2 : (Asm.ldn (.set (.push (.is g2) zR) g2.length (.cells R true)) g2.length 0 12 R).holds Try.prog := a_ldn gda (by omega) (by rfl)
    have s3 : (Asm.st (.set (.push (.is g2) zR) g2.length (.cells R true)) h.length 0 R R).holds Try.prog := a_st gba (by simp [R, rC_len]) (by rfl)
    have l4 : (Asm.ldn (.is g1) h.length 0 12 (rC o p q t w)).holds Try.prog := a_ldn gb1 (by simp [rC_len]) (by rfl)
    have l5 : (Asm.ld1 (.is g1) (h.length + 1) 1 (.int .i64 n0)).holds Try.prog := a_ld1 go1 rfl
    have l6 : (Asm.ldn (.is g1) (h.length + 1) 3 2 [.int .i64 fk, .string ft]).holds Try.prog := a_ldn go1 (by simp [oc]) rfl
    have l7 : (Asm.ld1 (.is g1) (h.length + 1) 2 (.int .i64 at')).holds Try.prog := a_ld1 go1 rfl
    have dis : Dis i j tw1 o p1 q1 t1 := fun x r r2 => by
      have hx1 := aW1.lts x r2
      have old : fpR p q t x ∨ x = o := by
        rcases r with r | r
        · rcases hnew x r with e | e
          · exact .inl e
          · omega
        · exact .inr r
      have hxh : x < h.length := by
        rcases old with e | e
        · exact hlt x e
        · omega
      rcases r2 with r2 | r2 | r2
      · exact hd x old (.inl r2)
      · exact hd x old (.inr (.inl r2))
      · rcases fW x r2 with e | e
        · exact hd x old (.inr (.inr e))
        · omega
    have KH : Keep (fpW i j tw) h gg := (((K3.mono fun x _ e => e.elim).trans (kW.mono fun x _ e => e)).trans (kR.mono fun x _ e => e.elim)).trans_new Kg (fun x hx e => by omega)
    have nW' : ∀ x, fpW i j tw1 x → fpW i j tw x ∨ h.length ≤ x := fun x r => by
      rcases r with r | r | r
      · exact .inl (.inl r)
      · exact .inl (.inr (.inl r))
      · rcases fW x r with e | e
        · exact .inl (.inr (.inr e))
        · exact .inr (by omega)
    have nR' : ∀ x, fpR p1 q1 t1 x → fpR p q t x ∨ h.length ≤ x := fun x r => by
      rcases hnew x r with e | e
      · exact .inl e
      · exact .inr (by omega)
    have toL : ∀ {v : Value} {B : Nat}, h.length + 3 ≤ B → OrdAt g2 B v (endedF w n0 fk ft at').2.1 → LAt gg v (endedF w n0 fk ft at').2.1 := fun hB oo => by
      rcases oo with e | ⟨x, e1, e2, e3, e4⟩
      · exact .inl e
      · have := get_lt e2
        exact .inr ⟨x, e1, get_set_ne (get_set_ne (get_push e2) (by omega)) (by omega), e4⟩
    have hLl : (endedF w n0 fk ft at').2.1.length ≤ 1000 := by have := run_len hw ht ⟨0, n0, at', fk, ft⟩; simpa [runF] using this
    obtain ⟨g3, r42, k42⟩ := same_run (toL (by omega) (o1.keep kR (fun _ _ _ e => e))) (toL (by omega) o2) hLl
    have gb3 := k42.2 _ _ gbg id
    have gc3 := k42.2 _ _ gcg id
    obtain ⟨g4, x1, x2, x3, x4, x5, x6, x7, x8, x9⟩ := play_tail (b := h.length) (c := h.length + 2) (aWg.keep k42 (fun _ _ e => e.elim)) (ag.grow k42) hok.1 hs1 (by rw [hR]; exact gb3) gc3 (by omega) (ndW _ (by omega) (by omega)) (ndR _ (by omega) (by omega))
    rw [hR] at x1 x2 x3 x4 x5 x6 x7 x8 x9
    refine ⟨i, j, tw1, p1, q1, t1, _, by rw [hR]; exact pvF 0 Try.func27 (v4p.pl_0 w.rule w.most w.within w.base w.cap w.now w.delay o p q w.svs.length (tvA t) (tvL t w.times.length) (tvZ t) w.given i h.length (h.length + 1) (h.length + 2) g2.length kd n0 at' fk (endedF w n0 fk ft at').2.2 ft v1 v2 R R [] R p1 q1 (endedF w n0 fk ft at').1.now (endedF w n0 fk ft at').1.delay (tvA t1) (tvL t1 (endedF w n0 fk ft at').1.times.length) (tvZ t1) (endedF w n0 fk ft at').1.given h g1 g2 g3 g4) ⟨l1, l2, l3, lk, Ev.eqT k0, ln, lf, lt, r14, l4, l5, l6, l7, r41, rfl, s1, s2, s3, Ev.eqT rfl, r42, stat27, x1, x1, x2, x3, x3, x4, x5, x6, trivial⟩, x7, x8, dis, ((KH.trans (k42.mono fun x _ e => e.elim)).trans_new x9 (fun x hx e => by omega)), nW', nR'⟩
  · by_cases k1 : kd = 1
    · skip
      obtain ⟨g1, r14, aW1, kW0⟩ := started_run aW3 hw n0 at'
      have kW : Keep (fpW i j tw) G3 g1 := kW0.mono fun x _ e => by rcases e with e | e; exact .inl e; exact .inr (.inl e)
      have fW : ∀ x, tw = some x → tw = some x ∨ G3.length ≤ x := fun x e => .inl e
      have a1 : RAt g1 o p q t w := a3.keep kW (fun x hx e => ⟨fun r => hd x (.inl r) e, fun r => hd x (.inr r) e⟩)
      obtain ⟨g2, p1, q1, t1, r41, a2, kR, fR⟩ := startedR_run a1 hw n0 at'
      have hok := hw.started n0 at'
      have hsm : SameSpec w (startedF w n0 at').1 := by have := run_same w ⟨1, n0, at', fk, ft⟩; simpa [runF] using this
      have hs1 : Sts (startedF w n0 at').1 := hs.of (started_wh w n0 at')
      have hst : stepP w ⟨kd, n0, at', fk, ft⟩ = (startedF w n0 at').1 := by simp [stepP, k1]
      rw [hst]
      have aW2 := aW1.keep kR (fun _ _ e => e.elim)
      have gb1 := kW.2 _ _ gb (nWb _ (Nat.le_refl _))
      have go1 := kW.2 _ _ go (nWb _ (by omega))
      have gc1 := kW.2 _ _ gc (nWb _ (by omega))
      have gb2 := kR.2 _ _ gb1 id
      have gc2 := kR.2 _ _ gc1 id
      have hl1 := kW.1
      have hl2 := kR.1
      have hR : rC o p1 q1 t1 (startedF w n0 at').1 = rC o p1 q1 t1 { w with now := (startedF w n0 at').1.now, times := (startedF w n0 at').1.times, delay := (startedF w n0 at').1.delay, given := (startedF w n0 at').1.given } := rC_gen hsm hok.2.1
      let R := rC o p1 q1 t1 { w with now := (startedF w n0 at').1.now, times := (startedF w n0 at').1.times, delay := (startedF w n0 at').1.delay, given := (startedF w n0 at').1.given }
      have lenR : R.length = 12 := rfl
      rw [hR] at r41
      let ga : Hp := (g2 ++ [zR]).set g2.length (.cells R true)
      have gda : ga[g2.length]? = some (.cells R true) := get_set_eq (get_new g2 _)
      have gba : ga[h.length]? = some (.cells (rC o p q t w) true) := get_set_ne (get_push gb2) (by omega)
      let gg : Hp := ga.set h.length (.cells R true)
      have gbg : gg[h.length]? = some (.cells R true) := get_set_eq gba
      have gcg : gg[h.length + 2]? = some zR := get_set_ne (get_set_ne (get_push gc2) (by omega)) (by omega)
      have Kg : Keep (fun x => x = h.length ∨ g2.length ≤ x) g2 gg := ((Keep.push _ _ _).trans (Keep.set (fp := fun x => x = h.length ∨ g2.length ≤ x) (.inr (Nat.le_refl _)) _)).trans (Keep.set (.inl rfl) _)
      have hnew : ∀ x, fpR p1 q1 t1 x → fpR p q t x ∨ g1.length ≤ x := fR
      have ndW : ∀ x, h.length ≤ x → x < h.length + 3 → ¬ fpW i j tw x := fun x h1 h2 r => by
        rcases r with r | r | r
        · have := hWl x (.inl r); omega
        · have := hWl x (.inr (.inl r)); omega
        · rcases fW x r with e | e
          · have := hWl x (.inr (.inr e)); omega
          · omega
      have ndR : ∀ x, h.length ≤ x → x < h.length + 3 → ¬ fpR p1 q1 t1 x ∧ x ≠ o := fun x h1 h2 => ⟨fun r => by
        rcases hnew x r with e | e
        · have := hlt x e; omega
        · omega, by omega⟩
      have aWg : WAt gg i j tw (startedF w n0 at').1 := aW2.keep Kg (fun x hx e r => by rcases e with e | e; exact ndW x (by omega) (by omega) r; omega)
      have ag : RAt gg o p1 q1 t1 (startedF w n0 at').1 := a2.keep Kg (fun x hx e => by rcases e with e | e; exact ndR x (by omega) (by omega); omega)
      have s1 : (Asm.st (.push (.is g2) zR) g2.length 0 R R).holds Try.prog := a_st (get_new g2 _) (by simp [R, rC_len]) (by rfl)
      have s2 : (Asm.ldn (.set (.push (.is g2) zR) g2.length (.cells R true)) g2.length 0 12 R).holds Try.prog := a_ldn gda (by omega) (by rfl)
      have s3 : (Asm.st (.set (.push (.is g2) zR) g2.length (.cells R true)) h.length 0 R R).holds Try.prog := a_st gba (by simp [R, rC_len]) (by rfl)
      have l4 : (Asm.ldn (.is g1) h.length 0 12 (rC o p q t w)).holds Try.prog := a_ldn gb1 (by simp [rC_len]) (by rfl)
      have l5 : (Asm.ld1 (.is g1) (h.length + 1) 1 (.int .i64 n0)).holds Try.prog := a_ld1 go1 rfl
      have l6 : (Asm.ldn (.is g1) (h.length + 1) 3 2 [.int .i64 fk, .string ft]).holds Try.prog := a_ldn go1 (by simp [oc]) rfl
      have l7 : (Asm.ld1 (.is g1) (h.length + 1) 2 (.int .i64 at')).holds Try.prog := a_ld1 go1 rfl
      have dis : Dis i j tw o p1 q1 t1 := fun x r r2 => by
        have hx1 := aW1.lts x r2
        have old : fpR p q t x ∨ x = o := by
          rcases r with r | r
          · rcases hnew x r with e | e
            · exact .inl e
            · omega
          · exact .inr r
        have hxh : x < h.length := by
          rcases old with e | e
          · exact hlt x e
          · omega
        rcases r2 with r2 | r2 | r2
        · exact hd x old (.inl r2)
        · exact hd x old (.inr (.inl r2))
        · rcases fW x r2 with e | e
          · exact hd x old (.inr (.inr e))
          · omega
      have KH : Keep (fpW i j tw) h gg := (((K3.mono fun x _ e => e.elim).trans (kW.mono fun x _ e => e)).trans (kR.mono fun x _ e => e.elim)).trans_new Kg (fun x hx e => by omega)
      have nW' : ∀ x, fpW i j tw x → fpW i j tw x ∨ h.length ≤ x := fun x r => by
        rcases r with r | r | r
        · exact .inl (.inl r)
        · exact .inl (.inr (.inl r))
        · rcases fW x r with e | e
          · exact .inl (.inr (.inr e))
          · exact .inr (by omega)
      have nR' : ∀ x, fpR p1 q1 t1 x → fpR p q t x ∨ h.length ≤ x := fun x r => by
        rcases hnew x r with e | e
        · exact .inl e
        · exact .inr (by omega)
      obtain ⟨g4, x1, x2, x3, x4, x5, x6, x7, x8, x9⟩ := play_tail (b := h.length) (c := h.length + 2) aWg ag hok.1 hs1 (by rw [hR]; exact gbg) gcg (by omega) (ndW _ (by omega) (by omega)) (ndR _ (by omega) (by omega))
      rw [hR] at x1 x2 x3 x4 x5 x6 x7 x8 x9
      refine ⟨i, j, tw, p1, q1, t1, _, by rw [hR]; exact pvF 0 Try.func27 (v4p.pl_1 w.rule w.most w.within w.base w.cap w.now w.delay o p q w.svs.length (tvA t) (tvL t w.times.length) (tvZ t) w.given i h.length (h.length + 1) (h.length + 2) g2.length kd n0 at' fk (startedF w n0 at').2 ft (.slice none 0 0) (.slice none 0 0) R R [] R p1 q1 (startedF w n0 at').1.now (startedF w n0 at').1.delay (tvA t1) (tvL t1 (startedF w n0 at').1.times.length) (tvZ t1) (startedF w n0 at').1.given h g1 g2 [] g4) ⟨l1, l2, l3, lk, Ev.eqF k0, Ev.eqT k1, ln, lt, r14, l4, l5, l7, r41, rfl, s1, s2, s3, Ev.eqT rfl, stat27, x1, x1, x2, x3, x3, x4, x5, x6, trivial⟩, x7, x8, dis, KH.trans_new x9 (fun x hx e => by omega), nW', nR'⟩
    · have hst : stepP w ⟨kd, n0, at', fk, ft⟩ = w := by simp [stepP, k0, k1]
      rw [hst]
      obtain ⟨c, j2, t2, g1, r1, aW1, k1', f1⟩ := copy_run2 aW3 hw
      have hc : c ≠ h.length + 2 := by have := f1 c (.inl rfl); omega
      obtain ⟨g4, x1, x2, x3, x4, x5, x6, x7, x8, x9⟩ := play_tail aW1 (a3.grow k1') hw hs (k1'.2 _ _ gb id) (k1'.2 _ _ gc id) (by omega) (fun r => by have := f1 _ r; omega) ⟨fun r => by have := hlt _ r; omega, by omega⟩
      refine ⟨c, j2, t2, p, q, t, _, pvF 0 Try.func27 (v4p.pl_2 w.rule w.most w.within w.base w.cap w.now w.delay o p q w.svs.length (tvA t) (tvL t w.times.length) (tvZ t) w.given i h.length (h.length + 1) (h.length + 2) 0 kd n0 at' fk 0 ft (.slice none 0 0) (.slice none 0 0) [] [] [] (rC o p q t w) 0 0 0 0 none 0 0 false h g1 [] [] g4 c)
        ⟨l1, l2, l3, lk, Ev.eqF k0, Ev.eqF k1, r1, stat27, x1, x1, x2, x3, x3, x4, x5, x6, trivial⟩, x7, x8, ?_, ?_, fun x r => .inr (by have := f1 x r; omega), fun x r => .inl r⟩
      · intro x r r2
        have := f1 x r2
        rcases r with r | r
        · have := hlt x r; omega
        · omega
      · exact ((K3.mono fun x _ e => e.elim).trans (k1'.mono fun x _ e => e.elim)).trans_new x9 (fun x hx e => by omega)

end Go.Proofs.Ytkkhokgpcifckaa.rf

namespace Go.Proofs.Ytkkhokgpcifckaa.rf
open Go Go.Ev Go.Proofs.Ytkkhokgpcifckaa.wd
set_option maxRecDepth 100000
set_option linter.constructorNameAsVariable false
set_option linter.unusedVariables false

variable {h h' g g' : Hp} {i j o p q : Nat} {t tw : Option Nat} {w : WS}

theorem stepP_ok (hw : WOk w) (ht : w.times.length < 10000) (hs : Sts w) (op : OpV) : WOk (stepP w op) ∧ SameSpec w (stepP w op) ∧ (stepP w op).svs.length = w.svs.length ∧ (stepP w op).times.length ≤ w.times.length + 1 ∧ Sts (stepP w op) := by
  unfold stepP
  split
  · rename_i k0
    have h1 := hw.ended ht op.n op.fk op.ft op.at'
    have h2 : SameSpec w (endedF w op.n op.fk op.ft op.at').1 := by have := run_same w op; simpa [runF, k0] using this
    exact ⟨h1.1, h2, h1.2.1, h1.2.2, hs.of (ended_wh w _ _ _ _)⟩
  · rename_i k0
    split
    · have h1 := hw.started op.n op.at'
      have h2 : SameSpec w (startedF w op.n op.at').1 := by have := run_same w op; simpa [runF, k0] using this
      exact ⟨h1.1, h2, h1.2.1, by rw [h1.2.2]; omega, hs.of (started_wh w _ _)⟩
    · exact ⟨hw, SameSpec.refl w, rfl, by omega, hs⟩

theorem plays_loop {a b7 : Nat} {l m : List OpV} {rw : Bool} (hm : m.length ≤ 100) (hml : ∀ (k : Nat) x, m[k]? = some x → l[k]? = some x) (ha : h[a]? = some (.cells (opC l) rw)) (hab : a ≠ b7)
    (aW : WAt h i j tw w) (aR : RAt h o p q t w) (hd : Dis i j tw o p q t) (hb : h[b7]? = some (.cells (rC o p q t w) true)) (n1 : ¬ fpW i j tw b7) (n2 : ¬ fpR p q t b7 ∧ b7 ≠ o) (n3 : ¬ fpW i j tw a) (hw : WOk w) (ht : w.times = []) (hs : Sts w) :
    ∃ E1 h1, LRun Try.prog 85 false (loopN Try.f8 0) [(67, .int .i64 (0 : Nat)), (66, .int .i64 (Int.ofNat m.length)), (65, .slice (some ⟨a, 0, none⟩) m.length 5), (7, .pointer (some ⟨b7, 0, none⟩)), (5, .pointer (some ⟨i, 0, none⟩))] h (.exit 0) E1 h1 := by
  obtain ⟨x', E1, h1, hl1, rfl⟩ := loop_inv (P := Try.prog) (n := 85) (rd := false) (b := loopN Try.f8 0) (Q := fun x' E1 h1 => x' = .exit 0)
    (fun mm E g => ∃ (k : Nat) (w : WS) (i j : Nat) (tw : Option Nat) (p q : Nat) (t : Option Nat), k ≤ m.length ∧ mm = m.length - k ∧ EnvLe [(67, .int .i64 k), (66, .int .i64 (Int.ofNat m.length)), (65, .slice (some ⟨a, 0, none⟩) m.length 5), (7, .pointer (some ⟨b7, 0, none⟩)), (5, .pointer (some ⟨i, 0, none⟩))] E ∧
      WAt g i j tw w ∧ RAt g o p q t w ∧ Dis i j tw o p q t ∧ g[b7]? = some (.cells (rC o p q t w) true) ∧ g[a]? = some (.cells (opC l) rw) ∧ ¬ fpW i j tw b7 ∧ (¬ fpR p q t b7 ∧ b7 ≠ o) ∧ ¬ fpW i j tw a ∧ WOk w ∧ w.times.length ≤ k ∧ Sts w)
    (fun mm E g ⟨k, w, i, j, tw, p, q, t, k1, k2, k3, aW, aR, hd, gb, ga, n1, n2, n3, hw, ht, hs⟩ => by
      by_cases e : k = m.length
      · right
        obtain ⟨E2, q1, q2⟩ := pvC 0 k3 (v5p.lp_out w.rule w.most w.within w.base w.cap w.now w.delay o p q w.svs.length (tvA t) (tvL t w.times.length) (tvZ t) w.given a m.length b7 i 0 0 0 0 k 0 0 0 0 0 ⟨#[]⟩ [] [] 0 0 0 0 none 0 0 false g g g) ⟨ltF (by simp; omega), trivial⟩
        exact ⟨_, E2, _, by simp, q2, rfl⟩
      · left
        obtain ⟨op, hop⟩ : ∃ op, m[k]? = some op := ⟨_, List.getElem?_eq_getElem (by omega)⟩
        have hopl := hml k op hop
        have hkl := get_lt' hopl
        have hlen := opC_len l
        have hgb := get_lt gb
        have hga := get_lt ga
        let zo : AObj := .cells [.int .i64 0, .int .i64 0, .int .i64 0, .int .i64 0, .string ⟨#[]⟩] true
        let gx : Hp := (g ++ [zo]).set g.length (.cells op.cells true)
        have Kx : Keep (fun _ => False) g gx := ((Keep.refl _ g).pushN _).setN (Nat.le_refl _) _
        have gbx := Kx.2 _ _ gb id
        have gax := Kx.2 _ _ ga id
        have gxx : gx[g.length]? = some (.cells op.cells true) := get_set_eq (get_new g _)
        have hgx : gx.length = g.length + 1 := by simp [gx]
        obtain ⟨i2, j2, tw2, p2, q2, t2, g1, rp, aW2, aR2, hd2, K2, nW, nR⟩ := play_run (aW.keep Kx (fun _ _ e => e.elim)) (aR.grow Kx) hd hw (by omega) hs op
        obtain ⟨s1, s2, s3, s4, s5⟩ := stepP_ok hw (by omega) hs op
        have hR : rC o p2 q2 t2 (stepP w op) = rC o p2 q2 t2 { w with now := (stepP w op).now, times := (stepP w op).times, delay := (stepP w op).delay, given := (stepP w op).given } := rC_gen s2 s3
        let R := rC o p2 q2 t2 { w with now := (stepP w op).now, times := (stepP w op).times, delay := (stepP w op).delay, given := (stepP w op).given }
        rw [hR] at rp
        have gb1 := K2.2 _ _ gbx n1
        have ga1 := K2.2 _ _ gax n3
        have hg1 := K2.1
        let g2 : Hp := (g1 ++ [zR]).set g1.length (.cells R true)
        have gy2 : g2[g1.length]? = some (.cells R true) := get_set_eq (get_new g1 _)
        have gb2 : g2[b7]? = some (.cells (rC o p q t w) true) := get_set_ne (get_push gb1) (by omega)
        let g3 : Hp := g2.set b7 (.cells R true)
        have K3 : Keep (fun x => x = b7 ∨ g1.length ≤ x) g1 g3 := ((Keep.push _ _ _).trans (Keep.set (fp := fun x => x = b7 ∨ g1.length ≤ x) (.inr (Nat.le_refl _)) _)).trans (Keep.set (.inl rfl) _)
        have m1 : ¬ fpW i2 j2 tw2 b7 := fun r => by rcases nW _ r with e | e; exact n1 e; omega
        have m2 : ¬ fpR p2 q2 t2 b7 := fun r => by rcases nR _ r with e | e; exact n2.1 e; omega
        have m3 : ¬ fpW i2 j2 tw2 a := fun r => by rcases nW _ r with e | e; exact n3 e; omega
        obtain ⟨E2, e1, e2⟩ := pvC 0 k3 (v5p.lp_go w.rule w.most w.within w.base w.cap w.now w.delay o p q w.svs.length (tvA t) (tvL t w.times.length) (tvZ t) w.given a m.length b7 i g.length g1.length i2 (k * 5) k ((k + 1 : Nat) : Int) op.kind op.n op.at' op.fk op.ft R R p2 q2 (stepP w op).now (stepP w op).delay (tvA t2) (tvL t2 (stepP w op).times.length) (tvZ t2) (stepP w op).given g g1 [])
          ⟨ltT (by simp; omega), offI rfl (by omega) (by omega), a_ldn ga (by omega) (opC_cut hopl), rfl, a_st (get_new g _) (by simp) rfl, a_ldn gbx (by simp [rC_len]) (by rfl), a_ldn gxx (by simp [OpV.cells]) rfl, rp, rfl, a_st (get_new g1 _) (by simp [R, rC_len]) (by rfl), a_ldn gy2 (by simp [R, rC_len]) (by rfl), a_st gb2 (by simp [R, rC_len]) (by rfl), inc (by omega), trivial⟩
        refine ⟨m.length - (k + 1), E2, _, by omega, e2, k + 1, stepP w op, i2, j2, tw2, p2, q2, t2, by omega, rfl, .trans (.add (.add (.add (.add (.add (.nil _) rfl) rfl) rfl) rfl) rfl) e1,
          aW2.keep K3 (fun x hx e r => by rcases e with e | e; exact m1 (e ▸ r); omega), aR2.keep K3 (fun x hx e => by rcases e with e | e; exact ⟨fun r => m2 (e ▸ r), fun r => n2.2 (e ▸ r)⟩; omega), hd2, ?_, K3.2 _ _ ga1 (by rintro (e | e); exact hab e; omega), m1, ⟨m2, n2.2⟩, m3, s1, by omega, s5⟩
        rw [hR]; exact get_set_eq gb2)
    m.length _ h ⟨0, w, i, j, tw, p, q, t, by omega, rfl, EnvLe.refl _, aW, aR, hd, hb, ha, n1, n2, n3, hw, by simp [ht], hs⟩
  exact ⟨E1, h1, hl1⟩

theorem plays_run {h : Hp} {v vl : Value} {l : List SvV} {ops : List OpV} (s : SpecV) (hS : SlAt h v l) (hO : OpsAt h vl ops) : ∃ h', Run Try.prog 8 [.agg (s.cells v).toArray, vl] h (.bool true) h' := by
  obtain ⟨r, m, wi, ba, ca⟩ := s
  let S : Value → List Value := fun v => SpecV.cells ⟨r, m, wi, ba, ca⟩ v
  let hA : Hp := h ++ [AObj.cells (S v) true]
  have KA : Keep (fun _ => False) h hA := Keep.push _ _ _
  have gb : hA[h.length]? = some (.cells (S v) true) := get_new h _
  have hAl : hA.length = h.length + 1 := by simp [hA]
  obtain ⟨v1, g1, r1, S1, K1⟩ := clipped_run ⟨r, m, wi, ba, ca⟩ (hS.keep KA)
  have ld0 : (Asm.ldn (.push (.is h) (.cells (S v) true)) h.length 0 6 (S v)).holds Try.prog := a_ldn gb (by simp [S, SpecV.cells]) rfl
  rcases new_run ⟨r, m, wi, ba, ca⟩ S1 with ⟨e, g2, r2, K2⟩ | ⟨e, i, j, g2, r2, K2, W, hi, hj⟩
  · have gb2 := K2.2 _ _ (K1.2 _ _ gb id) id
    have ld1 : (Asm.ldn (.is g2) h.length 0 6 (S v)).holds Try.prog := a_ldn gb2 (by simp [S, SpecV.cells]) rfl
    obtain ⟨v2, g3, r3, S3, K3⟩ := clipped_run ⟨r, m, wi, ba, ca⟩ (((hS.keep KA).keep K1).keep K2)
    rcases newR_run ⟨r, m, wi, ba, ca⟩ S3 with ⟨_, g4, r4, K4⟩ | ⟨e', _⟩
    · have gb4 := K4.2 _ _ (K3.2 _ _ gb2 id) id
      have Kb : Keep (fun _ => False) g4 ((g4 ++ [zR]).set g4.length (.cells z12 true)) := ((Keep.refl _ g4).pushN _).setN (Nat.le_refl _) _
      have gb5 := Kb.2 _ _ gb4 id
      have S5 := (((((hS.keep KA).keep K1).keep K2).keep K3).keep K4).keep Kb
      obtain ⟨v3, g5, r5, S5', K5⟩ := clipped_run ⟨r, m, wi, ba, ca⟩ S5
      obtain ⟨g6, r6, K6⟩ := check_run ⟨r, m, wi, ba, ca⟩ S5'
      have gb6 := K6.2 _ _ (K5.2 _ _ gb5 id) id
      obtain ⟨v4, g7, r7, S7, K7⟩ := clipped_run ⟨r, m, wi, ba, ca⟩ ((S5.keep K5).keep K6)
      obtain ⟨g8, r8, K8⟩ := check_run ⟨r, m, wi, ba, ca⟩ S7
      exact ⟨g8, pvF 0 Try.func8 (v5p.bad h.length g4.length r m wi ba ca (checkF ⟨r, m, wi, ba, ca⟩ (clipF l)) v vl v1 v2 v3 v4 z12 h g1 g2 g3 g4 g5 g6 g7 g8)
        ⟨rfl, ld0, r1, r2, ld1, r3, r4, rfl, a_st (get_new g4 _) (by simp) rfl, Ev.neF rfl, a_ldn gb5 (by simp [S, SpecV.cells]) rfl, r5, r6, Ev.neF rfl, Ev.neT e, Ev.eqT rfl, a_ldn gb6 (by simp [S, SpecV.cells]) rfl, r7, r8, Ev.eqT rfl, awake_run _, trivial⟩⟩
    · exact absurd e' e
  · have gb2 := K2.2 _ _ (K1.2 _ _ gb id) id
    have ld1 : (Asm.ldn (.is g2) h.length 0 6 (S v)).holds Try.prog := a_ldn gb2 (by simp [S, SpecV.cells]) rfl
    obtain ⟨v2, g3, r3, S3, K3⟩ := clipped_run ⟨r, m, wi, ba, ca⟩ (((hS.keep KA).keep K1).keep K2)
    obtain ⟨hw0, hwl, hh, hall⟩ := newW_ok e
    have W3 := W.keep K3 (fun _ _ e => e.elim)
    rcases newR_run ⟨r, m, wi, ba, ca⟩ S3 with ⟨e', _⟩ | ⟨_, o, p, q, g4, r4, K4, A4, hp, hq, hv2⟩
    · exact absurd e e'
    · have hg3 := K3.1
      have hW2 := W.lts
      -- the services lie apart of the warden
      have hoW : ¬ fpW i j none o := by
        rcases S3 with ⟨e1, _⟩ | ⟨o', rw', xs, e1, e2, e3⟩
        · rw [e1] at hv2; cases hv2
        · rw [e1] at hv2
          have ho : o' = o := by injection hv2 with h1; injection h1 with h2; injection h2
          subst ho
          have n1 : 1 ≤ (clipF l).length := by unfold headOk at hh; omega
          obtain ⟨x, hx⟩ : ∃ x, xs[0]? = some x := ⟨_, List.getElem?_eq_getElem (by rw [e3.1]; omega)⟩
          obtain ⟨y, hy⟩ : ∃ y, (clipF l)[0]? = some y := ⟨_, List.getElem?_eq_getElem (by omega)⟩
          have hav := (e3.2 0 x y hx hy).2.2
          have h1 := svhC_av hx
          have hns : ∀ n : Int, x.av ≠ .int .i64 n := fun n en => by
            rcases hav with ⟨e, _⟩ | ⟨_, _, e, _⟩ <;> rw [e] at en <;> cases en
          rintro (e | e | e)
          · subst e
            rw [W3.obj] at e2
            injection e2 with e2; injection e2 with e2 _
            rw [← e2] at h1
            simp [wCells] at h1
            exact hns _ h1.symm
          · subst e
            rw [W3.svs] at e2
            injection e2 with e2; injection e2 with e2 _
            rw [← e2] at h1
            obtain ⟨z, hz⟩ : ∃ z, (newW ⟨r, m, wi, ba, ca⟩ (clipF l)).svs[0]? = some z := ⟨_, List.getElem?_eq_getElem (by rw [hwl]; omega)⟩
            rw [(svC_get hz).2.1] at h1
            simp at h1
            exact hns _ h1.symm
          · cases e
      have gb4 := K4.2 _ _ (K3.2 _ _ gb2 id) id
      let R := rC o p q none (newW ⟨r, m, wi, ba, ca⟩ (clipF l))
      let g4b : Hp := (g4 ++ [zR]).set g4.length (.cells R true)
      have Kb : Keep (fun _ => False) g4 g4b := ((Keep.refl _ g4).pushN _).setN (Nat.le_refl _) _
      have gb5 := Kb.2 _ _ gb4 id
      have g7b : g4b[g4.length]? = some (.cells R true) := get_set_eq (get_new g4 _)
      have S5 := (((((hS.keep KA).keep K1).keep K2).keep K3).keep K4).keep Kb
      obtain ⟨v3, g5, r5, S5', K5⟩ := clipped_run ⟨r, m, wi, ba, ca⟩ S5
      obtain ⟨g6, r6, K6⟩ := check_run ⟨r, m, wi, ba, ca⟩ S5'
      rw [e] at r6
      have K46 := (Kb.trans K5).trans K6
      have g7c := K6.2 _ _ (K5.2 _ _ g7b id) id
      have W6 := (W3.keep K4 (fun _ _ e => e.elim)).keep K46 (fun _ _ e => e.elim)
      have A6 := A4.grow K46
      have hs : Sts (newW ⟨r, m, wi, ba, ca⟩ (clipF l)) := fun x hx => by
        simp only [newW] at hx
        obtain ⟨y, _, rfl⟩ := List.mem_map.1 hx
        simp [sv0]
      obtain ⟨g7, r7, K7⟩ := agree_run W6 A6 hw0 hs
      have g7d := K7.2 _ _ g7c id
      have W7 := W6.keep K7 (fun _ _ e => e.elim)
      have A7 := A6.grow K7
      have hl4 := K4.1
      have hdis : Dis i j none o p q none := fun x rx r2 => by
        rcases rx with (rx | rx | rx) | rx
        · have := hW2 x r2; omega
        · have := hW2 x r2; omega
        · cases rx
        · exact hoW (rx ▸ r2)
      have n1 : ¬ fpW i j none g4.length := fun r2 => by have := hW2 _ r2; omega
      have n2 : ¬ fpR p q none g4.length ∧ g4.length ≠ o := ⟨fun r2 => by have := A4.lts _ r2; omega, by have := A4.olt; omega⟩
      have ldb : (Asm.ldn (.is g6) g4.length 0 12 R).holds Try.prog := a_ldn g7c (by simp [R, rC_len]) (by rfl)
      have st7 : (Asm.st (.push (.is g4) zR) g4.length 0 R R).holds Try.prog := a_st (get_new g4 _) (by simp [R, rC_len]) (by rfl)
      rcases hO with ⟨rfl, _⟩ | ⟨a, rwo, rfl, ho⟩
      · exact ⟨g7, pvF 0 Try.func8 (v5p.ok_nil (newW ⟨r, m, wi, ba, ca⟩ (clipF l)).rule (newW ⟨r, m, wi, ba, ca⟩ (clipF l)).most (newW ⟨r, m, wi, ba, ca⟩ (clipF l)).within (newW ⟨r, m, wi, ba, ca⟩ (clipF l)).base (newW ⟨r, m, wi, ba, ca⟩ (clipF l)).cap (newW ⟨r, m, wi, ba, ca⟩ (clipF l)).now (newW ⟨r, m, wi, ba, ca⟩ (clipF l)).delay o p q (newW ⟨r, m, wi, ba, ca⟩ (clipF l)).svs.length (tvA none) (tvL none (newW ⟨r, m, wi, ba, ca⟩ (clipF l)).times.length) (tvZ none) (newW ⟨r, m, wi, ba, ca⟩ (clipF l)).given h.length g4.length i r m wi ba ca v v1 v2 v3 R h g1 g2 g3 g4 g5 g6 g7 [])
          ⟨rfl, ld0, r1, r2, ld1, r3, r4, rfl, st7, Ev.neF rfl, a_ldn gb5 (by simp [S, SpecV.cells]) rfl, r5, r6, Ev.neF rfl, Ev.neF rfl, ldb, r7, by simp [Asm.holds], by simp [Asm.holds, cmpB], awake_run _, trivial⟩⟩
      · have hol := get_lt ho
        have ho7 := K7.2 _ _ (K46.2 _ _ (K4.2 _ _ (K3.2 _ _ (K2.2 _ _ (K1.2 _ _ (KA.2 _ _ ho id) id) id) id) id) id) id
        have htl : (ops.take 100).length = min ops.length 100 := by simp [Nat.min_comm]
        have hg1 := K1.1
        have hg2 := K2.1
        obtain ⟨E1, g8, hl8⟩ := plays_loop (a := a) (b7 := g4.length) (m := ops.take 100) (l := ops) (by omega) (fun k x hx => by
          rw [List.getElem?_take] at hx
          split at hx
          · exact hx
          · cases hx) ho7 (by omega) W7 A7 hdis g7d n1 n2 (fun r2 => by rcases r2 with e | e | e; omega; omega; cases e) hw0 rfl hs
        rw [htl] at hl8
        exact ⟨g8, pvF 0 Try.func8 (v5p.ok_all (newW ⟨r, m, wi, ba, ca⟩ (clipF l)).rule (newW ⟨r, m, wi, ba, ca⟩ (clipF l)).most (newW ⟨r, m, wi, ba, ca⟩ (clipF l)).within (newW ⟨r, m, wi, ba, ca⟩ (clipF l)).base (newW ⟨r, m, wi, ba, ca⟩ (clipF l)).cap (newW ⟨r, m, wi, ba, ca⟩ (clipF l)).now (newW ⟨r, m, wi, ba, ca⟩ (clipF l)).delay o p q (newW ⟨r, m, wi, ba, ca⟩ (clipF l)).svs.length (tvA none) (tvL none (newW ⟨r, m, wi, ba, ca⟩ (clipF l)).times.length) (tvZ none) (newW ⟨r, m, wi, ba, ca⟩ (clipF l)).given h.length g4.length i r m wi ba ca v v1 v2 v3 R h g1 g2 g3 g4 g5 g6 g7 g8 a ops.length (min ops.length 100))
          ⟨rfl, ld0, r1, r2, ld1, r3, r4, rfl, st7, Ev.neF rfl, a_ldn gb5 (by simp [S, SpecV.cells]) rfl, r5, r6, Ev.neF rfl, Ev.neF rfl, ldb, r7, .inr ⟨rfl, by simp only [Int.ofNat_eq_natCast]; split <;> omega⟩, Ev.a_cut (by omega),
            a_loop (by kernel_rfl) (.add (.add (.add (.add (.add (.nil _) rfl) rfl) rfl) rfl) rfl) (.nil _) hl8, awake_run _, trivial⟩⟩

end Go.Proofs.Ytkkhokgpcifckaa.rf
