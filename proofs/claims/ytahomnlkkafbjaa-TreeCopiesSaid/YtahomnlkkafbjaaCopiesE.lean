import Derived.Test.YtahomnlkkafbjaaCopiesD
set_option linter.unusedVariables false
namespace Go.Proofs.Ytahomnlkkafbjaa.tr
open Go Go.Ev
set_option maxRecDepth 100000
set_option linter.unusedVariables false
set_option linter.constructorNameAsVariable false

/-! ### Lists of effects, one behind the other -/

theorem Step.setNew {ρ ρ' : Lay} {h h' : Hp} (S : Step ρ h ρ' h') {q : Nat} (hq : h.length ≤ q) (o : AObj) : Step ρ h ρ' (h'.set q o) :=
  ⟨S.keep.trans_new (Keep.set (fp := fun i => i = q) rfl _) fun i hi e => by omega, S.new, S.root⟩

theorem ef_appN {P : Program} {s : SH} {g : Hp} {w : Nat} {l : List Ef} {rw : Bool} (hs : s.den = g) (hw : g[w]? = some (.cells (efC l) rw)) (hn : l ≠ []) (hb : l.length ≤ 1000) : (Asm.appNil s w 0 l.length (l.length - 1) 5 48 (efC l) g.length).holds P := by
  have := efC_len l
  have : l.length ≠ 0 := fun e => hn (List.length_eq_zero_iff.1 e)
  rw [← hs] at hw ⊢
  exact ⟨by omega, ⟨_, cells_of hw, by omega, by rw [List.drop_zero, List.take_of_length_le (by omega)]⟩, efC_ones l, by omega, by omega, rfl⟩
theorem ef_app {P : Program} {s : SH} {g : Hp} {y w : Nat} {l m : List Ef} {rw : Bool} (hs : s.den = g) (hy : g[y]? = some (.cells (efC l) true)) (hw : g[w]? = some (.cells (efC m) rw)) (hn : m ≠ []) (hb : m.length ≤ 1000) (hl : l.length = 1) :
    (Asm.app s y 0 1 w 0 m.length (m.length - 1) 5 48 (efC (l ++ m)) (efC m) g.length).holds P := by
  have := efC_len m
  have := efC_len l
  have : m.length ≠ 0 := fun e => hn (List.length_eq_zero_iff.1 e)
  rw [← hs] at hw hy ⊢
  exact ⟨by omega, ⟨_, cells_of hw, by omega, by rw [List.drop_zero, List.take_of_length_le (by omega)]⟩, efC_ones m, by omega, by omega, ⟨_, own_of hy, by omega, by rw [List.drop_zero, List.take_of_length_le (by omega), efC_app]⟩, rfl⟩

theorem fin_len (t : TS) (s : Nat) : (t.fin s).2.length ≤ 1 := by
  unfold TS.fin
  split
  · simp
  · split
    · simp
    · split <;> simp

theorem blame_tks {t : TS} {s : Nat} {fk : Int} {ft : ByteArray} : (t.blame s fk ft).1.tks = t.tks := by
  unfold TS.blame
  split
  · split <;> rfl
  · rfl
theorem blame_get {t : TS} {s : Nat} {fk : Int} {ft : ByteArray} {y : Sc} (h : t.scs[s]? = some y) : ∃ y', (t.blame s fk ft).1.scs[s]? = some y' ∧ y'.live = y.live ∧ y'.ow = y.ow ∧ y'.su = y.su ∧ y'.ov = y.ov ∧ y'.tks = y.tks := by
  unfold TS.blame
  rw [h]
  simp only
  split
  · exact ⟨_, upS_at h, rfl, rfl, rfl, rfl, rfl⟩
  · exact ⟨_, h, rfl, rfl, rfl, rfl, rfl⟩
theorem blame_len {t : TS} {s : Nat} {fk : Int} {ft : ByteArray} : (t.blame s fk ft).1.scs.length = t.scs.length := by
  unfold TS.blame
  split
  · split
    · exact upS_len
    · rfl
  · rfl

/-! ### Fail -/

def TS.fail (t : TS) (n : Int) (fk : Int) (ft : ByteArray) : TS × List Ef × Int := match t.scope n with
  | (none, e) => (t, [], e)
  | (some s, _) => match t.scs[s]? with
    | none => (t, [], 6)
    | some y => if y.ov then (t, [], 6) else if fk = 1 ∧ faultB fk ft = true then ((t.blame s fk ft).1, if (t.blame s fk ft).2 then [⟨1, n, 0, 0, ⟨#[]⟩⟩] else [], 0) else (t, [], 2)

theorem TOk.fail {t : TS} {c : Nat} {n fk : Int} {ft : ByteArray} (ok : TOk c t) : TOk (c + 1) (t.fail n fk ft).1 := by
  have m := ok.mono (Nat.le_succ c)
  unfold TS.fail
  split
  · exact m
  · split
    · exact m
    · split
      · exact m
      · split
        · exact m.blame
        · exact m

section
variable {h : Hp} {ρ : Lay} {t : TS} {c r : Nat}

theorem fail_run (a : TAt h ρ t) (ok : TOk c t) (hc : c ≤ 100000) (hr : ρ .root = some r) (n fk : Int) (ft : ByteArray) :
    ∃ v h', Run Try.prog 32 [ptr r, .int .i64 n, .agg #[.int .i64 fk, .string ft]] h (.tuple #[v, .int .i64 (t.fail n fk ft).2.2]) h' ∧ TAt h' ρ (t.fail n fk ft).1 ∧ Step ρ h ρ h' ∧ EfV h' h.length ρ v (t.fail n fk ft).2.1 := by
  have a1 := a.push (.cells (fltC fk ft) true)
  have s1 := Step.push ρ h (.cells (fltC fk ft) true)
  have R := scope_run a1 ok hr n
  have nb : ¬ fpT ρ h.length := a.out (Nat.le_refl _)
  have gb : (h ++ [AObj.cells (fltC fk ft) true])[h.length]? = some (.cells (fltC fk ft) true) := get_new _ _
  rcases hq : t.scope n with ⟨k | k, e⟩
  · have e6 := scope_none hq
    subst e6
    rw [hq] at R
    have e' : t.fail n fk ft = (t, [], 6) := by simp only [TS.fail, hq]
    rw [e']
    exact ⟨_, _, pvF 0 Try.func32 (r2p.fl_err r 0 h.length 0 n 6 fk ft h (h ++ [AObj.cells (fltC fk ft) true]) h) ⟨rfl, R, neT (by omega), trivial⟩, a1, s1, .inl ⟨rfl, rfl⟩⟩
  · obtain ⟨rfl, hn, hk⟩ := scope_some hq
    obtain ⟨y, hy⟩ : ∃ y, t.scs[k]? = some y := ⟨_, List.getElem?_eq_getElem hk⟩
    obtain ⟨si, hs⟩ := a.sh.sc k hk
    rw [hq] at R
    simp only [inP, hs, pvv] at R
    have L3 : (Asm.ld1 (.is (h ++ [AObj.cells (fltC fk ft) true])) si 3 (.bool y.ov)).holds Try.prog := a1.ld1 rfl hs (by rw [cont_sc hy]; rfl)
    have Lb : (Asm.ld1 (.is (h ++ [AObj.cells (fltC fk ft) true])) h.length 0 (.int .i64 fk)).holds Try.prog := a_ld1 gb rfl
    cases ho : y.ov with
    | true =>
      rw [ho] at L3
      have e' : t.fail n fk ft = (t, [], 6) := by simp only [TS.fail, hq, hy, ho, if_true]
      rw [e']
      exact ⟨_, _, pvF 0 Try.func32 (r2p.fl_over r si h.length 0 n 0 fk ft h (h ++ [AObj.cells (fltC fk ft) true]) h) ⟨rfl, R, neF rfl, L3, trivial⟩, a1, s1, .inl ⟨rfl, rfl⟩⟩
    | false =>
      rw [ho] at L3
      by_cases c1 : fk = 1
      · have F := fault_run text_run (h ++ [AObj.cells (fltC fk ft) true]) fk ft
        have a2 := a1.push (.cells (fltC fk ft) true)
        have s2 := s1.trans (Step.push ρ _ (.cells (fltC fk ft) true))
        have gb2 : (h ++ [AObj.cells (fltC fk ft) true] ++ [AObj.cells (fltC fk ft) true])[h.length]? = some (.cells (fltC fk ft) true) := get_push gb
        have Ln : ∀ g, g[h.length]? = some (AObj.cells (fltC fk ft) true) → (Asm.ldn (.is g) h.length 0 2 (fltC fk ft)).holds Try.prog := fun g e => a_ldn e (by simp) rfl
        cases hf : faultB fk ft with
        | false =>
          rw [hf] at F
          have e' : t.fail n fk ft = (t, [], 2) := by
            simp only [TS.fail, hq, hy, ho, hf, Bool.false_eq_true, if_false, and_false]
          rw [e']
          exact ⟨_, _, pvF 0 Try.func32 (r2p.fl_bad r si h.length 0 n 0 fk ft h (h ++ [AObj.cells (fltC fk ft) true]) (h ++ [AObj.cells (fltC fk ft) true] ++ [AObj.cells (fltC fk ft) true])) ⟨rfl, R, neF rfl, L3, Lb, neF c1, Ln _ gb, F, trivial⟩, a2, s2, .inl ⟨rfl, rfl⟩⟩
        | true =>
          rw [hf] at F
          have e' : t.fail n fk ft = ((t.blame k fk ft).1, if (t.blame k fk ft).2 then [⟨1, n, 0, 0, ⟨#[]⟩⟩] else [], 0) := by
            simp only [TS.fail, hq, hy, ho, hf, Bool.false_eq_true, if_false]
            rw [if_pos ⟨c1, trivial⟩]
          rw [e']
          obtain ⟨g4, b1, b2, b3⟩ := blame_run a2 hy hs fk ft
          cases hb : (t.blame k fk ft).2 with
          | false =>
            rw [hb] at b1
            exact ⟨_, _, pvF 0 Try.func32 (r2p.fl_no r si h.length 0 n 0 fk ft h (h ++ [AObj.cells (fltC fk ft) true]) (h ++ [AObj.cells (fltC fk ft) true] ++ [AObj.cells (fltC fk ft) true]) g4) ⟨rfl, R, neF rfl, L3, Lb, neF c1, Ln _ gb, F, Ln _ gb2, b1, trivial⟩, b2, s2.trans b3, .inl ⟨rfl, rfl⟩⟩
          | true =>
            rw [hb] at b1
            refine ⟨_, _, pvF 0 Try.func32 (r2p.fl_yes r si h.length g4.length n 0 fk ft h (h ++ [AObj.cells (fltC fk ft) true]) (h ++ [AObj.cells (fltC fk ft) true] ++ [AObj.cells (fltC fk ft) true]) g4) ⟨rfl, R, neF rfl, L3, Lb, neF c1, Ln _ gb, F, Ln _ gb2, b1, rfl, trivial⟩, b2.push _, (s2.trans b3).trans (Step.push _ _ _), .inr ⟨by simp, _, rfl, ?_, (s2.trans b3).len, b2.out (Nat.le_refl _)⟩⟩
            exact get_new _ _
      · have e' : t.fail n fk ft = (t, [], 2) := by
          simp only [TS.fail, hq, hy, ho, c1, Bool.false_eq_true, if_false, false_and]
        rw [e']
        exact ⟨_, _, pvF 0 Try.func32 (r2p.fl_kind r si h.length 0 n 0 fk ft h (h ++ [AObj.cells (fltC fk ft) true]) h) ⟨rfl, R, neF rfl, L3, Lb, neT c1, trivial⟩, a1, s1, .inl ⟨rfl, rfl⟩⟩
end

/-! ### Leave -/

def TS.leave1 (t : TS) (k s : Nat) (fk : Int) (ft : ByteArray) : TS := ((t.blame s fk ft).1.upT k fun x => { x with lv := true }).upT k fun x => { x with fk := fk, ft := ft }
def liveE (s : Nat) (fk : Int) (y : Sc) : List Ef := if fk ≠ 0 ∧ 0 < y.live then [⟨1, ((s + 1 : Nat) : Int), 0, 0, ⟨#[]⟩⟩] else []
def TS.leave (t : TS) (n : Int) (fk : Int) (ft : ByteArray) : TS × List Ef × Int := match t.runs n with
  | (none, e) => (t, [], e)
  | (some k, _) => if faultB fk ft = false then (t, [], 2) else match t.tks[k]? with
    | none => (t, [], 6)
    | some x => match x.lv, x.opn.getLast? with
      | false, some (some s) => match t.scs[s]? with
        | some y => (((t.leave1 k s fk ft).fin s).1, liveE s fk y ++ ((t.leave1 k s fk ft).fin s).2, 0)
        | none => (t, [], 6)
      | _, _ => (t, [], 22)

theorem TOk.setT {t : TS} {c k : Nat} {f : Tk → Tk} (ok : TOk c t) (h : ∀ x, (f x).inn = x.inn) (h2 : ∀ x, (f x).opn = x.opn) : TOk c (t.upT k f) :=
  ok.upT fun x hx => ⟨h x, fun s hs => ok.opn k x s hx (by rw [← h2 x]; exact hs), by rw [h2 x]; exact ok.len k x hx⟩

theorem TOk.leave1 {t : TS} {c k s : Nat} {fk : Int} {ft : ByteArray} (ok : TOk c t) : TOk c (t.leave1 k s fk ft) :=
  TOk.setT (f := fun x => { x with fk := fk, ft := ft }) (TOk.setT (f := fun x => { x with lv := true }) ok.blame (fun _ => rfl) fun _ => rfl) (fun _ => rfl) fun _ => rfl
theorem TOk.leave {t : TS} {c : Nat} {n fk : Int} {ft : ByteArray} (ok : TOk c t) : TOk (c + 1) (t.leave n fk ft).1 := by
  have m := ok.mono (Nat.le_succ c)
  unfold TS.leave
  split
  · exact m
  · split
    · exact m
    · split
      · exact m
      · split
        · split
          · exact m.leave1.fin
          · exact m
        · exact m

theorem agg30 : aggSize Try.prog 30 = some (some 2) := by kernel_rfl
theorem stat31 : (Asm.stat (drawN Try.f31 0)).holds Try.prog := show statOk (drawN Try.f31 0) = true by kernel_rfl
theorem stat30 : (Asm.stat (drawN Try.f30 0)).holds Try.prog := show statOk (drawN Try.f30 0) = true by kernel_rfl

section
variable {h : Hp} {ρ : Lay} {t : TS} {c r : Nat}

/-- What is returned when finish has been called and nothing was said before it. -/
theorem tail0 {g5 g : Hp} {v5 : Value} {l5 : List Ef} (a : TAt g5 ρ t) (S : Step ρ h ρ g5) {lo : Nat} (hlo : h.length ≤ lo) (E : EfV g5 lo ρ v5 l5) (hb : l5.length ≤ 1000) :
    (v5 = .slice none 0 0 ∧ EfV g5 h.length ρ (.slice none 0 0) l5) ∨
    (∃ w, v5 = .slice (some ⟨w, 0, none⟩) l5.length 5 ∧ (Asm.appNil (.is g5) w 0 l5.length (l5.length - 1) 5 48 (efC l5) g5.length).holds Try.prog ∧ TAt (g5 ++ [.cells (efC l5) true]) ρ t ∧ Step ρ h ρ (g5 ++ [.cells (efC l5) true]) ∧ EfV (g5 ++ [.cells (efC l5) true]) h.length ρ (.slice (some ⟨g5.length, 0, none⟩) l5.length 5) l5) := by
  rcases E with ⟨rfl, rfl⟩ | ⟨hn, w, rfl, hw, h1, h2⟩
  · exact .inl ⟨rfl, .inl ⟨rfl, rfl⟩⟩
  · exact .inr ⟨w, rfl, ef_appN rfl hw hn hb, a.push _, S.trans (Step.push _ _ _), .inr ⟨hn, _, rfl, get_new _ _, S.len, a.out (Nat.le_refl _)⟩⟩

/-- The same, when one was said before it. -/
theorem tail1 {g5 : Hp} {v5 : Value} {l5 : List Ef} {y lo : Nat} {e1 : Ef} (a : TAt g5 ρ t) (S : Step ρ h ρ g5) (hy : g5[y]? = some (.cells (efC [e1]) true)) (hyl : h.length ≤ y) (ny : ¬ fpT ρ y) (E : EfV g5 lo ρ v5 l5) (hb : l5.length ≤ 1000) :
    (v5 = .slice none 0 0 ∧ EfV g5 h.length ρ (.slice (some ⟨y, 0, none⟩) 1 5) ([e1] ++ l5)) ∨
    (∃ w, v5 = .slice (some ⟨w, 0, none⟩) l5.length 5 ∧ (Asm.app (.is g5) y 0 1 w 0 l5.length (l5.length - 1) 5 48 (efC ([e1] ++ l5)) (efC l5) g5.length).holds Try.prog ∧ TAt (g5.set y .dead ++ [.cells (efC ([e1] ++ l5)) true]) ρ t ∧
      Step ρ h ρ (g5.set y .dead ++ [.cells (efC ([e1] ++ l5)) true]) ∧ EfV (g5.set y .dead ++ [.cells (efC ([e1] ++ l5)) true]) h.length ρ (.slice (some ⟨g5.length, 0, none⟩) (1 + l5.length) 5) ([e1] ++ l5)) := by
  rcases E with ⟨rfl, rfl⟩ | ⟨hn, w, rfl, hw, h1, h2⟩
  · exact .inl ⟨rfl, .inr ⟨by simp, y, rfl, hy, hyl, ny⟩⟩
  · refine .inr ⟨w, rfl, ef_app rfl hy hw hn hb rfl, (a.setN ny _).push _, (S.setNew hyl _).trans (Step.push _ _ _), .inr ⟨by simp, _, ?_, get_new' _ (by simp), S.len, a.out (Nat.le_refl _)⟩⟩
    simp; omega

theorem leave_run (a : TAt h ρ t) (ok : TOk c t) (hc : c ≤ 100000) (hr : ρ .root = some r) (n fk : Int) (ft : ByteArray) :
    ∃ v h', Run Try.prog 31 [ptr r, .int .i64 n, .agg #[.int .i64 fk, .string ft]] h (.tuple #[v, .int .i64 (t.leave n fk ft).2.2]) h' ∧ TAt h' ρ (t.leave n fk ft).1 ∧ Step ρ h ρ h' ∧ EfV h' h.length ρ v (t.leave n fk ft).2.1 := by
  have a1 := a.push (.cells (fltC fk ft) true)
  have s1 := Step.push ρ h (.cells (fltC fk ft) true)
  have R := runs_run a1 ok hr n
  have nb : ¬ fpT ρ h.length := a.out (Nat.le_refl _)
  have gb : (h ++ [AObj.cells (fltC fk ft) true])[h.length]? = some (.cells (fltC fk ft) true) := get_new _ _
  have Ln : ∀ (s : SH), s.den[h.length]? = some (AObj.cells (fltC fk ft) true) → (Asm.ldn s h.length 0 2 (fltC fk ft)).holds Try.prog := fun g e => a_ldn e (by simp) rfl
  rcases hq : t.runs n with ⟨k | k, e⟩
  · have e6 := runs_none hq
    subst e6
    rw [hq] at R
    have e' : t.leave n fk ft = (t, [], 6) := by simp only [TS.leave, hq]
    rw [e']
    exact ⟨_, _, pvF 0 Try.func31 (r2p.le_err r 0 0 h.length 0 0 n 6 fk 0 0 ft false (.bool true) [] [] [] 0 0 h (h ++ [AObj.cells (fltC fk ft) true]) h h h) ⟨rfl, R, neT (by omega), trivial⟩, a1, s1, .inl ⟨rfl, rfl⟩⟩
  · obtain ⟨rfl, hn, x, hx, he⟩ := runs_some hq
    obtain ⟨i, hi⟩ := a.sh.tk k (get_lt' hx)
    rw [hq] at R
    simp only [tkP, hi, pvv] at R
    have F := fault_run text_run (h ++ [AObj.cells (fltC fk ft) true]) fk ft
    have a2 := a1.push (.cells (fltC fk ft) true)
    have s2 := s1.trans (Step.push ρ _ (.cells (fltC fk ft) true))
    have gb2 : (h ++ [AObj.cells (fltC fk ft) true] ++ [AObj.cells (fltC fk ft) true])[h.length]? = some (.cells (fltC fk ft) true) := get_push gb
    obtain ⟨g3, hg3⟩ : ∃ g3, g3 = h ++ [AObj.cells (fltC fk ft) true] ++ [AObj.cells (fltC fk ft) true] := ⟨_, rfl⟩
    rw [← hg3] at F a2 s2 gb2
    cases hf : faultB fk ft with
    | false =>
      rw [hf] at F
      have e' : t.leave n fk ft = (t, [], 2) := by simp only [TS.leave, hq, hf, if_true]
      rw [e']
      exact ⟨_, _, pvF 0 Try.func31 (r2p.le_bad r i 0 h.length 0 0 n 0 fk 0 0 ft false (.bool true) [] [] [] 0 0 h (h ++ [AObj.cells (fltC fk ft) true]) g3 h h) ⟨rfl, R, neF rfl, Ln _ gb, F, trivial⟩, a2, s2, .inl ⟨rfl, rfl⟩⟩
    | true =>
      rw [hf] at F
      have I := inner_run a2 ok (by omega) hx hi
      have L3 : (Asm.ld1 (.is g3) i 3 (.bool x.lv)).holds Try.prog := a2.ld1 rfl hi (by rw [cont_tk hx]; rfl)
      cases hlv : x.lv with
      | true =>
        have e' : t.leave n fk ft = (t, [], 22) := by simp only [TS.leave, hq, hf, hx, hlv, Bool.true_eq_false, if_false]
        rw [e']
        rw [hlv] at L3
        refine ⟨_, _, ?_, a2, s2, .inl ⟨rfl, rfl⟩⟩
        cases hg : x.opn.getLast? with
        | none =>
          rw [hg] at I
          exact pvF 0 Try.func31 (r2p.le_lv r i 0 h.length 0 0 n 0 fk 0 0 ft false (.bool true) [] [] [] 0 0 h (h ++ [AObj.cells (fltC fk ft) true]) g3 h h (.pointer none) false) ⟨rfl, R, neF rfl, Ln _ gb, F, I, L3, trivial⟩
        | some v =>
          rw [hg] at I
          exact pvF 0 Try.func31 (r2p.le_lv r i 0 h.length 0 0 n 0 fk 0 0 ft false (.bool true) [] [] [] 0 0 h (h ++ [AObj.cells (fltC fk ft) true]) g3 h h (inP ρ v) true) ⟨rfl, R, neF rfl, Ln _ gb, F, I, L3, trivial⟩
      | false =>
        rw [hlv] at L3
        cases hg : x.opn.getLast? with
        | none =>
          rw [hg] at I
          have e' : t.leave n fk ft = (t, [], 22) := by simp only [TS.leave, hq, hf, hx, hlv, hg, Bool.true_eq_false, if_false]
          rw [e']
          exact ⟨_, _, pvF 0 Try.func31 (r2p.le_none r i 0 h.length 0 0 n 0 fk 0 0 ft false (.bool true) [] [] [] 0 0 h (h ++ [AObj.cells (fltC fk ft) true]) g3 h h (.pointer none)) ⟨rfl, R, neF rfl, Ln _ gb, F, I, L3, trivial⟩, a2, s2, .inl ⟨rfl, rfl⟩⟩
        | some v =>
          rw [hg] at I
          cases v with
          | none =>
            have e' : t.leave n fk ft = (t, [], 22) := by simp only [TS.leave, hq, hf, hx, hlv, hg, Bool.true_eq_false, if_false]
            rw [e']
            exact ⟨_, _, pvF 0 Try.func31 (r2p.le_shield r i 0 h.length 0 0 n 0 fk 0 0 ft false (.bool true) [] [] [] 0 0 h (h ++ [AObj.cells (fltC fk ft) true]) g3 h h) ⟨rfl, R, neF rfl, Ln _ gb, F, I, L3, trivial⟩, a2, s2, .inl ⟨rfl, rfl⟩⟩
          | some s =>
            have hsl := ok.opn k x s hx (List.mem_of_getLast? hg)
            obtain ⟨y, hy⟩ : ∃ y, t.scs[s]? = some y := ⟨_, List.getElem?_eq_getElem hsl⟩
            obtain ⟨si, hs⟩ := a.sh.sc s hsl
            simp only [innV, inP, hs, pvv] at I
            have e' : t.leave n fk ft = (((t.leave1 k s fk ft).fin s).1, liveE s fk y ++ ((t.leave1 k s fk ft).fin s).2, 0) := by simp only [TS.leave, hq, hf, hx, hlv, hg, hy, Bool.true_eq_false, if_false]
            rw [e']
            obtain ⟨g4, b1, b2, b3⟩ := blame_run a2 hy hs fk ft
            obtain ⟨y', hy', hl', _⟩ := blame_get (fk := fk) (ft := ft) hy
            have hx1 : (t.blame s fk ft).1.tks[k]? = some x := by rw [blame_tks]; exact hx
            have S4 := s2.trans b3
            have gb4 := b3.get gb2 nb
            have ok1 := ok.leave1 (k := k) (s := s) (fk := fk) (ft := ft)
            have lvl : (t.leave1 k s fk ft).scs.length = t.scs.length := blame_len
            -- what is said first, and the two writes
            have gen : ∀ (g : Hp), TAt g ρ (t.blame s fk ft).1 → Step ρ h ρ g → g[h.length]? = some (.cells (fltC fk ft) true) →
                ∃ c1 c2 v5 g5, (∀ (s : SH), s.den = g → (Asm.st s i 3 [.bool true] c1).holds Try.prog ∧ (Asm.again s 30 (ptr h.length) (.agg #[.int .i64 fk, .string ft])).holds Try.prog ∧ (Asm.ldn s h.length 0 2 (fltC fk ft)).holds Try.prog) ∧ (∀ (s : SH), s.den = g.set i (.cells c1 true) → (Asm.st s i 5 (fltC fk ft) c2).holds Try.prog ∧ (Asm.again s 30 (ptr h.length) (.agg #[.int .i64 fk, .string ft])).holds Try.prog) ∧
                  Run Try.prog 53 [ptr si] ((g.set i (.cells c1 true)).set i (.cells c2 true)) v5 g5 ∧ TAt g5 ρ ((t.leave1 k s fk ft).fin s).1 ∧ Step ρ g ρ g5 ∧ EfV g5 g.length ρ v5 ((t.leave1 k s fk ft).fin s).2 := fun g f1 f2 f3 => by
              obtain ⟨c1, u1, u2⟩ := f1.wTk (d := 3) (l := [.bool true]) (fun x => { x with lv := true }) hi hx1 rfl ⟨[], by simp⟩ (by simp) rfl
              have hx2 := upT_at (f := fun x => { x with lv := true }) hx1
              obtain ⟨c2, w1, w2⟩ := u2.wTk (d := 5) (l := fltC fk ft) (fun x => { x with fk := fk, ft := ft }) hi hx2 rfl ⟨[], by simp⟩ (by simp) rfl
              obtain ⟨v5, g5, q1, q2, q3, q4⟩ := fin_run w2 ok1 (by omega) hs (by show _ < (t.leave1 k s fk ft).scs.length; rw [lvl]; exact hsl)
              have ne : i ≠ h.length := fun e => nb ⟨_, by rw [← e]; exact hi⟩
              refine ⟨c1, c2, v5, g5, fun s e => ⟨u1 _ s e, a_againN agg30 (by rw [e]; exact f3) rfl rfl, Ln _ (by rw [e]; exact f3)⟩, fun s e => ⟨w1 _ s e, a_againN agg30 (by rw [e]; exact get_set_ne f3 ne) rfl rfl⟩, q1, q2, ((Step.set hi _).trans (Step.set hi _)).trans q3, ?_⟩
              rwa [set_len, set_len] at q4
            have hfl := fin_len (t.leave1 k s fk ft) s
            have Lk : (Asm.ld1 (.is g4) h.length 0 (.int .i64 fk)).holds Try.prog := a_ld1 gb4 rfl
            have Ll : (Asm.ld1 (.is g4) si 5 (.int .i64 y.live)).holds Try.prog := b2.ld1 rfl hs (by rw [cont_sc hy', ← hl']; rfl)
            by_cases c0 : fk = 0
            · have el : liveE s fk y = [] := by simp [liveE, c0]
              rw [el, List.nil_append]
              obtain ⟨c1, c2, v5, g5, k1, k2, k3, k4, k5, k6⟩ := gen g4 b2 S4 gb4
              obtain ⟨k11, k12, k13⟩ := k1 (.is g4) rfl
              obtain ⟨k21, k22⟩ := k2 (.set (.is g4) i (.cells c1 true)) rfl
              rcases tail0 (g := g5) k4 (S4.trans k5) S4.len k6 (by omega) with ⟨rfl, z⟩ | ⟨w, rfl, z1, z2, z3, z4⟩
              · exact ⟨_, _, pvF 0 Try.func31 (r2p.le_zn r i si h.length 0 0 n 0 fk 0 0 ft _ (.bool true) c1 c2 [] 0 0 h (h ++ [AObj.cells (fltC fk ft) true]) g3 g4 g5) ⟨rfl, R, neF rfl, Ln _ gb, F, I, L3, Ln _ gb2, b1, Lk, neF c0, stat31, k12, k12, k22, k13, k11, k21, k3, trivial⟩, k4, S4.trans k5, z⟩
              · exact ⟨_, _, pvF 0 Try.func31 (r2p.le_zs r i si h.length 0 0 n 0 fk 0 0 ft _ (.bool true) c1 c2 [] _ g5.length h (h ++ [AObj.cells (fltC fk ft) true]) g3 g4 g5 w _ [] _) ⟨rfl, R, neF rfl, Ln _ gb, F, I, L3, Ln _ gb2, b1, Lk, neF c0, stat31, k12, k12, k22, k13, k11, k21, k3, z1, trivial⟩, z2, z3, z4⟩
            · by_cases cl : 0 < y.live
              · have el : liveE s fk y = [⟨1, ((s + 1 : Nat) : Int), 0, 0, ⟨#[]⟩⟩] := by simp [liveE, c0, cl]
                rw [el]
                obtain ⟨g6, hg6⟩ : ∃ g6, g6 = g4 ++ [AObj.cells [.int .i64 1, .int .i64 ((s + 1 : Nat) : Int), .int .i64 0, .int .i64 0, .string ⟨#[]⟩] true] ++ [.cells (efC [⟨1, ((s + 1 : Nat) : Int), 0, 0, ⟨#[]⟩⟩]) true] := ⟨_, rfl⟩
                have a6 : TAt g6 ρ (t.blame s fk ft).1 := by rw [hg6]; exact (b2.push _).push _
                have S46 : Step ρ g4 ρ g6 := by rw [hg6]; exact (Step.push _ _ _).trans (Step.push _ _ _)
                have gy : g6[g4.length + 1]? = some (.cells (efC [⟨1, ((s + 1 : Nat) : Int), 0, 0, ⟨#[]⟩⟩]) true) := by rw [hg6]; exact get_new' _ (by simp)
                have ny : ¬ fpT ρ (g4.length + 1) := b2.out (by omega)
                obtain ⟨c1, c2, v5, g5, k1, k2, k3, k4, k5, k6⟩ := gen g6 a6 (S4.trans S46) (S46.get gb4 nb)
                obtain ⟨k11, k12, k13⟩ := k1 (.push (.push (.is g4) (.cells [.int .i64 1, .int .i64 ((s + 1 : Nat) : Int), .int .i64 0, .int .i64 0, .string ⟨#[]⟩] true)) (.cells (efC [⟨1, ((s + 1 : Nat) : Int), 0, 0, ⟨#[]⟩⟩]) true)) (by rw [hg6]; rfl)
                obtain ⟨k21, k22⟩ := k2 (.set (.push (.push (.is g4) (.cells [.int .i64 1, .int .i64 ((s + 1 : Nat) : Int), .int .i64 0, .int .i64 0, .string ⟨#[]⟩] true)) (.cells (efC [⟨1, ((s + 1 : Nat) : Int), 0, 0, ⟨#[]⟩⟩]) true)) i (.cells c1 true)) (by rw [hg6]; rfl)
                have Ls : (Asm.ld1 (.is g4) si 0 (.int .i64 ((s + 1 : Nat) : Int))).holds Try.prog := b2.ld1 rfl hs (by rw [cont_sc hy']; rfl)
                have An : (Asm.appNil (.push (.is g4) (.cells [.int .i64 1, .int .i64 ((s + 1 : Nat) : Int), .int .i64 0, .int .i64 0, .string ⟨#[]⟩] true)) g4.length 0 1 0 5 48 (efC [⟨1, ((s + 1 : Nat) : Int), 0, 0, ⟨#[]⟩⟩]) (g4.length + 1)).holds Try.prog := by
                  have := ef_appN (P := Try.prog) (s := .push (.is g4) (.cells [.int .i64 1, .int .i64 ((s + 1 : Nat) : Int), .int .i64 0, .int .i64 0, .string ⟨#[]⟩] true)) (g := g4 ++ [AObj.cells [.int .i64 1, .int .i64 ((s + 1 : Nat) : Int), .int .i64 0, .int .i64 0, .string ⟨#[]⟩] true]) (l := [⟨1, ((s + 1 : Nat) : Int), 0, 0, ⟨#[]⟩⟩]) rfl (get_new _ _) (by simp) (by simp)
                  rw [push_len] at this
                  exact this
                rw [hg6] at k3
                rcases tail1 (h := h) k4 ((S4.trans S46).trans k5) (k5.get gy ny) (by have := S4.len; omega) ny k6 (by omega) with ⟨rfl, z⟩ | ⟨w, rfl, z1, z2, z3, z4⟩
                · exact ⟨_, _, pvF 0 Try.func31 (r2p.le_en r i si h.length g4.length (g4.length + 1) n 0 fk y.live ((s + 1 : Nat) : Int) ft _ (.bool true) c1 c2 _ 0 0 h (h ++ [AObj.cells (fltC fk ft) true]) g3 g4 g5) ⟨rfl, R, neF rfl, Ln _ gb, F, I, L3, Ln _ gb2, b1, Lk, neT c0, Ll, gtT cl, Ls, rfl, An, stat31, k12, k12, k22, k13, k11, k21, k3, trivial⟩, k4, (S4.trans S46).trans k5, z⟩
                · exact ⟨_, _, pvF 0 Try.func31 (r2p.le_es r i si h.length g4.length (g4.length + 1) n 0 fk y.live ((s + 1 : Nat) : Int) ft _ (.bool true) c1 c2 _ _ g5.length h (h ++ [AObj.cells (fltC fk ft) true]) g3 g4 g5 w _ _ _) ⟨rfl, R, neF rfl, Ln _ gb, F, I, L3, Ln _ gb2, b1, Lk, neT c0, Ll, gtT cl, Ls, rfl, An, stat31, k12, k12, k22, k13, k11, k21, k3, z1, trivial⟩, z2, z3, z4⟩
              · have el : liveE s fk y = [] := by simp [liveE, cl]
                rw [el, List.nil_append]
                obtain ⟨c1, c2, v5, g5, k1, k2, k3, k4, k5, k6⟩ := gen g4 b2 S4 gb4
                obtain ⟨k11, k12, k13⟩ := k1 (.is g4) rfl
                obtain ⟨k21, k22⟩ := k2 (.set (.is g4) i (.cells c1 true)) rfl
                rcases tail0 (g := g5) k4 (S4.trans k5) S4.len k6 (by omega) with ⟨rfl, z⟩ | ⟨w, rfl, z1, z2, z3, z4⟩
                · exact ⟨_, _, pvF 0 Try.func31 (r2p.le_nn r i si h.length 0 0 n 0 fk y.live 0 ft _ (.bool true) c1 c2 [] 0 0 h (h ++ [AObj.cells (fltC fk ft) true]) g3 g4 g5) ⟨rfl, R, neF rfl, Ln _ gb, F, I, L3, Ln _ gb2, b1, Lk, neT c0, Ll, gtF (by omega), stat31, k12, k12, k22, k13, k11, k21, k3, trivial⟩, k4, S4.trans k5, z⟩
                · exact ⟨_, _, pvF 0 Try.func31 (r2p.le_ns r i si h.length 0 0 n 0 fk y.live 0 ft _ (.bool true) c1 c2 [] _ g5.length h (h ++ [AObj.cells (fltC fk ft) true]) g3 g4 g5 w _ [] _) ⟨rfl, R, neF rfl, Ln _ gb, F, I, L3, Ln _ gb2, b1, Lk, neT c0, Ll, gtF (by omega), stat31, k12, k12, k22, k13, k11, k21, k3, z1, trivial⟩, z2, z3, z4⟩
end

end Go.Proofs.Ytahomnlkkafbjaa.tr

namespace Go.Proofs.Ytahomnlkkafbjaa.tr
open Go Go.Ev
set_option maxRecDepth 100000
set_option linter.unusedVariables false
set_option linter.constructorNameAsVariable false

/-! ### End -/

def TS.end1 (t : TS) (k : Nat) (fk : Int) (ft : ByteArray) : TS := (t.upT k fun x => { x with en := true }).upT k fun x => { x with fk := fk, ft := ft }
def TS.end2 (t : TS) (k s : Nat) (fk : Int) (ft : ByteArray) : TS := (t.end1 k fk ft).upS s fun y => { y with live := y.live - 1 }
def TS.end3 (t : TS) (k s : Nat) (y : Sc) (fk : Int) (ft : ByteArray) : TS × Bool := if y.su then (t.end2 k s fk ft, false) else (t.end2 k s fk ft).blame s fk ft
def saidE (s : Nat) (b : Bool) : List Ef := if b then [⟨1, ((s + 1 : Nat) : Int), 0, 0, ⟨#[]⟩⟩] else []
def TS.end (t : TS) (n : Int) (fk : Int) (ft : ByteArray) : TS × List Ef × Int := match t.runs n with
  | (none, e) => (t, [], e)
  | (some k, _) => if faultB fk ft = false then (t, [], 2) else match t.tks[k]? with
    | none => (t, [], 6)
    | some x => if x.opn ≠ [] then (t, [], 22) else match x.inn with
      | none => (t.end1 k fk ft, [], 0)
      | some s => match t.scs[s]? with
        | none => (t, [], 6)
        | some y => (((t.end3 k s y fk ft).1.fin s).1, saidE s (t.end3 k s y fk ft).2 ++ ((t.end3 k s y fk ft).1.fin s).2, 0)

theorem TOk.end1 {t : TS} {c k : Nat} {fk : Int} {ft : ByteArray} (ok : TOk c t) : TOk c (t.end1 k fk ft) :=
  TOk.setT (f := fun x => { x with fk := fk, ft := ft }) (TOk.setT (f := fun x => { x with en := true }) ok (fun _ => rfl) fun _ => rfl) (fun _ => rfl) fun _ => rfl
theorem TOk.end2 {t : TS} {c k s : Nat} {fk : Int} {ft : ByteArray} (ok : TOk c t) : TOk (c + 1) (t.end2 k s fk ft) := by
  have m := (ok.end1 (k := k) (fk := fk) (ft := ft)).mono (Nat.le_succ c)
  refine m.upS fun y hy => ?_
  have h1 := (ok.end1 (k := k) (fk := fk) (ft := ft)).live s y hy
  exact ⟨rfl, fun j hj => m.mem s y j hy hj, m.mlen s y hy, by simp only; omega, by simp only; omega⟩
theorem TOk.end3 {t : TS} {c k s : Nat} {y : Sc} {fk : Int} {ft : ByteArray} (ok : TOk c t) : TOk (c + 1) (t.end3 k s y fk ft).1 := by
  unfold TS.end3
  split
  · exact ok.end2
  · exact ok.end2.blame
theorem TOk.end {t : TS} {c : Nat} {n fk : Int} {ft : ByteArray} (ok : TOk c t) : TOk (c + 1) (t.end n fk ft).1 := by
  have m := ok.mono (Nat.le_succ c)
  unfold TS.end
  split
  · exact m
  · split
    · exact m
    · split
      · exact m
      · split
        · exact m
        · split
          · exact m.end1
          · split
            · exact m
            · exact ok.end3.fin

section
variable {h : Hp} {ρ : Lay} {t : TS} {c r : Nat}

theorem end_run (a : TAt h ρ t) (ok : TOk c t) (hc : c ≤ 100000) (hr : ρ .root = some r) (n fk : Int) (ft : ByteArray) :
    ∃ v h', Run Try.prog 30 [ptr r, .int .i64 n, .agg #[.int .i64 fk, .string ft]] h (.tuple #[v, .int .i64 (t.end n fk ft).2.2]) h' ∧ TAt h' ρ (t.end n fk ft).1 ∧ Step ρ h ρ h' ∧ EfV h' h.length ρ v (t.end n fk ft).2.1 := by
  have a1 := a.push (AObj.cells (fltC fk ft) true)
  have s1 := Step.push ρ h (AObj.cells (fltC fk ft) true)
  have R := runs_run a1 ok hr n
  have nb : ¬ fpT ρ h.length := a.out (Nat.le_refl _)
  have gb : (h ++ [AObj.cells (fltC fk ft) true])[h.length]? = some (.cells (fltC fk ft) true) := get_new _ _
  have Ln : ∀ (s : SH), s.den[h.length]? = some (AObj.cells (fltC fk ft) true) → (Asm.ldn s h.length 0 2 (fltC fk ft)).holds Try.prog := fun g e => a_ldn e (by simp) rfl
  rcases hq : t.runs n with ⟨k | k, e⟩
  · have e6 := runs_none hq
    subst e6
    rw [hq] at R
    have e' : t.end n fk ft = (t, [], 6) := by simp only [TS.end, hq]
    rw [e']
    exact ⟨_, _, pvF 0 Try.func30 (r2p.en_err r 0 0 h.length 0 0 n 6 fk 0 0 ft false (.bool true) [] [] [] 0 0 h (h ++ [AObj.cells (fltC fk ft) true]) h h h) ⟨rfl, R, neT (by omega), trivial⟩, a1, s1, .inl ⟨rfl, rfl⟩⟩
  · obtain ⟨rfl, hn, x, hx, he⟩ := runs_some hq
    obtain ⟨i, hi⟩ := a.sh.tk k (get_lt' hx)
    rw [hq] at R
    simp only [tkP, hi, pvv] at R
    have F := fault_run text_run (h ++ [AObj.cells (fltC fk ft) true]) fk ft
    have a2 := a1.push (AObj.cells (fltC fk ft) true)
    have s2 := s1.trans (Step.push ρ _ (AObj.cells (fltC fk ft) true))
    have gb2 : (h ++ [AObj.cells (fltC fk ft) true] ++ [AObj.cells (fltC fk ft) true])[h.length]? = some (.cells (fltC fk ft) true) := get_push gb
    obtain ⟨g3, hg3⟩ : ∃ g3, g3 = h ++ [AObj.cells (fltC fk ft) true] ++ [AObj.cells (fltC fk ft) true] := ⟨_, rfl⟩
    rw [← hg3] at F a2 s2 gb2
    cases hf : faultB fk ft with
    | false =>
      rw [hf] at F
      have e' : t.end n fk ft = (t, [], 2) := by simp only [TS.end, hq, hf, if_true]
      rw [e']
      exact ⟨_, _, pvF 0 Try.func30 (r2p.en_bad r i 0 h.length 0 0 n 0 fk 0 0 ft false (.bool true) [] [] [] 0 0 h (h ++ [AObj.cells (fltC fk ft) true]) g3 h h) ⟨rfl, R, neF rfl, Ln _ gb, F, trivial⟩, a2, s2, .inl ⟨rfl, rfl⟩⟩
    | true =>
      rw [hf] at F
      have hlen := ok.len k x hx
      have Lo : (Asm.ld1 (.is g3) i 2 (slv (ρ (.op k)) x.opn.length)).holds Try.prog := a2.ld1 rfl hi (by rw [cont_tk hx]; rfl)
      by_cases ho : x.opn = []
      · have hl0 : x.opn.length = 0 := by rw [ho]; rfl
        -- the two writes
        obtain ⟨c1, u1, u2⟩ := a2.wTk (d := 4) (l := [.bool true]) (fun x => { x with en := true }) hi hx rfl ⟨[], by simp⟩ (by simp) rfl
        have hx2 := upT_at (f := fun x => { x with en := true }) hx
        obtain ⟨c2, w1, w2⟩ := u2.wTk (d := 5) (l := fltC fk ft) (fun x => { x with fk := fk, ft := ft }) hi hx2 rfl ⟨[], by simp⟩ (by simp) rfl
        have hx3 := upT_at (f := fun x => { x with fk := fk, ft := ft }) hx2
        have ne : i ≠ h.length := fun e => nb ⟨_, by rw [← e]; exact hi⟩
        obtain ⟨g, hg⟩ : ∃ g, g = (g3.set i (.cells c1 true)).set i (.cells c2 true) := ⟨_, rfl⟩
        have U1 : (Asm.st (.is g3) i 4 [.bool true] c1).holds Try.prog := u1 _ _ rfl
        have W1 : (Asm.st (.set (.is g3) i (.cells c1 true)) i 5 (fltC fk ft) c2).holds Try.prog := w1 _ _ rfl
        have k12 : (Asm.again (.is g3) 30 (ptr h.length) (.agg #[.int .i64 fk, .string ft])).holds Try.prog := a_againN agg30 gb2 rfl rfl
        have k22 : (Asm.again (.set (.is g3) i (.cells c1 true)) 30 (ptr h.length) (.agg #[.int .i64 fk, .string ft])).holds Try.prog := a_againN agg30 (get_set_ne gb2 ne) rfl rfl
        have k13 : (Asm.ldn (.is g3) h.length 0 2 (fltC fk ft)).holds Try.prog := Ln _ gb2
        have S5 : Step ρ h ρ ((g3.set i (.cells c1 true)).set i (.cells c2 true)) := (s2.trans (Step.set hi _)).trans (Step.set hi _)
        have Li : (Asm.ld1 (.set (.set (.is g3) i (.cells c1 true)) i (.cells c2 true)) i 1 (inP ρ x.inn)).holds Try.prog := w2.ld1 rfl hi (by rw [cont_tk hx3]; rfl)
        have gb5 : ((g3.set i (.cells c1 true)).set i (.cells c2 true))[h.length]? = some (.cells (fltC fk ft) true) := get_set_ne (get_set_ne gb2 ne) ne
        have hnil : ρ (.op k) = none → slv (ρ (.op k)) x.opn.length = .slice none 0 0 := fun e => by rw [e]; rfl
        cases hin : x.inn with
        | none =>
          have e' : t.end n fk ft = (t.end1 k fk ft, [], 0) := by simp only [TS.end, hq, hf, hx, ho, hin, Bool.true_eq_false, if_false, ne_eq, not_true_eq_false]
          rw [e']
          rw [hin] at Li
          refine ⟨_, _, ?_, w2, S5, .inl ⟨rfl, rfl⟩⟩
          cases hop : ρ (.op k) with
          | none =>
            rw [hop] at Lo
            exact pvF 0 Try.func30 (r2p.en_rootn r i 0 h.length 0 0 n 0 fk 0 0 ft false (.bool true) c1 c2 [] 0 0 h (h ++ [AObj.cells (fltC fk ft) true]) g3 h h 0 0) ⟨rfl, R, neF rfl, Ln _ gb, F, Lo, gtF (by omega), stat30, k12, k12, k22, k13, U1, W1, Li, trivial⟩
          | some oo =>
            rw [hop, hl0] at Lo
            exact pvF 0 Try.func30 (r2p.en_roots r i 0 h.length 0 0 n 0 fk 0 0 ft false (.bool true) c1 c2 [] 0 0 h (h ++ [AObj.cells (fltC fk ft) true]) g3 h h oo 0) ⟨rfl, R, neF rfl, Ln _ gb, F, Lo, gtF (by simp), stat30, k12, k12, k22, k13, U1, W1, Li, trivial⟩
        | some s =>
          have hsl := ok.inn k x s hx hin
          obtain ⟨y, hy⟩ : ∃ y, t.scs[s]? = some y := ⟨_, List.getElem?_eq_getElem hsl⟩
          obtain ⟨si, hs⟩ := a.sh.sc s hsl
          have hlv := ok.live s y hy
          rw [hin] at Li
          simp only [inP, hs, pvv] at Li
          have e' : t.end n fk ft = (((t.end3 k s y fk ft).1.fin s).1, saidE s (t.end3 k s y fk ft).2 ++ ((t.end3 k s y fk ft).1.fin s).2, 0) := by simp only [TS.end, hq, hf, hx, ho, hin, hy, Bool.true_eq_false, if_false, ne_eq, not_true_eq_false]
          rw [e']
          have hy1 : (t.end1 k fk ft).scs[s]? = some y := hy
          obtain ⟨c3, v1, v2⟩ := TAt.wSc (t := t.end1 k fk ft) w2 (d := 5) (l := [.int .i64 (y.live - 1)]) (fun y => { y with live := y.live - 1 }) hs hy1 rfl rfl (by simp) rfl
          have hy2 : (t.end2 k s fk ft).scs[s]? = some { y with live := y.live - 1 } := upS_at (g := fun y => { y with live := y.live - 1 }) hy1
          have v2' : TAt (((g3.set i (.cells c1 true)).set i (.cells c2 true)).set si (.cells c3 true)) ρ (t.end2 k s fk ft) := v2
          have S6 : Step ρ h ρ (((g3.set i (.cells c1 true)).set i (.cells c2 true)).set si (.cells c3 true)) := S5.trans (Step.set hs _)
          have nes : si ≠ h.length := fun e => nb ⟨_, by rw [← e]; exact hs⟩
          have gb6 : (((g3.set i (.cells c1 true)).set i (.cells c2 true)).set si (.cells c3 true))[h.length]? = some (.cells (fltC fk ft) true) := get_set_ne gb5 nes
          have Ll : (Asm.ld1 (.set (.set (.is g3) i (.cells c1 true)) i (.cells c2 true)) si 5 (.int .i64 y.live)).holds Try.prog := TAt.ld1 (t := t.end1 k fk ft) w2 rfl hs (by rw [cont_sc (x := y) hy1]; rfl)
          have Ar : (Asm.arith .sub .i64 y.live 1 (y.live - 1)).holds Try.prog := subI rfl (by omega) (by omega)
          have V1 : (Asm.st (.set (.set (.is g3) i (.cells c1 true)) i (.cells c2 true)) si 5 [.int .i64 (y.live - 1)] c3).holds Try.prog := v1 _ _ rfl
          have Lu : (Asm.ld1 (.set (.set (.set (.is g3) i (.cells c1 true)) i (.cells c2 true)) si (.cells c3 true)) si 2 (.bool y.su)).holds Try.prog := v2'.ld1 rfl hs (by rw [cont_sc hy2]; rfl)
          have Lf : (Asm.ldn (.set (.set (.set (.is g3) i (.cells c1 true)) i (.cells c2 true)) si (.cells c3 true)) h.length 0 2 (fltC fk ft)).holds Try.prog := Ln _ gb6
          have hfl := fin_len (t.end3 k s y fk ft).1 s
          have ok3 := ok.end3 (k := k) (s := s) (y := y) (fk := fk) (ft := ft)
          cases hsu : y.su with
          | true =>
            rw [hsu] at Lu
            have e3 : t.end3 k s y fk ft = (t.end2 k s fk ft, false) := by simp [TS.end3, hsu]
            rw [e3] at ok3 hfl ⊢
            obtain ⟨v5, g5, q1, q2, q3, q4⟩ := fin_run v2' ok3 (by omega) hs (get_lt' hy2)
            rw [show saidE s false = [] from rfl, List.nil_append]
            rcases tail0 (g := g5) q2 (S6.trans q3) S6.len q4 (by simp only at hfl; omega) with ⟨rfl, z⟩ | ⟨w, rfl, z1, z2, z3, z4⟩
            · refine ⟨_, _, ?_, q2, S6.trans q3, z⟩
              cases hop : ρ (.op k) with
              | none =>
                rw [hop] at Lo
                exact pvF 0 Try.func30 (r2p.en_nun r i si h.length 0 0 n 0 fk y.live 0 ft false (.bool true) c1 c2 [] 0 0 h (h ++ [AObj.cells (fltC fk ft) true]) g3 h g5 0 0 (y.live - 1) c3) ⟨rfl, R, neF rfl, Ln _ gb, F, Lo, gtF (by omega), stat30, k12, k12, k22, k13, U1, W1, Li, Ll, Ar, V1, Lu, q1, trivial⟩
              | some oo =>
                rw [hop, hl0] at Lo
                exact pvF 0 Try.func30 (r2p.en_sun r i si h.length 0 0 n 0 fk y.live 0 ft false (.bool true) c1 c2 [] 0 0 h (h ++ [AObj.cells (fltC fk ft) true]) g3 h g5 oo 0 (y.live - 1) c3) ⟨rfl, R, neF rfl, Ln _ gb, F, Lo, gtF (by simp), stat30, k12, k12, k22, k13, U1, W1, Li, Ll, Ar, V1, Lu, q1, trivial⟩
            · refine ⟨_, _, ?_, z2, z3, z4⟩
              cases hop : ρ (.op k) with
              | none =>
                rw [hop] at Lo
                exact pvF 0 Try.func30 (r2p.en_nus r i si h.length 0 0 n 0 fk y.live 0 ft false (.bool true) c1 c2 [] _ g5.length h (h ++ [AObj.cells (fltC fk ft) true]) g3 h g5 0 0 (y.live - 1) c3 w _ [] _) ⟨rfl, R, neF rfl, Ln _ gb, F, Lo, gtF (by omega), stat30, k12, k12, k22, k13, U1, W1, Li, Ll, Ar, V1, Lu, q1, z1, trivial⟩
              | some oo =>
                rw [hop, hl0] at Lo
                exact pvF 0 Try.func30 (r2p.en_sus r i si h.length 0 0 n 0 fk y.live 0 ft false (.bool true) c1 c2 [] _ g5.length h (h ++ [AObj.cells (fltC fk ft) true]) g3 h g5 oo 0 (y.live - 1) c3 w _ [] _) ⟨rfl, R, neF rfl, Ln _ gb, F, Lo, gtF (by simp), stat30, k12, k12, k22, k13, U1, W1, Li, Ll, Ar, V1, Lu, q1, z1, trivial⟩
          | false =>
            rw [hsu] at Lu
            have e3 : t.end3 k s y fk ft = (t.end2 k s fk ft).blame s fk ft := by simp [TS.end3, hsu]
            rw [e3] at ok3 hfl ⊢
            obtain ⟨g4, b1, b2, b3⟩ := blame_run v2' hy2 hs fk ft
            obtain ⟨y', hy', _⟩ := blame_get (fk := fk) (ft := ft) hy2
            have S7 := S6.trans b3
            cases hb : ((t.end2 k s fk ft).blame s fk ft).2 with
            | false =>
              rw [hb] at b1
              obtain ⟨v5, g5, q1, q2, q3, q4⟩ := fin_run b2 ok3 (by omega) hs (get_lt' hy')
              rw [show saidE s false = [] from rfl, List.nil_append]
              rcases tail0 (g := g5) q2 (S7.trans q3) S7.len q4 (by omega) with ⟨rfl, z⟩ | ⟨w, rfl, z1, z2, z3, z4⟩
              · refine ⟨_, _, ?_, q2, S7.trans q3, z⟩
                cases hop : ρ (.op k) with
                | none =>
                  rw [hop] at Lo
                  exact pvF 0 Try.func30 (r2p.en_nkn r i si h.length 0 0 n 0 fk y.live 0 ft false (.bool true) c1 c2 [] 0 0 h (h ++ [AObj.cells (fltC fk ft) true]) g3 g4 g5 0 0 (y.live - 1) c3) ⟨rfl, R, neF rfl, Ln _ gb, F, Lo, gtF (by omega), stat30, k12, k12, k22, k13, U1, W1, Li, Ll, Ar, V1, Lu, Lf, b1, q1, trivial⟩
                | some oo =>
                  rw [hop, hl0] at Lo
                  exact pvF 0 Try.func30 (r2p.en_skn r i si h.length 0 0 n 0 fk y.live 0 ft false (.bool true) c1 c2 [] 0 0 h (h ++ [AObj.cells (fltC fk ft) true]) g3 g4 g5 oo 0 (y.live - 1) c3) ⟨rfl, R, neF rfl, Ln _ gb, F, Lo, gtF (by simp), stat30, k12, k12, k22, k13, U1, W1, Li, Ll, Ar, V1, Lu, Lf, b1, q1, trivial⟩
              · refine ⟨_, _, ?_, z2, z3, z4⟩
                cases hop : ρ (.op k) with
                | none =>
                  rw [hop] at Lo
                  exact pvF 0 Try.func30 (r2p.en_nks r i si h.length 0 0 n 0 fk y.live 0 ft false (.bool true) c1 c2 [] _ g5.length h (h ++ [AObj.cells (fltC fk ft) true]) g3 g4 g5 0 0 (y.live - 1) c3 w _ [] _) ⟨rfl, R, neF rfl, Ln _ gb, F, Lo, gtF (by omega), stat30, k12, k12, k22, k13, U1, W1, Li, Ll, Ar, V1, Lu, Lf, b1, q1, z1, trivial⟩
                | some oo =>
                  rw [hop, hl0] at Lo
                  exact pvF 0 Try.func30 (r2p.en_sks r i si h.length 0 0 n 0 fk y.live 0 ft false (.bool true) c1 c2 [] _ g5.length h (h ++ [AObj.cells (fltC fk ft) true]) g3 g4 g5 oo 0 (y.live - 1) c3 w _ [] _) ⟨rfl, R, neF rfl, Ln _ gb, F, Lo, gtF (by simp), stat30, k12, k12, k22, k13, U1, W1, Li, Ll, Ar, V1, Lu, Lf, b1, q1, z1, trivial⟩
            | true =>
              rw [hb] at b1
              rw [show saidE s true = [⟨1, ((s + 1 : Nat) : Int), 0, 0, ⟨#[]⟩⟩] from rfl]
              have Ls : (Asm.ld1 (.is g4) si 0 (.int .i64 ((s + 1 : Nat) : Int))).holds Try.prog := b2.ld1 rfl hs (by rw [cont_sc hy']; rfl)
              have An : (Asm.appNil (.push (.is g4) (.cells [.int .i64 1, .int .i64 ((s + 1 : Nat) : Int), .int .i64 0, .int .i64 0, .string ⟨#[]⟩] true)) g4.length 0 1 0 5 48 (efC [⟨1, ((s + 1 : Nat) : Int), 0, 0, ⟨#[]⟩⟩]) (g4.length + 1)).holds Try.prog := by
                have := ef_appN (P := Try.prog) (s := .push (.is g4) (.cells [.int .i64 1, .int .i64 ((s + 1 : Nat) : Int), .int .i64 0, .int .i64 0, .string ⟨#[]⟩] true)) (g := g4 ++ [AObj.cells [.int .i64 1, .int .i64 ((s + 1 : Nat) : Int), .int .i64 0, .int .i64 0, .string ⟨#[]⟩] true]) (l := [⟨1, ((s + 1 : Nat) : Int), 0, 0, ⟨#[]⟩⟩]) rfl (get_new _ _) (by simp) (by simp)
                rw [push_len] at this
                exact this
              obtain ⟨g6, hg6⟩ : ∃ g6, g6 = g4 ++ [AObj.cells [.int .i64 1, .int .i64 ((s + 1 : Nat) : Int), .int .i64 0, .int .i64 0, .string ⟨#[]⟩] true] ++ [.cells (efC [⟨1, ((s + 1 : Nat) : Int), 0, 0, ⟨#[]⟩⟩]) true] := ⟨_, rfl⟩
              have a6 : TAt g6 ρ ((t.end2 k s fk ft).blame s fk ft).1 := by rw [hg6]; exact (b2.push _).push _
              have S46 : Step ρ g4 ρ g6 := by rw [hg6]; exact (Step.push _ _ _).trans (Step.push _ _ _)
              have gy : g6[g4.length + 1]? = some (.cells (efC [⟨1, ((s + 1 : Nat) : Int), 0, 0, ⟨#[]⟩⟩]) true) := by rw [hg6]; exact get_new' _ (by simp)
              have ny : ¬ fpT ρ (g4.length + 1) := b2.out (by omega)
              obtain ⟨v5, g5, q1, q2, q3, q4⟩ := fin_run a6 ok3 (by omega) hs (get_lt' hy')
              rw [hg6] at q1
              rcases tail1 (h := h) q2 ((S7.trans S46).trans q3) (q3.get gy ny) (by have := S7.len; omega) ny q4 (by omega) with ⟨rfl, z⟩ | ⟨w, rfl, z1, z2, z3, z4⟩
              · refine ⟨_, _, ?_, q2, (S7.trans S46).trans q3, z⟩
                cases hop : ρ (.op k) with
                | none =>
                  rw [hop] at Lo
                  exact pvF 0 Try.func30 (r2p.en_nbn r i si h.length g4.length (g4.length + 1) n 0 fk y.live ((s + 1 : Nat) : Int) ft false (.bool true) c1 c2 _ 0 0 h (h ++ [AObj.cells (fltC fk ft) true]) g3 g4 g5 0 0 (y.live - 1) c3) ⟨rfl, R, neF rfl, Ln _ gb, F, Lo, gtF (by omega), stat30, k12, k12, k22, k13, U1, W1, Li, Ll, Ar, V1, Lu, Lf, b1, Ls, rfl, An, q1, trivial⟩
                | some oo =>
                  rw [hop, hl0] at Lo
                  exact pvF 0 Try.func30 (r2p.en_sbn r i si h.length g4.length (g4.length + 1) n 0 fk y.live ((s + 1 : Nat) : Int) ft false (.bool true) c1 c2 _ 0 0 h (h ++ [AObj.cells (fltC fk ft) true]) g3 g4 g5 oo 0 (y.live - 1) c3) ⟨rfl, R, neF rfl, Ln _ gb, F, Lo, gtF (by simp), stat30, k12, k12, k22, k13, U1, W1, Li, Ll, Ar, V1, Lu, Lf, b1, Ls, rfl, An, q1, trivial⟩
              · refine ⟨_, _, ?_, z2, z3, z4⟩
                cases hop : ρ (.op k) with
                | none =>
                  rw [hop] at Lo
                  exact pvF 0 Try.func30 (r2p.en_nbs r i si h.length g4.length (g4.length + 1) n 0 fk y.live ((s + 1 : Nat) : Int) ft false (.bool true) c1 c2 _ _ g5.length h (h ++ [AObj.cells (fltC fk ft) true]) g3 g4 g5 0 0 (y.live - 1) c3 w _ _ _) ⟨rfl, R, neF rfl, Ln _ gb, F, Lo, gtF (by omega), stat30, k12, k12, k22, k13, U1, W1, Li, Ll, Ar, V1, Lu, Lf, b1, Ls, rfl, An, q1, z1, trivial⟩
                | some oo =>
                  rw [hop, hl0] at Lo
                  exact pvF 0 Try.func30 (r2p.en_sbs r i si h.length g4.length (g4.length + 1) n 0 fk y.live ((s + 1 : Nat) : Int) ft false (.bool true) c1 c2 _ _ g5.length h (h ++ [AObj.cells (fltC fk ft) true]) g3 g4 g5 oo 0 (y.live - 1) c3 w _ _ _) ⟨rfl, R, neF rfl, Ln _ gb, F, Lo, gtF (by simp), stat30, k12, k12, k22, k13, U1, W1, Li, Ll, Ar, V1, Lu, Lf, b1, Ls, rfl, An, q1, z1, trivial⟩
      · have hl1 : 0 < x.opn.length := List.length_pos_iff.2 ho
        have e' : t.end n fk ft = (t, [], 22) := by simp only [TS.end, hq, hf, hx, ho, Bool.true_eq_false, if_false, ne_eq, not_false_eq_true, if_true]
        rw [e']
        obtain ⟨oo, hop⟩ : ∃ oo, ρ (.op k) = some oo := by
          cases e : ρ (.op k) with
          | none => exact absurd (a.sh.op k x hx e) ho
          | some oo => exact ⟨oo, rfl⟩
        rw [hop] at Lo
        exact ⟨_, _, pvF 0 Try.func30 (r2p.en_open r i 0 h.length 0 0 n 0 fk 0 0 ft false (.bool true) [] [] [] 0 0 h (h ++ [AObj.cells (fltC fk ft) true]) g3 h h oo x.opn.length) ⟨rfl, R, neF rfl, Ln _ gb, F, Lo, gtT (by simp; omega), trivial⟩, a2, s2, .inl ⟨rfl, rfl⟩⟩
end

end Go.Proofs.Ytahomnlkkafbjaa.tr

namespace Go.Proofs.Ytahomnlkkafbjaa.tr
open Go Go.Ev
set_option maxRecDepth 100000
set_option linter.unusedVariables false
set_option linter.constructorNameAsVariable false

/-! ### Backward -/

theorem body67 : Try.f67.body = some (.seq (partC Try.f67 [0]) (.block 0 (.loop (loopN Try.f67 0)))) := by kernel_rfl

theorem backward_run {bb L : Nat} {vals : List Value} {sl : Value} (hn : vals.length ≤ 1000000) (I : Nat → Hp → Prop) (Q : Hp → Prop)
    (hbox : ∀ k g, I k g → g[bb]? = some (.cells [sl] true))
    (hsl : (vals = [] ∧ sl = .slice none 0 0) ∨ ∃ o, sl = .slice (some ⟨o, 0, none⟩) vals.length 1 ∧ ∀ (k : Nat) (g : Hp) (j : Nat) (v : Value), I k g → vals[j]? = some v → ∃ (c : List Value) (rw : Bool), g[o]? = some (.cells c rw) ∧ c[j]? = some v)
    (step : ∀ (k : Nat) v g, vals[k]? = some v → I (k + 1) g → (∃ g', RunR Try.prog L [.int .i64 k, v] g (.bool true) g' ∧ I k g') ∨ (∃ g', RunR Try.prog L [.int .i64 k, v] g (.bool false) g' ∧ Q g'))
    {g0 : Hp} (h0 : I vals.length g0) : ∃ g', Run Try.prog 67 [.func (.yield L) #[] #[], ptr bb] g0 (.tuple #[]) g' ∧ (I 0 g' ∨ Q g') := by
  have loop : ∀ (k : Nat) (E : Env) (g : Hp), k ≤ vals.length → EnvLe [(3, .int .i64 ((k : Int) - 1)), (1, ptr bb), (0, .func (.yield L) #[] #[])] E → I k g →
      ∃ x E1 g', LRun Try.prog 19 false (loopN Try.f67 0) E g x E1 g' ∧ ((x = .exit 0 ∧ I 0 g') ∨ (x = .ret ∧ Q g')) := by
    intro k
    induction k with
    | zero =>
      intro E g hk hE hi
      obtain ⟨E2, q1, q2⟩ := pvC 0 hE (r12p.bk_end bb L (((0 : Nat) : Int) - 1) g) ⟨geF (by omega), trivial⟩
      exact ⟨_, E2, g, .last q2 (by simp), .inl ⟨rfl, hi⟩⟩
    | succ k ih =>
      intro E g hk hE hi
      rw [show ((k + 1 : Nat) : Int) - 1 = (k : Int) by omega] at hE
      obtain ⟨v, hv⟩ : ∃ v, vals[k]? = some v := ⟨_, List.getElem?_eq_getElem (by omega)⟩
      rcases hsl with ⟨e, _⟩ | ⟨o, e, hc⟩
      · rw [e] at hk; simp at hk
      · have hb := hbox _ _ hi
        rw [e] at hb
        obtain ⟨c, rw', g1, g2⟩ := hc _ _ _ _ hi hv
        rcases step k v g hv hi with ⟨g', r1, r2⟩ | ⟨g', r1, r2⟩
        · obtain ⟨E2, q1, q2⟩ := pvC 0 hE (r12p.bk_go bb o vals.length L k k ((k : Int) - 1) v g g') ⟨geT (by omega), a_ld1 hb rfl, offI rfl (by omega) (by omega), a_ld1 g1 g2, r1, subI rfl (by omega) (by omega), trivial⟩
          obtain ⟨x, E3, g3, q3, q4⟩ := ih E2 g' (by omega) ((((EnvLe.nil _).add rfl).add rfl |>.add rfl).trans q1) r2
          exact ⟨x, E3, g3, .step q2 q3, q4⟩
        · obtain ⟨E2, q1, q2⟩ := pvC 0 hE (r12p.bk_stop bb o vals.length L k k 0 v g g') ⟨geT (by omega), a_ld1 hb rfl, offI rfl (by omega) (by omega), a_ld1 g1 g2, r1, trivial⟩
          exact ⟨_, E2, g', .last q2 (by simp), .inr ⟨rfl, r2⟩⟩
  have hr0 : ∃ E1, EnvLe [(3, .int .i64 ((vals.length : Int) - 1)), (1, ptr bb), (0, .func (.yield L) #[] #[])] E1 ∧ CRun Try.prog 19 false (partC Try.f67 [0]) (enterE 0 [.func (.yield L) #[] #[], ptr bb]) g0 .normal E1 g0 := by
    have hb := hbox _ _ h0
    rcases hsl with ⟨e1, e2⟩ | ⟨o, e, _⟩
    · rw [e2] at hb
      obtain ⟨E1, e1', c1⟩ := pvC 0 (EnvLe.refl _) (r12p.bk_r0 bb L 0 none 0 ((vals.length : Int) - 1) g0) ⟨a_ld1 hb rfl, subI (by rw [e1]; rfl) (by omega) (by omega), trivial⟩
      exact ⟨E1, .trans (.add (.add (.add (.nil _) rfl) rfl) rfl) e1', c1⟩
    · rw [e] at hb
      obtain ⟨E1, e1', c1⟩ := pvC 0 (EnvLe.refl _) (r12p.bk_r0 bb L vals.length (some ⟨o, 0, none⟩) 1 ((vals.length : Int) - 1) g0) ⟨a_ld1 hb rfl, subI rfl (by omega) (by omega), trivial⟩
      exact ⟨E1, .trans (.add (.add (.add (.nil _) rfl) rfl) rfl) e1', c1⟩
  obtain ⟨E1, e1, c1⟩ := hr0
  obtain ⟨x, E2, g', hl, hq⟩ := loop vals.length E1 g0 (Nat.le_refl _) e1 h0
  rcases hq with ⟨rfl, hi⟩ | ⟨rfl, hq⟩
  · exact ⟨g', Run.code Try.func67 body67 (.inl rfl) (c1.seq (CRun.block 0 (.of_loop hl))) rfl, .inl hi⟩
  · exact ⟨g', Run.code Try.func67 body67 (.inr rfl) (c1.seq (CRun.blockR 0 (.of_loop hl))) rfl, .inr hq⟩

/-! ### Spawn -/

/-- The innermost scope among open links. -/
def inmost : List (Option Nat) → Option Nat
  | [] => none
  | v :: l => match inmost l with
    | some s => some s
    | none => v

theorem inmost_none : ∀ {l : List (Option Nat)}, (∀ v, v ∈ l → v = none) → inmost l = none
  | [], _ => rfl
  | v :: l, h => by
    rw [inmost, inmost_none fun w hw => h w (List.mem_cons_of_mem _ hw)]
    exact h v (List.mem_cons_self)
theorem inmost_at : ∀ {l : List (Option Nat)} {k s : Nat}, l[k]? = some (some s) → (∀ (j : Nat) v, k + 1 ≤ j → l[j]? = some v → v = none) → inmost l = some s
  | [], k, s, h, _ => by simp at h
  | v :: l, 0, s, h, hn => by
    simp at h
    subst h
    rw [inmost, inmost_none fun w hw => ?_]
    obtain ⟨j, hj⟩ := List.getElem?_of_mem hw
    exact hn (j + 1) w (by omega) (by simpa using hj)
  | v :: l, k + 1, s, h, hn => by
    rw [inmost, inmost_at (l := l) (k := k) (s := s) (by simpa using h) fun j w hj hw => hn (j + 1) w (by omega) (by simpa using hw)]
theorem inmost_mem : ∀ {l : List (Option Nat)} {s : Nat}, inmost l = some s → some s ∈ l
  | [], s, h => by cases h
  | v :: l, s, h => by
    rw [inmost] at h
    cases e : inmost l with
    | none => rw [e] at h; simp only at h; rw [h]; exact List.mem_cons_self
    | some u => rw [e] at h; simp only at h; cases h; exact List.mem_cons_of_mem _ (inmost_mem e)

def TS.spawn (t : TS) (n : Int) : TS × Int × Int := match t.acts n with
  | (none, e) => (t, 0, e)
  | (some k, _) => match t.tks[k]? with
    | none => (t, 0, 6)
    | some x => match inmost x.opn with
      | none => (t, 0, 22)
      | some s => if 64 ≤ t.tks.length then (t, 0, 5) else (t.add (some s), ((t.tks.length + 1 : Nat) : Int), 0)

theorem TOk.spawn {t : TS} {c : Nat} {n : Int} (ok : TOk c t) : TOk (c + 1) (t.spawn n).1 := by
  have m := ok.mono (Nat.le_succ c)
  unfold TS.spawn
  split
  · exact m
  · split
    · exact m
    · rename_i x hx
      split
      · exact m
      · rename_i s hs
        split
        · exact m
        · exact ok.add (inn := some s) (by omega) fun s' e => by cases e; exact ok.opn _ x s hx (inmost_mem hs)

noncomputable def AS22 : Code := partC Try.f22 [1, 1, 1, 0, 1, 0, 0]
noncomputable def BD22 : Code := partC Try.f22 [1, 1, 1, 0, 1, 0, 1]
theorem body22 : Try.f22.body = some (chainT [partC Try.f22 [0], partC Try.f22 [1, 0], partC Try.f22 [1, 1, 0]] (.seq (.seq (partC Try.f22 [1, 1, 1, 0, 0]) (.block 0 (.rangeFunc (.tmp 23) #[24, 25] AS22 BD22))) (partC Try.f22 [1, 1, 1, 1]))) := by kernel_rfl
theorem agg3 : aggSize Try.prog 3 = some none := by kernel_rfl
theorem agg24 : aggSize Try.prog 24 = some none := by kernel_rfl

section
variable {h : Hp} {ρ : Lay} {t : TS} {c r : Nat}

theorem spawn_run (a : TAt h ρ t) (ok : TOk c t) (hc : c ≤ 100000) (hr : ρ .root = some r) (n : Int) :
    ∃ ρ' h', Run Try.prog 22 [ptr r, .int .i64 n] h (.tuple #[.int .i64 (t.spawn n).2.1, .int .i64 (t.spawn n).2.2]) h' ∧ TAt h' ρ' (t.spawn n).1 ∧ Step ρ h ρ' h' := by
  obtain ⟨g3, hg3⟩ : ∃ g3, g3 = h ++ [AObj.cells [ptr r] true] ++ [AObj.cells [.int .i64 0] true] ++ [AObj.cells [.int .i64 0] true] := ⟨_, rfl⟩
  have a3 : TAt g3 ρ t := by rw [hg3]; exact ((a.push _).push _).push _
  have S3 : Step ρ h ρ g3 := by rw [hg3]; exact ((Step.push _ _ _).trans (Step.push _ _ _)).trans (Step.push _ _ _)
  have l3 : g3.length = h.length + 3 := by rw [hg3]; simp
  have b2 : g3[h.length]? = some (.cells [ptr r] true) := by rw [hg3]; exact get_push (get_push (get_new _ _))
  have b4 : g3[h.length + 1]? = some (.cells [.int .i64 0] true) := by rw [hg3]; exact get_push (get_new' _ (by simp))
  have b5 : g3[h.length + 2]? = some (.cells [.int .i64 0] true) := by rw [hg3]; exact get_new' _ (by simp)
  have n2 : ¬ fpT ρ h.length := a.out (by omega)
  have n4 : ¬ fpT ρ (h.length + 1) := a.out (by omega)
  have n5 : ¬ fpT ρ (h.length + 2) := a.out (by omega)
  have R := acts_run a3 ok hr n
  have P1 : (Asm.len (.is h) h.length).holds Try.prog := rfl
  have P2 : (Asm.len (.push (.is h) (.cells [ptr r] true)) (h.length + 1)).holds Try.prog := push_len _ _
  have P3 : (Asm.len (.push (.push (.is h) (.cells [ptr r] true)) (.cells [.int .i64 0] true)) (h.length + 2)).holds Try.prog := by show (h ++ [_] ++ [_]).length = _; simp
  have P4 : (Asm.ld1 (.push (.push (.push (.is h) (.cells [ptr r] true)) (.cells [.int .i64 0] true)) (.cells [.int .i64 0] true)) h.length 0 (ptr r)).holds Try.prog := a_ld1 (by rw [← hg3.symm] at *; exact get_push (get_push (get_new _ _))) rfl
  have R' : ∀ v, Run Try.prog 46 [ptr r, .int .i64 n] g3 v g3 → (Asm.call 46 [ptr r, .int .i64 n] (.push (.push (.push (.is h) (.cells [ptr r] true)) (.cells [.int .i64 0] true)) (.cells [.int .i64 0] true)) v (.is g3)).holds Try.prog := fun v hv => by
    rw [hg3] at hv ⊢
    exact hv
  have two : ∀ (g : Hp) (E : Env) (v e : Value), EnvLe [(4, ptr (h.length + 1)), (5, ptr (h.length + 2))] E → g[h.length + 1]? = some (.cells [v] true) → g[h.length + 2]? = some (.cells [e] true) → evResults Try.prog Try.f22 E g = some (.tuple #[v, e]) := fun g E v e hE h1 h2 =>
    evResults_cells rfl (hE 4 _ rfl) (hE 5 _ rfl) agg3 agg24 h1 h2
  rcases hq : t.acts n with ⟨k | k, e⟩
  · rw [hq] at R
    have e' : t.spawn n = (t, 0, e) := by simp only [TS.spawn, hq]
    have e0 : ¬ e = 0 := by have := acts_none hq; omega
    rw [e']
    obtain ⟨E2, q1, q2⟩ := pvC 0 (EnvLe.refl _) (r12p.sp_err r 0 h.length (h.length + 1) (h.length + 2) n e [.int .i64 e] h g3) ⟨P1, P2, P3, P4, R' _ R, neT e0, a_st b4 (by simp) rfl, a_st (get_set_ne b5 (by omega)) (by simp) rfl, trivial⟩
    refine ⟨ρ, _, Run.code Try.func22 body22 (.inr rfl) (CRunStop q2 (by simp)) (two _ _ _ _ (.trans (.add (.add (.nil _) rfl) rfl) q1) (get_set_ne (get_set_eq b4) (by omega)) (get_set_eq (get_set_ne b5 (by omega)))), (a3.setN n4 _).setN n5 _, (S3.setNew (by omega) _).setNew (by omega) _⟩
  · obtain ⟨rfl, hn, x, hx, he, hl⟩ := acts_some hq
    have hk := get_lt' hx
    obtain ⟨i, hi⟩ := a.sh.tk k hk
    rw [hq] at R
    simp only [tkP, hi, pvv] at R
    have hlen := ok.len k x hx
    have n64 := ok.n64
    obtain ⟨E2, q1, q2⟩ := pvC 0 (EnvLe.refl _) (r12p.sp_pre r i h.length (h.length + 1) (h.length + 2) n 0 [] h g3) ⟨P1, P2, P3, P4, R' _ R, neF rfl, trivial⟩
    have Lo : (Asm.ld1 (.is g3) i 2 (slv (ρ (.op k)) x.opn.length)).holds Try.prog := a3.ld1 rfl hi (by rw [cont_tk hx]; rfl)
    obtain ⟨o, ln, z, hsl⟩ : ∃ o ln z, slv (ρ (.op k)) x.opn.length = .slice o ln z := by cases ρ (.op k) <;> exact ⟨_, _, _, rfl⟩
    rw [hsl] at Lo
    obtain ⟨E3, q3, q4⟩ := pvC 1 (.trans (.add (.add (.add (.add (.nil _) rfl) rfl) rfl) rfl) q1) (r12p.sp_r4 i h.length (h.length + 1) (h.length + 2) (h.length + 3) ln z o g3) ⟨Lo, l3, trivial⟩
    have hE3 : EnvLe [(2, ptr h.length), (4, ptr (h.length + 1)), (5, ptr (h.length + 2))] E3 := .trans (.add (.add (.add (.nil _) rfl) rfl) rfl) q3
    -- the frame of the range
    obtain ⟨g4, hg4⟩ : ∃ g4, g4 = g3 ++ [AObj.cells [.slice o ln z] true] := ⟨_, rfl⟩
    have q4' : CRun Try.prog 37 false (partC Try.f22 [1, 1, 1, 0, 0]) E2 g3 .normal E3 g4 := by rw [hg4]; exact q4
    have l4 : g4.length = h.length + 4 := by rw [hg4]; simp [l3]
    have a4 : TAt g4 ρ t := by rw [hg4]; exact a3.push _
    have S4 : Step ρ h ρ g4 := by rw [hg4]; exact S3.trans (Step.push _ _ _)
    have up4 : ∀ {q : Nat} {ob : AObj}, g3[q]? = some ob → g4[q]? = some ob := fun hq => by rw [hg4]; exact get_push hq
    have b3 : g4[h.length + 3]? = some (.cells [.slice o ln z] true) := by rw [hg4]; exact get_new' _ l3
    obtain ⟨lpR, hR⟩ : ∃ lp : AObj, lp = .loop .ready none E3 37 #[24, 25] AS22 BD22 := ⟨_, rfl⟩
    obtain ⟨lpB, hB⟩ : ∃ lp : AObj, lp = .loop .busy none E3 37 #[24, 25] AS22 BD22 := ⟨_, rfl⟩
    obtain ⟨gb, hgb⟩ : ∃ gb, gb = g4 ++ [lpB] := ⟨_, rfl⟩
    have ab : TAt gb ρ t := by rw [hgb]; exact a4.push _
    have Sb : Step ρ h ρ gb := by rw [hgb]; exact S4.trans (Step.push _ _ _)
    have upb : ∀ {q : Nat} {ob : AObj}, g3[q]? = some ob → gb[q]? = some ob := fun hq => by rw [hgb]; exact get_push (up4 hq)
    have lb : gb.length = h.length + 5 := by rw [hgb]; simp [l4]
    have lpb : gb[h.length + 4]? = some lpB := by rw [hgb]; exact get_new' _ l4
    have setB : (g4 ++ [lpR]).set (h.length + 4) lpB = gb := by rw [hgb, List.set_append_right _ _ (by omega), l4, Nat.sub_self]; rfl
    have setR : gb.set (h.length + 4) lpR = g4 ++ [lpR] := by rw [hgb, List.set_append_right _ _ (by omega), l4, Nat.sub_self]; rfl
    have lpr : (g4 ++ [lpR])[h.length + 4]? = some lpR := get_new' _ l4
    have hop : ∀ v, some v ∈ (x.opn.map some) → True := fun _ _ => trivial
    -- the rounds
    obtain ⟨g5, r1, r2⟩ := backward_run (bb := h.length + 3) (L := h.length + 4) (vals := x.opn.map (inP ρ)) (sl := .slice o ln z) (by simp; omega)
      (fun j g => g = g4 ++ [lpR] ∧ ∀ (m : Nat) v, j ≤ m → x.opn[m]? = some v → v = none)
      (fun g => ∃ s v e ρ', inmost x.opn = some s ∧ g[h.length + 1]? = some (.cells [.int .i64 v] true) ∧ g[h.length + 2]? = some (.cells [.int .i64 e] true) ∧ g[h.length + 4]? = some (.loop .done (some .ret) E3 37 #[24, 25] AS22 BD22) ∧
        TAt g ρ' (t.spawn n).1 ∧ Step ρ h ρ' g ∧ (t.spawn n).2 = (v, e) ∧ ¬ fpT ρ' (h.length + 4))
      (fun j g ⟨e, _⟩ => by rw [e]; exact get_push b3)
      (by
        cases ho : ρ (.op k) with
        | none =>
          left
          rw [ho] at hsl
          cases hsl
          exact ⟨by rw [a.sh.op k x hx ho]; rfl, rfl⟩
        | some oo =>
          right
          rw [ho] at hsl
          cases hsl
          refine ⟨oo, by simp, fun j g m v ⟨e, _⟩ hv => ?_⟩
          obtain ⟨junk, hj⟩ := a4.obj _ _ ho
          rw [cont_op hx] at hj
          exact ⟨_, true, by rw [e]; exact get_push hj, by rw [List.getElem?_append_left (get_lt' hv)]; exact hv⟩)
      (fun j v g hv ⟨eg, hnn⟩ => by
        subst eg
        rw [List.getElem?_map] at hv
        cases hw : x.opn[j]? with
        | none => rw [hw] at hv; cases hv
        | some w =>
          rw [hw] at hv
          simp only [Option.map_some, Option.some.injEq] at hv
          have hlp : (g4 ++ [lpR])[h.length + 4]? = some (.loop .ready none E3 37 #[24, 25] AS22 BD22) := by rw [lpr, hR]
          obtain ⟨E4, u1, u2⟩ := pvC 0 ((hE3.cons 24 (.int .i64 j)).cons 25 v) (r12p.sp_as h.length (h.length + 1) (h.length + 2) j v (g4 ++ [lpR])) trivial
          have u2' : CRun Try.prog 37 true AS22 ((25, v) :: (24, .int .i64 j) :: E3) (g4 ++ [lpR]) .normal E4 (g4 ++ [lpR]) := u2
          have hE4 : EnvLe [(9, v), (2, ptr h.length), (4, ptr (h.length + 1)), (5, ptr (h.length + 2))] E4 := .trans (.add (.add (.add (.add (.nil _) rfl) rfl) rfl) rfl) u1
          cases w with
          | none =>
            left
            have hv' : v = .pointer none := hv.symm
            subst hv'
            obtain ⟨E5, v1, v2⟩ := pvC 0 hE4 (r12p.sp_nil h.length (h.length + 1) (h.length + 2) 0 0 0 0 0 [] [] gb gb) trivial
            refine ⟨g4 ++ [lpR], RunR.go hlp rfl rfl u2' hlp (h4 := gb) (by rw [← hB, setB]; exact v2) (by rw [lpb, hB]) (by rw [← hR, setR]), rfl, fun m y hm hy => ?_⟩
            by_cases e : m = j
            · subst e; rw [hw] at hy; cases hy; rfl
            · exact hnn m y (by omega) hy
          | some s =>
            right
            have him : inmost x.opn = some s := inmost_at hw fun m y hm hy => hnn m y hm hy
            have hsl2 := ok.opn k x s hx (List.mem_of_getElem? hw)
            obtain ⟨si, hsi⟩ := a.sh.sc s hsl2
            simp only [inP, hsi, pvv] at hv
            subst hv
            obtain ⟨to, ht⟩ := a.sh.ts' hk
            have Lr : (Asm.ld1 (.is gb) h.length 0 (ptr r)).holds Try.prog := a_ld1 (upb b2) rfl
            have Lt := ab.hdT hr (P := Try.prog) (s := .is gb) rfl
            rw [ht] at Lt
            by_cases h64 : 64 ≤ t.tks.length
            · have es : t.spawn n = (t, 0, 5) := by simp only [TS.spawn, hq, hx, him, h64, if_true]
              obtain ⟨E5, v1, v2⟩ := pvC 0 hE4 (r12p.sp_full h.length (h.length + 1) (h.length + 2) r si to t.tks.length 0 [.int .i64 0] [.int .i64 5] gb gb) ⟨Lr, Lt, geT (by simp; omega), a_st (upb b4) (by simp) rfl, a_st (get_set_ne (upb b5) (by omega)) (by simp) rfl, trivial⟩
              refine ⟨_, RunR.ret (h4 := (gb.set (h.length + 1) (.cells [.int .i64 0] true)).set (h.length + 2) (.cells [.int .i64 5] true)) hlp rfl rfl u2' hlp (by rw [← hB, setB]; exact v2) (get_set_ne (get_set_ne (by rw [lpb, hB]) (by omega)) (by omega)) rfl, s, 0, 5, ρ, him, ?_, ?_, get_set_eq (get_set_ne (get_set_ne lpb (by omega)) (by omega)), ?_, ?_, by rw [es], a.out (by omega)⟩
              · exact get_set_ne (get_set_ne (get_set_eq (upb b4)) (by omega)) (by omega)
              · exact get_set_ne (get_set_eq (get_set_ne (upb b5) (by omega))) (by omega)
              · rw [es]; exact ((ab.setN n4 _).setN n5 _).setN (a.out (by omega)) _
              · exact ((Sb.setNew (by omega) _).setNew (by omega) _).setNew (by omega) _
            · have es : t.spawn n = (t.add (some s), ((t.tks.length + 1 : Nat) : Int), 0) := by simp only [TS.spawn, hq, hx, him, h64, if_false]
              obtain ⟨ρ', g6, w1, w2, w3⟩ := add_run ab ok hc (by omega) hr (inn := some s) fun s' e => by cases e; exact hsl2
              simp only [inP, hsi, pvv] at w1
              have c4 := w3.get (upb b4) n4
              have c5 := w3.get (upb b5) n5
              have cL := w3.get lpb (a.out (by omega))
              have m4 := w3.out (q := h.length + 1) (by omega) n4
              have m5 := w3.out (q := h.length + 2) (by omega) n5
              have mL := w3.out (q := h.length + 4) (by omega) (a.out (by omega))
              obtain ⟨E5, v1, v2⟩ := pvC 0 hE4 (r12p.sp_ok h.length (h.length + 1) (h.length + 2) r si to t.tks.length ((t.tks.length + 1 : Nat) : Int) [.int .i64 ((t.tks.length + 1 : Nat) : Int)] [.int .i64 0] gb g6) ⟨Lr, Lt, geF (by simp; omega), Lr, w1, a_st c4 (by simp) rfl, a_st (get_set_ne c5 (by omega)) (by simp) rfl, trivial⟩
              refine ⟨_, RunR.ret (h4 := (g6.set (h.length + 1) (.cells [.int .i64 ((t.tks.length + 1 : Nat) : Int)] true)).set (h.length + 2) (.cells [.int .i64 0] true)) hlp rfl rfl u2' hlp (by rw [← hB, setB]; exact v2) (get_set_ne (get_set_ne (by rw [cL, hB]) (by omega)) (by omega)) rfl, s, _, 0, ρ', him, ?_, ?_, get_set_eq (get_set_ne (get_set_ne cL (by omega)) (by omega)), ?_, ?_, by rw [es], mL⟩
              · exact get_set_ne (get_set_ne (get_set_eq c4) (by omega)) (by omega)
              · exact get_set_ne (get_set_eq (get_set_ne c5 (by omega))) (by omega)
              · rw [es]; exact ((w2.setN m4 _).setN m5 _).setN mL _
              · exact (((Sb.trans w3).setNew (by omega) _).setNew (by omega) _).setNew (by omega) _)
      (g0 := g4 ++ [lpR]) ⟨rfl, fun m v hm hv => by have := get_lt' hv; simp at hm; omega⟩
    have hgv : evalO E3 (.tmp 23) = some (.func (.func 67) #[] #[ptr (h.length + 3)]) := q3 23 _ rfl
    have r1' : Run Try.prog 67 ([.func (.yield g4.length) #[] #[]] ++ (#[ptr (h.length + 3)] : Array Value).toList) (g4 ++ [.loop .ready none E3 37 #[24, 25] AS22 BD22]) (.tuple #[]) g5 := by rw [l4, ← hR]; exact r1
    rcases r2 with ⟨rfl, hall⟩ | ⟨s, v, e, ρ', him, c4, c5, cL, w2, w3, es, nL⟩
    · have him : inmost x.opn = none := inmost_none fun v hv => by
        obtain ⟨m, hm⟩ := List.getElem?_of_mem hv
        exact hall m v (by omega) hm
      have es : t.spawn n = (t, 0, 22) := by simp only [TS.spawn, hq, hx, him]
      rw [es]
      have c2 : CRun Try.prog 37 false (.rangeFunc (.tmp 23) #[24, 25] AS22 BD22) E3 g4 .normal E3 ((g4 ++ [lpR]).set g4.length .dead) := CRun.range (pend := none) hgv r1' (by rw [l4, lpr, hR]) rfl
      rw [l4] at c2
      have d4 : ((g4 ++ [lpR]).set (h.length + 4) .dead)[h.length + 1]? = some (.cells [.int .i64 0] true) := get_set_ne (get_push (up4 b4)) (by omega)
      have d5 : ((g4 ++ [lpR]).set (h.length + 4) .dead)[h.length + 2]? = some (.cells [.int .i64 0] true) := get_set_ne (get_push (up4 b5)) (by omega)
      obtain ⟨E6, p1, p2⟩ := pvC 0 (.trans (.add (.add (.nil _) rfl) rfl) hE3) (r12p.sp_post (h.length + 1) (h.length + 2) [.int .i64 0] [.int .i64 22] ((g4 ++ [lpR]).set (h.length + 4) .dead)) ⟨a_st d4 (by simp) rfl, a_st (get_set_ne d5 (by omega)) (by simp) rfl, trivial⟩
      refine ⟨ρ, _, Run.code Try.func22 body22 (.inr rfl) (CRunChain q2 (CRun.seq (CRun.seq q4' (CRun.blockN 0 c2)) p2)) (two _ _ _ _ p1 (get_set_ne (get_set_eq d4) (by omega)) (get_set_eq (get_set_ne d5 (by omega)))), ?_, ?_⟩
      · exact (((a4.push lpR).setN (a.out (by omega)) _).setN n4 _).setN n5 _
      · exact (((S4.trans (Step.push _ _ _)).setNew (by omega) _).setNew (by omega) _).setNew (by omega) _
    · have c2 : CRun Try.prog 37 false (.rangeFunc (.tmp 23) #[24, 25] AS22 BD22) E3 g4 .ret E3 (g5.set g4.length .dead) := CRun.rangeD (pend := some .ret) hgv r1' (by rw [l4]; exact cL) rfl
      rw [l4] at c2
      rw [es]
      refine ⟨ρ', _, Run.code Try.func22 body22 (.inr rfl) (CRunChain q2 (CRun.stop (CRun.seq q4' (CRun.blockR 0 c2)) (by simp))) (two _ _ _ _ (.trans (.add (.add (.nil _) rfl) rfl) hE3) (get_set_ne c4 (by omega)) (get_set_ne c5 (by omega))), w2.setN nL _, w3.setNew (by omega) _⟩
end

end Go.Proofs.Ytahomnlkkafbjaa.tr

namespace Go.Proofs.Ytahomnlkkafbjaa.tr
open Go Go.Ev
set_option maxRecDepth 100000
set_option linter.unusedVariables false
set_option linter.constructorNameAsVariable false

/-! ### Lists that are made -/

/-- A slice of n things of z cells each, that is new from lo on. -/
def SlV (h : Hp) (lo : Nat) (v : Value) (n z : Nat) (cs : List Value) : Prop :=
  (n = 0 ∧ cs = [] ∧ v = .slice none 0 0) ∨ (n ≠ 0 ∧ cs.length = n * z ∧ ∃ o, v = .slice (some ⟨o, 0, none⟩) n z ∧ h[o]? = some (.cells cs true) ∧ lo ≤ o)

theorem SlV.keep {h h' : Hp} {lo n z : Nat} {v : Value} {cs : List Value} {fp : Nat → Prop} (a : SlV h lo v n z cs) (K : Keep fp h h') (hf : ∀ q, fp q → q < lo) : SlV h' lo v n z cs := by
  rcases a with a | ⟨a1, a2, o, a3, a4, a5⟩
  · exact .inl a
  · exact .inr ⟨a1, a2, o, a3, K.2 _ _ a4 fun e => by have := hf _ e; omega, a5⟩
theorem SlV.mono {h : Hp} {lo lo' n z : Nat} {v : Value} {cs : List Value} (a : SlV h lo v n z cs) (hl : lo' ≤ lo) : SlV h lo' v n z cs := by
  rcases a with a | ⟨a1, a2, o, a3, a4, a5⟩
  · exact .inl a
  · exact .inr ⟨a1, a2, o, a3, a4, by omega⟩
theorem SlV.at {h : Hp} {lo n z : Nat} {v : Value} {cs : List Value} (a : SlV h lo v n z cs) (hn : n ≠ 0) : ∃ o, v = .slice (some ⟨o, 0, none⟩) n z ∧ h[o]? = some (.cells cs true) ∧ lo ≤ o := by
  rcases a with ⟨e, _⟩ | ⟨_, _, a⟩
  · exact absurd e hn
  · exact a

theorem a_appGN {P : Program} {s : SH} {d q z b : Nat} {item : List Value} (hi : item.length = z) (ho : item.all Value.oneCell' = true) (hb : b ≤ 1000) (h2 : s.den[d]? = some (.cells item true)) (hq : s.den.length = q) :
    (Asm.appNil s d 0 1 0 z b item q).holds P := ⟨rfl, ⟨_, cells_of h2, by omega, by rw [List.drop_zero, List.take_of_length_le (by omega)]⟩, ho, by omega, by omega, hq⟩
theorem a_appGS {P : Program} {s : SH} {i n d q z b : Nat} {cs item : List Value} (hi : item.length = z) (ho : item.all Value.oneCell' = true) (hb : b ≤ 1000) (hn : n ≤ 1000000) (hl : cs.length = n * z) (h1 : s.den[i]? = some (.cells cs true)) (h2 : s.den[d]? = some (.cells item true)) (hq : s.den.length = q) :
    (Asm.app s i 0 n d 0 1 0 z b (cs ++ item) item q).holds P := by
  have m : (n + 1) * b ≤ 140737488355328 := Nat.le_trans (Nat.mul_le_mul (show n + 1 ≤ 1000001 by omega) hb) (by omega)
  exact ⟨rfl, ⟨_, cells_of h2, by omega, by rw [List.drop_zero, List.take_of_length_le (by omega)]⟩, ho, m, by omega, ⟨_, own_of h1, by omega, by rw [List.drop_zero, List.take_of_length_le (by omega)]⟩, hq⟩

/-! ### Links -/

def lkC : Option Nat → List Value
  | none => [.int .i64 3, .int .i64 0]
  | some s => [.int .i64 2, .int .i64 ((s + 1 : Nat) : Int)]
def lkL : List (Option Nat) → List Value
  | [] => []
  | v :: l => lkC v ++ lkL l
theorem lkC_len (v : Option Nat) : (lkC v).length = 2 := by cases v <;> rfl
theorem lkC_ones (v : Option Nat) : (lkC v).all Value.oneCell' = true := by cases v <;> rfl
theorem lkL_len : ∀ l : List (Option Nat), (lkL l).length = l.length * 2
  | [] => rfl
  | v :: l => by simp [lkL, lkC_len, lkL_len l]; omega
theorem lkL_app : ∀ l m : List (Option Nat), lkL (l ++ m) = lkL l ++ lkL m
  | [], _ => rfl
  | v :: l, m => by simp [lkL, lkL_app l m]
def lkK : Option Nat → Int
  | none => 3
  | some _ => 2
def lkN : Option Nat → Int
  | none => 0
  | some s => ((s + 1 : Nat) : Int)
theorem lkC_eq (v : Option Nat) : lkC v = [.int .i64 (lkK v), .int .i64 (lkN v)] := by cases v <;> rfl

section
variable {h : Hp} {ρ : Lay} {t : TS} {c r : Nat}

theorem link_run (a : TAt h ρ t) (v : Option Nat) (hv : ∀ s, v = some s → s < t.scs.length) : ∃ h', Run Try.prog 40 [inP ρ v] h (.agg #[.int .i64 (lkK v), .int .i64 (lkN v)]) h' ∧ Keep (fun _ => False) h h' := by
  have K : ∀ o o', Keep (fun _ => False) h ((h ++ [o]).set h.length o') := fun o o' => ((Keep.refl _ h).pushN o).setN (Nat.le_refl _) o'
  cases v with
  | none => exact ⟨_, pvF 0 Try.func40 (r2p.li_nil h.length h) ⟨rfl, a_st (get_new _ _) (by simp) rfl, a_ldn (get_set_eq (get_new _ _)) (by simp) rfl, trivial⟩, K _ _⟩
  | some s =>
    have hs := hv s rfl
    obtain ⟨i, hi⟩ := a.sh.sc s hs
    obtain ⟨y, hy⟩ : ∃ y, t.scs[s]? = some y := ⟨_, List.getElem?_eq_getElem hs⟩
    simp only [inP, hi, pvv]
    exact ⟨_, pvF 0 Try.func40 (r2p.li_some h.length i ((s + 1 : Nat) : Int) h) ⟨rfl, (a.push _).ld1 rfl hi (by rw [cont_sc hy]; rfl), a_st (get_new _ _) (by simp) rfl, a_ldn (get_set_eq (get_new _ _)) (by simp) rfl, trivial⟩, K _ _⟩

/-! ### Task -/

theorem stat13 (k : Nat) (hk : k = 0 ∨ k = 1) : (Asm.stat (drawN Try.f13 k)).holds Try.prog := by
  rcases hk with rfl | rfl
  · exact show statOk (drawN Try.f13 0) = true by kernel_rfl
  · exact show statOk (drawN Try.f13 1) = true by kernel_rfl
theorem agg33 : aggSize Try.prog 33 = some none := by kernel_rfl

theorem take_one {α : Type} {l : List α} {k : Nat} {x : α} (h : l[k]? = some x) : l.take (k + 1) = l.take k ++ [x] := by rw [List.take_add_one, h]; rfl

theorem task_loop (a : TAt h ρ t) {kk : Nat} {x : Tk} {oo : Nat} (hx : t.tks[kk]? = some x) (ho : ρ (.op kk) = some oo) (hin : ∀ s, some s ∈ x.opn → s < t.scs.length) (hlen : x.opn.length ≤ 1000000) {e0 e1 e2 e3 e4 : Value} {z4 : List Value} :
    ∀ (j i : Nat) (E : Env) (g : Hp) (v : Value), i + j = x.opn.length → EnvLe [(71, .int .i64 (i : Int)), (70, .int .i64 (Int.ofNat x.opn.length)), (69, .slice (some ⟨oo, 0, none⟩) x.opn.length 1), (7, ptr (h.length + 1)), (4, ptr h.length)] E →
      Keep (fun _ => False) h g → g[h.length]? = some (.cells z4 true) → g[h.length + 1]? = some (.cells [e0, e1, e2, e3, e4, v] true) → SlV g (h.length + 2) v i 2 (lkL (x.opn.take i)) →
      ∃ E1 g' v', EnvLe [(7, ptr (h.length + 1)), (4, ptr h.length)] E1 ∧ LRun Try.prog 84 false (loopN Try.f13 0) E g (.exit 1) E1 g' ∧ Keep (fun _ => False) h g' ∧ g'[h.length]? = some (.cells z4 true) ∧ g'[h.length + 1]? = some (.cells [e0, e1, e2, e3, e4, v'] true) ∧ SlV g' (h.length + 2) v' x.opn.length 2 (lkL x.opn) := by
  intro j
  induction j with
  | zero =>
    intro i E g v hi hE K h4 h7 hv
    have e : i = x.opn.length := by omega
    subst e
    rw [List.take_length] at hv
    obtain ⟨E2, q1, q2⟩ := pvC 0 hE (r13p.tl_out (h.length + 1) h.length oo x.opn.length 0 0 0 0 0 _ 0 0 0 (.bool true) [] [] [] g g) ⟨ltF (by simp), trivial⟩
    exact ⟨E2, g, v, .trans (.add (.add (.nil _) rfl) rfl) q1, .last q2 (by simp), K, h4, h7, hv⟩
  | succ j ih =>
    intro i E g v hi hE K h4 h7 hv
    obtain ⟨w, hw⟩ : ∃ w, x.opn[i]? = some w := ⟨_, List.getElem?_eq_getElem (by omega)⟩
    have ag := a.grow K
    have hgl := K.1
    obtain ⟨g2, r1, K2⟩ := link_run ag w fun s e => hin s (by rw [← e]; exact List.mem_of_getElem? hw)
    have K2l := K2.1
    have g1 : (Asm.cmp .lss (i : Int) (Int.ofNat x.opn.length) true).holds Try.prog := ltT (by simp; omega)
    have g2' : (Asm.off i 0 (i : Int) x.opn.length 1).holds Try.prog := offI (q := i) rfl (by omega) (by omega)
    have g3 : (Asm.ld1 (.is g) oo i (inP ρ w)).holds Try.prog := ag.ld1 rfl ho (by rw [cont_op hx, List.getElem?_map, hw]; rfl)
    have g4 : (Asm.arith .add .i64 (i : Int) 1 ((i + 1 : Nat) : Int)).holds Try.prog := addI rfl (by omega) (by omega)
    have h72 := K2.2 _ _ h7 id
    have h42 := K2.2 _ _ h4 id
    have h7l := get_lt h7
    have vr : veqR v = true := by rcases hv with ⟨_, _, e⟩ | ⟨_, _, o, e, _⟩ <;> rw [e] <;> rfl
    have ga : (Asm.again (.is g) 33 (.pointer (some ⟨h.length + 1, 5, none⟩)) v).holds Try.prog := a_again1 agg33 h7 rfl vr
    have gb : (Asm.again (.is g2) 33 (.pointer (some ⟨h.length + 1, 5, none⟩)) v).holds Try.prog := a_again1 agg33 h72 rfl vr
    have gl : (Asm.ld1 (.is g) (h.length + 1) 5 v).holds Try.prog := a_ld1 h7 rfl
    have hnew : g2[g2.length]? = none := by simp
    rcases hv with ⟨e0', e1', rfl⟩ | ⟨hn, hl, o, rfl, hob, hol⟩
    · subst e0'
      obtain ⟨E2, q1, q2⟩ := pvC 0 hE (r13p.tl_gon (h.length + 1) h.length oo x.opn.length 0 0 g2.length (g2.length + 1) 0 _ ((0 + 1 : Nat) : Int) (lkK w) (lkN w) (inP ρ w) [] (lkC w) [e0, e1, e2, e3, e4, .slice (some ⟨g2.length + 1, 0, none⟩) 1 2] g g2)
        ⟨g1, g2', g3, stat13 1 (.inr rfl), ga, ga, gb, gl, r1, rfl, a_appGN (lkC_len w) (lkC_ones w) (by omega) (by rw [lkC_eq]; exact get_new _ _) (push_len _ _), a_st (get_push (get_push h72)) (by simp) rfl, g4, trivial⟩
      obtain ⟨E3, g5, v', s1, s2, s3⟩ := ih 1 E2 ((g2 ++ [AObj.cells [.int .i64 (lkK w), .int .i64 (lkN w)] true] ++ [AObj.cells (lkC w) true]).set (h.length + 1) (AObj.cells [e0, e1, e2, e3, e4, .slice (some ⟨g2.length + 1, 0, none⟩) 1 2] true)) (.slice (some ⟨g2.length + 1, 0, none⟩) 1 2) (by omega)
        (.trans (.add (.add (.add (.add (.add (.nil _) rfl) rfl) rfl) rfl) rfl) q1) ((((K.trans K2).pushN _).pushN _).setN (by omega) _) (get_set_ne (get_push (get_push h42)) (by omega)) (get_set_eq (get_push (get_push h72)))
        (.inr ⟨by omega, by rw [take_one hw]; simp [lkL_len], g2.length + 1, rfl, by rw [take_one hw]; exact get_set_ne (by simp [lkL]) (by omega), by omega⟩)
      exact ⟨E3, g5, v', s1, .step q2 s2, s3⟩
    · have ho2 := K2.2 _ _ hob id
      have hol2 := get_lt hob
      obtain ⟨E2, q1, q2⟩ := pvC 0 hE (r13p.tl_gos (h.length + 1) h.length oo x.opn.length i o g2.length (g2.length + 1) i _ ((i + 1 : Nat) : Int) (lkK w) (lkN w) (inP ρ w) (lkL (x.opn.take i) ++ lkC w) (lkC w) [e0, e1, e2, e3, e4, .slice (some ⟨g2.length + 1, 0, none⟩) (i + 1) 2] g g2)
        ⟨g1, g2', g3, stat13 1 (.inr rfl), ga, ga, gb, gl, r1, rfl, a_appGS (lkC_len w) (lkC_ones w) (by omega) (by omega) hl (get_push ho2) (by rw [lkC_eq]; exact get_new _ _) (push_len _ _), a_st (get_push (get_set_ne (get_push h72) (by omega))) (by simp) rfl, g4, trivial⟩
      obtain ⟨E3, g5, v', s1, s2, s3⟩ := ih (i + 1) E2 (((g2 ++ [AObj.cells [.int .i64 (lkK w), .int .i64 (lkN w)] true]).set o .dead ++ [AObj.cells (lkL (x.opn.take i) ++ lkC w) true]).set (h.length + 1) (AObj.cells [e0, e1, e2, e3, e4, .slice (some ⟨g2.length + 1, 0, none⟩) (i + 1) 2] true)) (.slice (some ⟨g2.length + 1, 0, none⟩) (i + 1) 2) (by omega)
        (.trans (.add (.add (.add (.add (.add (.nil _) rfl) rfl) rfl) rfl) rfl) q1) (((((K.trans K2).pushN _).setN (by omega) _).pushN _).setN (by omega) _) (get_set_ne (get_push (get_set_ne (get_push h42) (by omega))) (by omega)) (get_set_eq (get_push (get_set_ne (get_push h72) (by omega))))
        (.inr ⟨by omega, by rw [take_one hw, lkL_len, List.length_append, List.length_take, List.length_singleton]; congr 1; omega, g2.length + 1, rfl, by
          rw [take_one hw, lkL_app]
          refine get_set_ne ?_ (by omega)
          rw [show lkL [w] = lkC w by simp [lkL]]
          exact get_new' _ (by simp), by omega⟩)
      exact ⟨E3, g5, v', s1, .step q2 s2, s3⟩

/-- What is said of a task. -/
structure TkV where
  sc : Int
  en : Bool
  lv : Bool
  fk : Int
  ft : ByteArray
  op : List (Option Nat)
def TkV.zero : TkV := ⟨0, false, false, 0, ⟨#[]⟩, []⟩
def tkV (x : Tk) : TkV := ⟨lkN x.inn, x.en, x.lv, if x.en then x.fk else 0, if x.en then x.ft else ⟨#[]⟩, x.opn⟩
def TkV.C (w : TkV) (v : Value) : List Value := [.int .i64 w.sc, .bool w.en, .bool w.lv, .int .i64 w.fk, .string w.ft, v]
def TS.task (t : TS) (n : Int) : TkV × Int := if n < 1 ∨ (t.tks.length : Int) < n then (.zero, 6) else match t.tks[(n - 1).toNat]? with
  | some x => (tkV x, 0)
  | none => (.zero, 6)

theorem task_run (a : TAt h ρ t) (ok : TOk c t) (hc : c ≤ 100000) (hr : ρ .root = some r) (n : Int) :
    ∃ v h', Run Try.prog 13 [ptr r, .int .i64 n] h (.tuple #[.agg ((t.task n).1.C v).toArray, .int .i64 (t.task n).2]) h' ∧ Keep (fun _ => False) h h' ∧ SlV h' (h.length + 2) v (t.task n).1.op.length 2 (lkL (t.task n).1.op) := by
  have n64 := ok.n64
  have Z : ∀ {e : TkV × Int}, e = (.zero, 6) → t.task n = e → ∀ g, Keep (fun _ => False) h g → Run Try.prog 13 [ptr r, .int .i64 n] h (.tuple #[.agg (TkV.zero.C (.slice none 0 0)).toArray, .int .i64 6]) g → ∃ v h', Run Try.prog 13 [ptr r, .int .i64 n] h (.tuple #[.agg ((t.task n).1.C v).toArray, .int .i64 (t.task n).2]) h' ∧ Keep (fun _ => False) h h' ∧ SlV h' (h.length + 2) v (t.task n).1.op.length 2 (lkL (t.task n).1.op) := fun e1 e2 g K R => by
    rw [e2, e1]
    exact ⟨_, g, R, K, .inl ⟨rfl, rfl, rfl⟩⟩
  have K1 : ∀ o, Keep (fun _ => False) h (h ++ [o]) := fun o => (Keep.refl _ h).pushN o
  have st4 : ∀ (s : SH) (l : List Value), s.den[h.length]? = some (.cells [.int .i64 0, .bool false, .bool false, .int .i64 0, .string ⟨#[]⟩, .slice none 0 0] true) → l.length = 6 → (Asm.st s h.length 0 l l).holds Try.prog := fun s l e hl => a_st e (by simp [hl]) (by simp [hl])
  by_cases c1 : n < 1
  · exact Z rfl (by simp [TS.task, c1]) _ ((K1 _).setN (Nat.le_refl _) _) (pvF 0 Try.func13 (r13p.ta_low r h.length 0 0 0 0 0 0 0 0 n 0 0 0 false false ⟨#[]⟩ [] [] [] [] none 0 0 h h) ⟨rfl, ltT c1, st4 _ _ (get_new _ _) rfl, a_ldn (get_set_eq (get_new _ _)) (by simp) rfl, trivial⟩)
  · have T0 := (a.push (.cells [.int .i64 0, .bool false, .bool false, .int .i64 0, .string ⟨#[]⟩, .slice none 0 0] true))
    have hd := T0.hdT hr (P := Try.prog) (s := .push (.is h) (.cells [.int .i64 0, .bool false, .bool false, .int .i64 0, .string ⟨#[]⟩, .slice none 0 0] true)) rfl
    by_cases c2 : (t.tks.length : Int) < n
    · have e : t.task n = (.zero, 6) := by simp [TS.task, c2]
      cases ht : ρ .ts with
      | none =>
        have h0 := a.sh.ts ht
        rw [ht, h0] at hd
        rw [h0] at c2
        exact Z rfl e _ ((K1 _).setN (Nat.le_refl _) _) (pvF 0 Try.func13 (r13p.ta_highn r h.length 0 0 0 0 0 0 0 0 n 0 0 0 false false ⟨#[]⟩ [] [] [] [] none 0 0 h h) ⟨rfl, ltF (by omega), hd, gtT (by simpa using c2), st4 _ _ (get_new _ _) rfl, a_ldn (get_set_eq (get_new _ _)) (by simp) rfl, trivial⟩)
      | some to =>
        rw [ht] at hd
        exact Z rfl e _ ((K1 _).setN (Nat.le_refl _) _) (pvF 0 Try.func13 (r13p.ta_highs r h.length 0 to t.tks.length 0 0 0 0 0 n 0 0 0 false false ⟨#[]⟩ [] [] [] [] none 0 0 h h) ⟨rfl, ltF (by omega), hd, gtT c2, st4 _ _ (get_new _ _) rfl, a_ldn (get_set_eq (get_new _ _)) (by simp) rfl, trivial⟩)
    · have hk : (n - 1).toNat < t.tks.length := by omega
      obtain ⟨k, hkn⟩ : ∃ k, k = (n - 1).toNat := ⟨_, rfl⟩
      obtain ⟨x, hx⟩ : ∃ x, t.tks[(n - 1).toNat]? = some x := ⟨_, List.getElem?_eq_getElem hk⟩
      have e : t.task n = (tkV x, 0) := by simp only [TS.task, c1, c2, or_self, if_false, hx]
      rw [← hkn] at hk hx
      rw [e]
      obtain ⟨to, ht⟩ := a.sh.ts' hk
      obtain ⟨i, hi⟩ := a.sh.tk _ hk
      rw [ht] at hd
      have hlen := ok.len k x hx
      have p1 : (Asm.arith .sub .i64 n 1 (n - 1)).holds Try.prog := subI rfl (by omega) (by omega)
      have p2 : (Asm.off k 0 (n - 1) t.tks.length 1).holds Try.prog := offI (q := k) (by omega) hk (by omega)
      have p3 : ∀ (s : SH), Keep (fun _ => False) h s.den → (Asm.ld1 s to k (ptr i)).holds Try.prog := fun s K => by
        have := (a.grow K).ld1 (P := Try.prog) (s := s) rfl ht (cont_ts hk)
        rwa [hi] at this
      have q1 : (Asm.cmp .lss n 1 false).holds Try.prog := ltF (by omega)
      have q2 : (Asm.cmp .gtr n (Int.ofNat t.tks.length) false).holds Try.prog := gtF (by simp; omega)
      have Len : ∀ (s : SH), Keep (fun _ => False) h s.den → (Asm.ld1 s i 4 (.bool x.en)).holds Try.prog := fun s K => (a.grow K).ld1 rfl hi (by rw [cont_tk hx]; rfl)
      have Llv : ∀ (s : SH), Keep (fun _ => False) h s.den → (Asm.ld1 s i 3 (.bool x.lv)).holds Try.prog := fun s K => (a.grow K).ld1 rfl hi (by rw [cont_tk hx]; rfl)
      have Lin : ∀ (s : SH), Keep (fun _ => False) h s.den → (Asm.ld1 s i 1 (inP ρ x.inn)).holds Try.prog := fun s K => (a.grow K).ld1 rfl hi (by rw [cont_tk hx]; rfl)
      have Lft : ∀ (s : SH), Keep (fun _ => False) h s.den → (Asm.ldn s i 5 2 (fltC x.fk x.ft)).holds Try.prog := fun s K => (a.grow K).ldn rfl hi (by rw [cont_tk hx]; simp [tkC]) (by rw [cont_tk hx]; rfl)
      have Lop : ∀ (s : SH), Keep (fun _ => False) h s.den → (Asm.ld1 s i 2 (slv (ρ (.op k)) x.opn.length)).holds Try.prog := fun s K => (a.grow K).ld1 rfl hi (by rw [cont_tk hx]; rfl)
      have st7 : ∀ (s : SH) (l l' : List Value) (d : Nat) (l2 : List Value), s.den[h.length + 1]? = some (.cells l true) → l'.length + d ≤ l.length → l.take d ++ l' ++ l.drop (d + l'.length) = l2 → (Asm.st s (h.length + 1) d l' l2).holds Try.prog := fun s l l' d l2 e1 e2 e3 => a_st e1 (by omega) e3
      have KA : Keep (fun _ => False) h (h ++ [AObj.cells [.int .i64 0, .bool false, .bool false, .int .i64 0, .string ⟨#[]⟩, .slice none 0 0] true]) := K1 _
      have KB : Keep (fun _ => False) h (h ++ [AObj.cells [.int .i64 0, .bool false, .bool false, .int .i64 0, .string ⟨#[]⟩, .slice none 0 0] true] ++ [AObj.cells [.int .i64 0, .bool false, .bool false, .int .i64 0, .string ⟨#[]⟩, .slice none 0 0] true]) := KA.pushN _
      have B4 : (h ++ [AObj.cells [.int .i64 0, .bool false, .bool false, .int .i64 0, .string ⟨#[]⟩, .slice none 0 0] true] ++ [AObj.cells [.int .i64 0, .bool false, .bool false, .int .i64 0, .string ⟨#[]⟩, .slice none 0 0] true])[h.length]? = some (.cells [.int .i64 0, .bool false, .bool false, .int .i64 0, .string ⟨#[]⟩, .slice none 0 0] true) := get_push (get_new _ _)
      have B7 : (h ++ [AObj.cells [.int .i64 0, .bool false, .bool false, .int .i64 0, .string ⟨#[]⟩, .slice none 0 0] true] ++ [AObj.cells [.int .i64 0, .bool false, .bool false, .int .i64 0, .string ⟨#[]⟩, .slice none 0 0] true])[h.length + 1]? = some (.cells [.int .i64 0, .bool false, .bool false, .int .i64 0, .string ⟨#[]⟩, .slice none 0 0] true) := get_new' _ (push_len _ _)
      have S0 := stat13 0 (.inl rfl)
      have lb7 : (Asm.len (.push (.is h) (.cells [.int .i64 0, .bool false, .bool false, .int .i64 0, .string ⟨#[]⟩, .slice none 0 0] true)) (h.length + 1)).holds Try.prog := push_len _ _
      obtain ⟨gA, hgA⟩ : ∃ gA, gA = h ++ [AObj.cells [.int .i64 0, .bool false, .bool false, .int .i64 0, .string ⟨#[]⟩, .slice none 0 0] true] ++ [AObj.cells [.int .i64 0, .bool false, .bool false, .int .i64 0, .string ⟨#[]⟩, .slice none 0 0] true] := ⟨_, rfl⟩
      cases hinn : x.inn with
      | none =>
        rw [hinn] at Lin
        cases hen : x.en with
        | false =>
          rw [hen] at Len
          cases hop : ρ (.op k) with
          | none =>
            have h0 := a.sh.op k x hx hop
            rw [hop, h0] at Lop
            simp only [tkV, hinn, hen, lkN, if_true, if_false, Bool.false_eq_true, h0]
            have B7_0 := B7
            have B4_0 := B4
            have K_0 := KB
            have K_1 := K_0.setN (show h.length ≤ h.length + 1 by omega) (AObj.cells [.int .i64 0, .bool false, .bool x.lv, .int .i64 0, .string ⟨#[]⟩, .slice none 0 0] true)
            have B7_1 := get_set_eq (x := AObj.cells [.int .i64 0, .bool false, .bool x.lv, .int .i64 0, .string ⟨#[]⟩, .slice none 0 0] true) B7_0
            have B4_1 := get_set_ne (x := AObj.cells [.int .i64 0, .bool false, .bool x.lv, .int .i64 0, .string ⟨#[]⟩, .slice none 0 0] true) B4_0 (show h.length + 1 ≠ h.length by omega)
            exact ⟨.slice none 0 0, _, pvF 0 Try.func13 (r13p.ta_000 r h.length (h.length + 1) to t.tks.length k i 0 0 0 n (n - 1) 0 0 false x.lv ⟨#[]⟩ [.int .i64 0, .bool false, .bool x.lv, .int .i64 0, .string ⟨#[]⟩, .slice none 0 0] [] [] [] none 0 0 h h) ⟨rfl, q1, hd, q2, hd, p1, p2, p3 _ KA, S0, Len _ KA, Llv _ KA, lb7, st7 _ _ _ _ _ B7_0 (by simp) rfl, Lin _ K_1, Len _ K_1, Lop _ K_1, ltF (by omega), a_ldn B7_1 (by simp) rfl, st4 _ _ B4_1 rfl, a_ldn (get_set_eq B4_1) (by simp) rfl, trivial⟩, K_1.setN (Nat.le_refl _) _, .inl ⟨rfl, rfl, rfl⟩⟩
          | some oo =>
            rw [hop] at Lop
            simp only [tkV, hinn, hen, lkN, if_true, if_false, Bool.false_eq_true]
            have B7_0 := B7
            have B4_0 := B4
            have K_0 := KB
            have K_1 := K_0.setN (show h.length ≤ h.length + 1 by omega) (AObj.cells [.int .i64 0, .bool false, .bool x.lv, .int .i64 0, .string ⟨#[]⟩, .slice none 0 0] true)
            have B7_1 := get_set_eq (x := AObj.cells [.int .i64 0, .bool false, .bool x.lv, .int .i64 0, .string ⟨#[]⟩, .slice none 0 0] true) B7_0
            have B4_1 := get_set_ne (x := AObj.cells [.int .i64 0, .bool false, .bool x.lv, .int .i64 0, .string ⟨#[]⟩, .slice none 0 0] true) B4_0 (show h.length + 1 ≠ h.length by omega)
            obtain ⟨E1, g', v', l1, l2, l3, l4, l5, l6⟩ := task_loop a hx hop (fun s hs => ok.opn k x s hx hs) (by omega) x.opn.length 0 [(71, .int .i64 0), (70, .int .i64 (Int.ofNat x.opn.length)), (69, .slice (some ⟨oo, 0, none⟩) x.opn.length 1), (7, ptr (h.length + 1)), (4, ptr h.length)] _ (.slice none 0 0) (by omega) (EnvLe.refl _) K_1 B4_1 B7_1 (.inl ⟨rfl, rfl, rfl⟩)
            obtain ⟨oa, la, za, hv'⟩ : ∃ oa la za, v' = .slice oa la za := by rcases l6 with ⟨_, _, e⟩ | ⟨_, _, o, e, _⟩ <;> exact ⟨_, _, _, e⟩
            subst hv'
            exact ⟨.slice oa la za, _, pvF 0 Try.func13 (r13p.ta_001 r h.length (h.length + 1) to t.tks.length k i 0 oo x.opn.length n (n - 1) 0 0 false x.lv ⟨#[]⟩ [.int .i64 0, .bool false, .bool x.lv, .int .i64 0, .string ⟨#[]⟩, .slice none 0 0] [] [] [] oa la za h g') ⟨rfl, q1, hd, q2, hd, p1, p2, p3 _ KA, S0, Len _ KA, Llv _ KA, lb7, st7 _ _ _ _ _ B7_0 (by simp) rfl, Lin _ K_1, Len _ K_1, Lop _ K_1, a_loop (by kernel_rfl) (.add (.add (.add (.add (.add (.nil _) rfl) rfl) rfl) rfl) rfl) l1 l2, a_ldn l5 (by simp) rfl, st4 _ _ l4 rfl, a_ldn (get_set_eq l4) (by simp) rfl, trivial⟩, l3.setN (Nat.le_refl _) _, l6.keep (Keep.set (fp := fun q => q = h.length) rfl _) (fun q e => by omega)⟩
        | true =>
          rw [hen] at Len
          cases hop : ρ (.op k) with
          | none =>
            have h0 := a.sh.op k x hx hop
            rw [hop, h0] at Lop
            simp only [tkV, hinn, hen, lkN, if_true, if_false, Bool.false_eq_true, h0]
            have B7_0 := B7
            have B4_0 := B4
            have K_0 := KB
            have K_1 := K_0.setN (show h.length ≤ h.length + 1 by omega) (AObj.cells [.int .i64 0, .bool true, .bool x.lv, .int .i64 0, .string ⟨#[]⟩, .slice none 0 0] true)
            have B7_1 := get_set_eq (x := AObj.cells [.int .i64 0, .bool true, .bool x.lv, .int .i64 0, .string ⟨#[]⟩, .slice none 0 0] true) B7_0
            have B4_1 := get_set_ne (x := AObj.cells [.int .i64 0, .bool true, .bool x.lv, .int .i64 0, .string ⟨#[]⟩, .slice none 0 0] true) B4_0 (show h.length + 1 ≠ h.length by omega)
            have K_2 := K_1.setN (show h.length ≤ h.length + 1 by omega) (AObj.cells [.int .i64 0, .bool true, .bool x.lv, .int .i64 x.fk, .string x.ft, .slice none 0 0] true)
            have B7_2 := get_set_eq (x := AObj.cells [.int .i64 0, .bool true, .bool x.lv, .int .i64 x.fk, .string x.ft, .slice none 0 0] true) B7_1
            have B4_2 := get_set_ne (x := AObj.cells [.int .i64 0, .bool true, .bool x.lv, .int .i64 x.fk, .string x.ft, .slice none 0 0] true) B4_1 (show h.length + 1 ≠ h.length by omega)
            exact ⟨.slice none 0 0, _, pvF 0 Try.func13 (r13p.ta_010 r h.length (h.length + 1) to t.tks.length k i 0 0 0 n (n - 1) 0 x.fk true x.lv x.ft [.int .i64 0, .bool true, .bool x.lv, .int .i64 0, .string ⟨#[]⟩, .slice none 0 0] [] [.int .i64 0, .bool true, .bool x.lv, .int .i64 x.fk, .string x.ft, .slice none 0 0] [] none 0 0 h h) ⟨rfl, q1, hd, q2, hd, p1, p2, p3 _ KA, S0, Len _ KA, Llv _ KA, lb7, st7 _ _ _ _ _ B7_0 (by simp) rfl, Lin _ K_1, Len _ K_1, Lft _ K_1, st7 _ _ _ _ _ B7_1 (by simp) rfl, Lop _ K_2, ltF (by omega), a_ldn B7_2 (by simp) rfl, st4 _ _ B4_2 rfl, a_ldn (get_set_eq B4_2) (by simp) rfl, trivial⟩, K_2.setN (Nat.le_refl _) _, .inl ⟨rfl, rfl, rfl⟩⟩
          | some oo =>
            rw [hop] at Lop
            simp only [tkV, hinn, hen, lkN, if_true, if_false, Bool.false_eq_true]
            have B7_0 := B7
            have B4_0 := B4
            have K_0 := KB
            have K_1 := K_0.setN (show h.length ≤ h.length + 1 by omega) (AObj.cells [.int .i64 0, .bool true, .bool x.lv, .int .i64 0, .string ⟨#[]⟩, .slice none 0 0] true)
            have B7_1 := get_set_eq (x := AObj.cells [.int .i64 0, .bool true, .bool x.lv, .int .i64 0, .string ⟨#[]⟩, .slice none 0 0] true) B7_0
            have B4_1 := get_set_ne (x := AObj.cells [.int .i64 0, .bool true, .bool x.lv, .int .i64 0, .string ⟨#[]⟩, .slice none 0 0] true) B4_0 (show h.length + 1 ≠ h.length by omega)
            have K_2 := K_1.setN (show h.length ≤ h.length + 1 by omega) (AObj.cells [.int .i64 0, .bool true, .bool x.lv, .int .i64 x.fk, .string x.ft, .slice none 0 0] true)
            have B7_2 := get_set_eq (x := AObj.cells [.int .i64 0, .bool true, .bool x.lv, .int .i64 x.fk, .string x.ft, .slice none 0 0] true) B7_1
            have B4_2 := get_set_ne (x := AObj.cells [.int .i64 0, .bool true, .bool x.lv, .int .i64 x.fk, .string x.ft, .slice none 0 0] true) B4_1 (show h.length + 1 ≠ h.length by omega)
            obtain ⟨E1, g', v', l1, l2, l3, l4, l5, l6⟩ := task_loop a hx hop (fun s hs => ok.opn k x s hx hs) (by omega) x.opn.length 0 [(71, .int .i64 0), (70, .int .i64 (Int.ofNat x.opn.length)), (69, .slice (some ⟨oo, 0, none⟩) x.opn.length 1), (7, ptr (h.length + 1)), (4, ptr h.length)] _ (.slice none 0 0) (by omega) (EnvLe.refl _) K_2 B4_2 B7_2 (.inl ⟨rfl, rfl, rfl⟩)
            obtain ⟨oa, la, za, hv'⟩ : ∃ oa la za, v' = .slice oa la za := by rcases l6 with ⟨_, _, e⟩ | ⟨_, _, o, e, _⟩ <;> exact ⟨_, _, _, e⟩
            subst hv'
            exact ⟨.slice oa la za, _, pvF 0 Try.func13 (r13p.ta_011 r h.length (h.length + 1) to t.tks.length k i 0 oo x.opn.length n (n - 1) 0 x.fk true x.lv x.ft [.int .i64 0, .bool true, .bool x.lv, .int .i64 0, .string ⟨#[]⟩, .slice none 0 0] [] [.int .i64 0, .bool true, .bool x.lv, .int .i64 x.fk, .string x.ft, .slice none 0 0] [] oa la za h g') ⟨rfl, q1, hd, q2, hd, p1, p2, p3 _ KA, S0, Len _ KA, Llv _ KA, lb7, st7 _ _ _ _ _ B7_0 (by simp) rfl, Lin _ K_1, Len _ K_1, Lft _ K_1, st7 _ _ _ _ _ B7_1 (by simp) rfl, Lop _ K_2, a_loop (by kernel_rfl) (.add (.add (.add (.add (.add (.nil _) rfl) rfl) rfl) rfl) rfl) l1 l2, a_ldn l5 (by simp) rfl, st4 _ _ l4 rfl, a_ldn (get_set_eq l4) (by simp) rfl, trivial⟩, l3.setN (Nat.le_refl _) _, l6.keep (Keep.set (fp := fun q => q = h.length) rfl _) (fun q e => by omega)⟩
      | some s =>
        have hsl := ok.inn k x s hx hinn
        obtain ⟨si, hsi⟩ := a.sh.sc s hsl
        obtain ⟨y, hy⟩ : ∃ y, t.scs[s]? = some y := ⟨_, List.getElem?_eq_getElem hsl⟩
        rw [hinn] at Lin
        simp only [inP, hsi, pvv] at Lin
        have Ls : ∀ (s' : SH), Keep (fun _ => False) h s'.den → (Asm.ld1 s' si 0 (.int .i64 ((s + 1 : Nat) : Int))).holds Try.prog := fun s' K => (a.grow K).ld1 rfl hsi (by rw [cont_sc hy]; rfl)
        cases hen : x.en with
        | false =>
          rw [hen] at Len
          cases hop : ρ (.op k) with
          | none =>
            have h0 := a.sh.op k x hx hop
            rw [hop, h0] at Lop
            simp only [tkV, hinn, hen, lkN, if_true, if_false, Bool.false_eq_true, h0]
            have B7_0 := B7
            have B4_0 := B4
            have K_0 := KB
            have K_1 := K_0.setN (show h.length ≤ h.length + 1 by omega) (AObj.cells [.int .i64 0, .bool false, .bool x.lv, .int .i64 0, .string ⟨#[]⟩, .slice none 0 0] true)
            have B7_1 := get_set_eq (x := AObj.cells [.int .i64 0, .bool false, .bool x.lv, .int .i64 0, .string ⟨#[]⟩, .slice none 0 0] true) B7_0
            have B4_1 := get_set_ne (x := AObj.cells [.int .i64 0, .bool false, .bool x.lv, .int .i64 0, .string ⟨#[]⟩, .slice none 0 0] true) B4_0 (show h.length + 1 ≠ h.length by omega)
            have K_2 := K_1.setN (show h.length ≤ h.length + 1 by omega) (AObj.cells [.int .i64 ((s + 1 : Nat) : Int), .bool false, .bool x.lv, .int .i64 0, .string ⟨#[]⟩, .slice none 0 0] true)
            have B7_2 := get_set_eq (x := AObj.cells [.int .i64 ((s + 1 : Nat) : Int), .bool false, .bool x.lv, .int .i64 0, .string ⟨#[]⟩, .slice none 0 0] true) B7_1
            have B4_2 := get_set_ne (x := AObj.cells [.int .i64 ((s + 1 : Nat) : Int), .bool false, .bool x.lv, .int .i64 0, .string ⟨#[]⟩, .slice none 0 0] true) B4_1 (show h.length + 1 ≠ h.length by omega)
            exact ⟨.slice none 0 0, _, pvF 0 Try.func13 (r13p.ta_100 r h.length (h.length + 1) to t.tks.length k i si 0 0 n (n - 1) ((s + 1 : Nat) : Int) 0 false x.lv ⟨#[]⟩ [.int .i64 0, .bool false, .bool x.lv, .int .i64 0, .string ⟨#[]⟩, .slice none 0 0] [.int .i64 ((s + 1 : Nat) : Int), .bool false, .bool x.lv, .int .i64 0, .string ⟨#[]⟩, .slice none 0 0] [] [] none 0 0 h h) ⟨rfl, q1, hd, q2, hd, p1, p2, p3 _ KA, S0, Len _ KA, Llv _ KA, lb7, st7 _ _ _ _ _ B7_0 (by simp) rfl, Lin _ K_1, Lin _ K_1, Ls _ K_1, st7 _ _ _ _ _ B7_1 (by simp) rfl, Len _ K_2, Lop _ K_2, ltF (by omega), a_ldn B7_2 (by simp) rfl, st4 _ _ B4_2 rfl, a_ldn (get_set_eq B4_2) (by simp) rfl, trivial⟩, K_2.setN (Nat.le_refl _) _, .inl ⟨rfl, rfl, rfl⟩⟩
          | some oo =>
            rw [hop] at Lop
            simp only [tkV, hinn, hen, lkN, if_true, if_false, Bool.false_eq_true]
            have B7_0 := B7
            have B4_0 := B4
            have K_0 := KB
            have K_1 := K_0.setN (show h.length ≤ h.length + 1 by omega) (AObj.cells [.int .i64 0, .bool false, .bool x.lv, .int .i64 0, .string ⟨#[]⟩, .slice none 0 0] true)
            have B7_1 := get_set_eq (x := AObj.cells [.int .i64 0, .bool false, .bool x.lv, .int .i64 0, .string ⟨#[]⟩, .slice none 0 0] true) B7_0
            have B4_1 := get_set_ne (x := AObj.cells [.int .i64 0, .bool false, .bool x.lv, .int .i64 0, .string ⟨#[]⟩, .slice none 0 0] true) B4_0 (show h.length + 1 ≠ h.length by omega)
            have K_2 := K_1.setN (show h.length ≤ h.length + 1 by omega) (AObj.cells [.int .i64 ((s + 1 : Nat) : Int), .bool false, .bool x.lv, .int .i64 0, .string ⟨#[]⟩, .slice none 0 0] true)
            have B7_2 := get_set_eq (x := AObj.cells [.int .i64 ((s + 1 : Nat) : Int), .bool false, .bool x.lv, .int .i64 0, .string ⟨#[]⟩, .slice none 0 0] true) B7_1
            have B4_2 := get_set_ne (x := AObj.cells [.int .i64 ((s + 1 : Nat) : Int), .bool false, .bool x.lv, .int .i64 0, .string ⟨#[]⟩, .slice none 0 0] true) B4_1 (show h.length + 1 ≠ h.length by omega)
            obtain ⟨E1, g', v', l1, l2, l3, l4, l5, l6⟩ := task_loop a hx hop (fun s hs => ok.opn k x s hx hs) (by omega) x.opn.length 0 [(71, .int .i64 0), (70, .int .i64 (Int.ofNat x.opn.length)), (69, .slice (some ⟨oo, 0, none⟩) x.opn.length 1), (7, ptr (h.length + 1)), (4, ptr h.length)] _ (.slice none 0 0) (by omega) (EnvLe.refl _) K_2 B4_2 B7_2 (.inl ⟨rfl, rfl, rfl⟩)
            obtain ⟨oa, la, za, hv'⟩ : ∃ oa la za, v' = .slice oa la za := by rcases l6 with ⟨_, _, e⟩ | ⟨_, _, o, e, _⟩ <;> exact ⟨_, _, _, e⟩
            subst hv'
            exact ⟨.slice oa la za, _, pvF 0 Try.func13 (r13p.ta_101 r h.length (h.length + 1) to t.tks.length k i si oo x.opn.length n (n - 1) ((s + 1 : Nat) : Int) 0 false x.lv ⟨#[]⟩ [.int .i64 0, .bool false, .bool x.lv, .int .i64 0, .string ⟨#[]⟩, .slice none 0 0] [.int .i64 ((s + 1 : Nat) : Int), .bool false, .bool x.lv, .int .i64 0, .string ⟨#[]⟩, .slice none 0 0] [] [] oa la za h g') ⟨rfl, q1, hd, q2, hd, p1, p2, p3 _ KA, S0, Len _ KA, Llv _ KA, lb7, st7 _ _ _ _ _ B7_0 (by simp) rfl, Lin _ K_1, Lin _ K_1, Ls _ K_1, st7 _ _ _ _ _ B7_1 (by simp) rfl, Len _ K_2, Lop _ K_2, a_loop (by kernel_rfl) (.add (.add (.add (.add (.add (.nil _) rfl) rfl) rfl) rfl) rfl) l1 l2, a_ldn l5 (by simp) rfl, st4 _ _ l4 rfl, a_ldn (get_set_eq l4) (by simp) rfl, trivial⟩, l3.setN (Nat.le_refl _) _, l6.keep (Keep.set (fp := fun q => q = h.length) rfl _) (fun q e => by omega)⟩
        | true =>
          rw [hen] at Len
          cases hop : ρ (.op k) with
          | none =>
            have h0 := a.sh.op k x hx hop
            rw [hop, h0] at Lop
            simp only [tkV, hinn, hen, lkN, if_true, if_false, Bool.false_eq_true, h0]
            have B7_0 := B7
            have B4_0 := B4
            have K_0 := KB
            have K_1 := K_0.setN (show h.length ≤ h.length + 1 by omega) (AObj.cells [.int .i64 0, .bool true, .bool x.lv, .int .i64 0, .string ⟨#[]⟩, .slice none 0 0] true)
            have B7_1 := get_set_eq (x := AObj.cells [.int .i64 0, .bool true, .bool x.lv, .int .i64 0, .string ⟨#[]⟩, .slice none 0 0] true) B7_0
            have B4_1 := get_set_ne (x := AObj.cells [.int .i64 0, .bool true, .bool x.lv, .int .i64 0, .string ⟨#[]⟩, .slice none 0 0] true) B4_0 (show h.length + 1 ≠ h.length by omega)
            have K_2 := K_1.setN (show h.length ≤ h.length + 1 by omega) (AObj.cells [.int .i64 ((s + 1 : Nat) : Int), .bool true, .bool x.lv, .int .i64 0, .string ⟨#[]⟩, .slice none 0 0] true)
            have B7_2 := get_set_eq (x := AObj.cells [.int .i64 ((s + 1 : Nat) : Int), .bool true, .bool x.lv, .int .i64 0, .string ⟨#[]⟩, .slice none 0 0] true) B7_1
            have B4_2 := get_set_ne (x := AObj.cells [.int .i64 ((s + 1 : Nat) : Int), .bool true, .bool x.lv, .int .i64 0, .string ⟨#[]⟩, .slice none 0 0] true) B4_1 (show h.length + 1 ≠ h.length by omega)
            have K_3 := K_2.setN (show h.length ≤ h.length + 1 by omega) (AObj.cells [.int .i64 ((s + 1 : Nat) : Int), .bool true, .bool x.lv, .int .i64 x.fk, .string x.ft, .slice none 0 0] true)
            have B7_3 := get_set_eq (x := AObj.cells [.int .i64 ((s + 1 : Nat) : Int), .bool true, .bool x.lv, .int .i64 x.fk, .string x.ft, .slice none 0 0] true) B7_2
            have B4_3 := get_set_ne (x := AObj.cells [.int .i64 ((s + 1 : Nat) : Int), .bool true, .bool x.lv, .int .i64 x.fk, .string x.ft, .slice none 0 0] true) B4_2 (show h.length + 1 ≠ h.length by omega)
            exact ⟨.slice none 0 0, _, pvF 0 Try.func13 (r13p.ta_110 r h.length (h.length + 1) to t.tks.length k i si 0 0 n (n - 1) ((s + 1 : Nat) : Int) x.fk true x.lv x.ft [.int .i64 0, .bool true, .bool x.lv, .int .i64 0, .string ⟨#[]⟩, .slice none 0 0] [.int .i64 ((s + 1 : Nat) : Int), .bool true, .bool x.lv, .int .i64 0, .string ⟨#[]⟩, .slice none 0 0] [.int .i64 ((s + 1 : Nat) : Int), .bool true, .bool x.lv, .int .i64 x.fk, .string x.ft, .slice none 0 0] [] none 0 0 h h) ⟨rfl, q1, hd, q2, hd, p1, p2, p3 _ KA, S0, Len _ KA, Llv _ KA, lb7, st7 _ _ _ _ _ B7_0 (by simp) rfl, Lin _ K_1, Lin _ K_1, Ls _ K_1, st7 _ _ _ _ _ B7_1 (by simp) rfl, Len _ K_2, Lft _ K_2, st7 _ _ _ _ _ B7_2 (by simp) rfl, Lop _ K_3, ltF (by omega), a_ldn B7_3 (by simp) rfl, st4 _ _ B4_3 rfl, a_ldn (get_set_eq B4_3) (by simp) rfl, trivial⟩, K_3.setN (Nat.le_refl _) _, .inl ⟨rfl, rfl, rfl⟩⟩
          | some oo =>
            rw [hop] at Lop
            simp only [tkV, hinn, hen, lkN, if_true, if_false, Bool.false_eq_true]
            have B7_0 := B7
            have B4_0 := B4
            have K_0 := KB
            have K_1 := K_0.setN (show h.length ≤ h.length + 1 by omega) (AObj.cells [.int .i64 0, .bool true, .bool x.lv, .int .i64 0, .string ⟨#[]⟩, .slice none 0 0] true)
            have B7_1 := get_set_eq (x := AObj.cells [.int .i64 0, .bool true, .bool x.lv, .int .i64 0, .string ⟨#[]⟩, .slice none 0 0] true) B7_0
            have B4_1 := get_set_ne (x := AObj.cells [.int .i64 0, .bool true, .bool x.lv, .int .i64 0, .string ⟨#[]⟩, .slice none 0 0] true) B4_0 (show h.length + 1 ≠ h.length by omega)
            have K_2 := K_1.setN (show h.length ≤ h.length + 1 by omega) (AObj.cells [.int .i64 ((s + 1 : Nat) : Int), .bool true, .bool x.lv, .int .i64 0, .string ⟨#[]⟩, .slice none 0 0] true)
            have B7_2 := get_set_eq (x := AObj.cells [.int .i64 ((s + 1 : Nat) : Int), .bool true, .bool x.lv, .int .i64 0, .string ⟨#[]⟩, .slice none 0 0] true) B7_1
            have B4_2 := get_set_ne (x := AObj.cells [.int .i64 ((s + 1 : Nat) : Int), .bool true, .bool x.lv, .int .i64 0, .string ⟨#[]⟩, .slice none 0 0] true) B4_1 (show h.length + 1 ≠ h.length by omega)
            have K_3 := K_2.setN (show h.length ≤ h.length + 1 by omega) (AObj.cells [.int .i64 ((s + 1 : Nat) : Int), .bool true, .bool x.lv, .int .i64 x.fk, .string x.ft, .slice none 0 0] true)
            have B7_3 := get_set_eq (x := AObj.cells [.int .i64 ((s + 1 : Nat) : Int), .bool true, .bool x.lv, .int .i64 x.fk, .string x.ft, .slice none 0 0] true) B7_2
            have B4_3 := get_set_ne (x := AObj.cells [.int .i64 ((s + 1 : Nat) : Int), .bool true, .bool x.lv, .int .i64 x.fk, .string x.ft, .slice none 0 0] true) B4_2 (show h.length + 1 ≠ h.length by omega)
            obtain ⟨E1, g', v', l1, l2, l3, l4, l5, l6⟩ := task_loop a hx hop (fun s hs => ok.opn k x s hx hs) (by omega) x.opn.length 0 [(71, .int .i64 0), (70, .int .i64 (Int.ofNat x.opn.length)), (69, .slice (some ⟨oo, 0, none⟩) x.opn.length 1), (7, ptr (h.length + 1)), (4, ptr h.length)] _ (.slice none 0 0) (by omega) (EnvLe.refl _) K_3 B4_3 B7_3 (.inl ⟨rfl, rfl, rfl⟩)
            obtain ⟨oa, la, za, hv'⟩ : ∃ oa la za, v' = .slice oa la za := by rcases l6 with ⟨_, _, e⟩ | ⟨_, _, o, e, _⟩ <;> exact ⟨_, _, _, e⟩
            subst hv'
            exact ⟨.slice oa la za, _, pvF 0 Try.func13 (r13p.ta_111 r h.length (h.length + 1) to t.tks.length k i si oo x.opn.length n (n - 1) ((s + 1 : Nat) : Int) x.fk true x.lv x.ft [.int .i64 0, .bool true, .bool x.lv, .int .i64 0, .string ⟨#[]⟩, .slice none 0 0] [.int .i64 ((s + 1 : Nat) : Int), .bool true, .bool x.lv, .int .i64 0, .string ⟨#[]⟩, .slice none 0 0] [.int .i64 ((s + 1 : Nat) : Int), .bool true, .bool x.lv, .int .i64 x.fk, .string x.ft, .slice none 0 0] [] oa la za h g') ⟨rfl, q1, hd, q2, hd, p1, p2, p3 _ KA, S0, Len _ KA, Llv _ KA, lb7, st7 _ _ _ _ _ B7_0 (by simp) rfl, Lin _ K_1, Lin _ K_1, Ls _ K_1, st7 _ _ _ _ _ B7_1 (by simp) rfl, Len _ K_2, Lft _ K_2, st7 _ _ _ _ _ B7_2 (by simp) rfl, Lop _ K_3, a_loop (by kernel_rfl) (.add (.add (.add (.add (.add (.nil _) rfl) rfl) rfl) rfl) rfl) l1 l2, a_ldn l5 (by simp) rfl, st4 _ _ l4 rfl, a_ldn (get_set_eq l4) (by simp) rfl, trivial⟩, l3.setN (Nat.le_refl _) _, l6.keep (Keep.set (fp := fun q => q = h.length) rfl _) (fun q e => by omega)⟩
end

end Go.Proofs.Ytahomnlkkafbjaa.tr

namespace Go.Proofs.Ytahomnlkkafbjaa.tr
open Go Go.Ev
set_option maxRecDepth 100000
set_option linter.unusedVariables false
set_option linter.constructorNameAsVariable false

/-! ### Scope -/

def nmL (l : List Nat) : List Value := l.map fun j => .int .i64 ((j + 1 : Nat) : Int)
theorem nmL_len (l : List Nat) : (nmL l).length = l.length := by simp [nmL]

theorem stat14 (k : Nat) (hk : k = 0 ∨ k = 1) : (Asm.stat (drawN Try.f14 k)).holds Try.prog := by
  rcases hk with rfl | rfl
  · exact show statOk (drawN Try.f14 0) = true by kernel_rfl
  · exact show statOk (drawN Try.f14 1) = true by kernel_rfl

section
variable {h : Hp} {ρ : Lay} {t : TS} {c r : Nat}

theorem scope_loop (a : TAt h ρ t) {kk : Nat} {x : Sc} {oo : Nat} (hx : t.scs[kk]? = some x) (ho : ρ (.st kk) = some oo) (hin : ∀ j, j ∈ x.tks → j < t.tks.length) (hlen : x.tks.length ≤ 1000000) {e0 e1 e2 e4 e5 : Value} {z4 : List Value} :
    ∀ (j i : Nat) (E : Env) (g : Hp) (v : Value), i + j = x.tks.length → EnvLe [(46, .int .i64 (i : Int)), (45, .int .i64 (Int.ofNat x.tks.length)), (44, .slice (some ⟨oo, 0, none⟩) x.tks.length 1), (8, ptr (h.length + 1)), (4, ptr h.length)] E →
      Keep (fun _ => False) h g → g[h.length]? = some (.cells z4 true) → g[h.length + 1]? = some (.cells [e0, e1, e2, v, e4, e5] true) → SlV g (h.length + 2) v i 1 (nmL (x.tks.take i)) →
      ∃ E1 g' v', EnvLe [(8, ptr (h.length + 1)), (4, ptr h.length)] E1 ∧ LRun Try.prog 61 false (loopN Try.f14 0) E g (.exit 0) E1 g' ∧ Keep (fun _ => False) h g' ∧ g'[h.length]? = some (.cells z4 true) ∧ g'[h.length + 1]? = some (.cells [e0, e1, e2, v', e4, e5] true) ∧ SlV g' (h.length + 2) v' x.tks.length 1 (nmL x.tks) := by
  intro j
  induction j with
  | zero =>
    intro i E g v hi hE K h4 h7 hv
    have e : i = x.tks.length := by omega
    subst e
    rw [List.take_length] at hv
    obtain ⟨E2, q1, q2⟩ := pvC 0 hE (r13p.sl_out (h.length + 1) h.length oo x.tks.length 0 0 0 0 0 0 _ 0 0 [] [] [] g g) ⟨ltF (by simp), trivial⟩
    exact ⟨E2, g, v, .trans (.add (.add (.nil _) rfl) rfl) q1, .last q2 (by simp), K, h4, h7, hv⟩
  | succ j ih =>
    intro i E g v hi hE K h4 h7 hv
    obtain ⟨w, hw⟩ : ∃ w, x.tks[i]? = some w := ⟨_, List.getElem?_eq_getElem (by omega)⟩
    have ag := a.grow K
    have hgl := K.1
    have hwl := hin w (List.mem_of_getElem? hw)
    obtain ⟨wi, hwi⟩ := a.sh.tk w hwl
    obtain ⟨y, hy⟩ : ∃ y, t.tks[w]? = some y := ⟨_, List.getElem?_eq_getElem hwl⟩
    have h7l := get_lt h7
    have g1 : (Asm.cmp .lss (i : Int) (Int.ofNat x.tks.length) true).holds Try.prog := ltT (by simp; omega)
    have g2' : (Asm.off i 0 (i : Int) x.tks.length 1).holds Try.prog := offI (q := i) rfl (by omega) (by omega)
    have g3 : (Asm.ld1 (.is g) oo i (ptr wi)).holds Try.prog := by
      have := ag.ld1 (P := Try.prog) (s := .is g) rfl ho (d := i) (v := pvv (ρ (.tk w))) (by rw [cont_st hx, List.getElem?_map, hw]; rfl)
      rwa [hwi] at this
    have g4 : (Asm.arith .add .i64 (i : Int) 1 ((i + 1 : Nat) : Int)).holds Try.prog := addI rfl (by omega) (by omega)
    have gk : (Asm.ld1 (.is g) wi 0 (.int .i64 ((w + 1 : Nat) : Int))).holds Try.prog := ag.ld1 rfl hwi (by rw [cont_tk hy]; rfl)
    have gl : (Asm.ld1 (.is g) (h.length + 1) 3 v).holds Try.prog := a_ld1 h7 rfl
    rcases hv with ⟨e0', e1', rfl⟩ | ⟨hn, hl, o, rfl, hob, hol⟩
    · subst e0'
      obtain ⟨E2, q1, q2⟩ := pvC 0 hE (r13p.sl_gon (h.length + 1) h.length oo x.tks.length 0 wi 0 g.length (g.length + 1) 0 _ ((0 + 1 : Nat) : Int) ((w + 1 : Nat) : Int) [] [.int .i64 ((w + 1 : Nat) : Int)] [e0, e1, e2, .slice (some ⟨g.length + 1, 0, none⟩) 1 1, e4, e5] g g)
        ⟨g1, g2', g3, stat14 1 (.inr rfl), gl, gk, rfl, a_appGN rfl rfl (by omega) (get_new _ _) (push_len _ _), a_st (get_push (get_push h7)) (by simp) rfl, g4, trivial⟩
      obtain ⟨E3, g5, v', s1, s2, s3⟩ := ih 1 E2 ((g ++ [AObj.cells [.int .i64 ((w + 1 : Nat) : Int)] true] ++ [AObj.cells [.int .i64 ((w + 1 : Nat) : Int)] true]).set (h.length + 1) (AObj.cells [e0, e1, e2, .slice (some ⟨g.length + 1, 0, none⟩) 1 1, e4, e5] true)) (.slice (some ⟨g.length + 1, 0, none⟩) 1 1) (by omega)
        (.trans (.add (.add (.add (.add (.add (.nil _) rfl) rfl) rfl) rfl) rfl) q1) (((K.pushN _).pushN _).setN (by omega) _) (get_set_ne (get_push (get_push h4)) (by omega)) (get_set_eq (get_push (get_push h7)))
        (.inr ⟨by omega, by rw [take_one hw]; simp [nmL], g.length + 1, rfl, by rw [take_one hw]; exact get_set_ne (by simp [nmL]) (by omega), by omega⟩)
      exact ⟨E3, g5, v', s1, .step q2 s2, s3⟩
    · have hol2 := get_lt hob
      obtain ⟨E2, q1, q2⟩ := pvC 0 hE (r13p.sl_gos (h.length + 1) h.length oo x.tks.length i wi o g.length (g.length + 1) i _ ((i + 1 : Nat) : Int) ((w + 1 : Nat) : Int) (nmL (x.tks.take i) ++ [.int .i64 ((w + 1 : Nat) : Int)]) [.int .i64 ((w + 1 : Nat) : Int)] [e0, e1, e2, .slice (some ⟨g.length + 1, 0, none⟩) (i + 1) 1, e4, e5] g g)
        ⟨g1, g2', g3, stat14 1 (.inr rfl), gl, gk, rfl, a_appGS (b := 8) (z := 1) rfl rfl (by omega) (by omega) hl (get_push hob) (get_new _ _) (push_len _ _), a_st (get_push (get_set_ne (get_push h7) (by omega))) (by simp) rfl, g4, trivial⟩
      obtain ⟨E3, g5, v', s1, s2, s3⟩ := ih (i + 1) E2 (((g ++ [AObj.cells [.int .i64 ((w + 1 : Nat) : Int)] true]).set o .dead ++ [AObj.cells (nmL (x.tks.take i) ++ [.int .i64 ((w + 1 : Nat) : Int)]) true]).set (h.length + 1) (AObj.cells [e0, e1, e2, .slice (some ⟨g.length + 1, 0, none⟩) (i + 1) 1, e4, e5] true)) (.slice (some ⟨g.length + 1, 0, none⟩) (i + 1) 1) (by omega)
        (.trans (.add (.add (.add (.add (.add (.nil _) rfl) rfl) rfl) rfl) rfl) q1) ((((K.pushN _).setN (by omega) _).pushN _).setN (by omega) _) (get_set_ne (get_push (get_set_ne (get_push h4) (by omega))) (by omega)) (get_set_eq (get_push (get_set_ne (get_push h7) (by omega))))
        (.inr ⟨by omega, by rw [nmL_len, List.length_take]; omega, g.length + 1, rfl, by
          rw [take_one hw]
          refine get_set_ne ?_ (by omega)
          rw [show nmL (x.tks.take i ++ [w]) = nmL (x.tks.take i) ++ [.int .i64 ((w + 1 : Nat) : Int)] by simp [nmL]]
          exact get_new' _ (by simp), by omega⟩)
      exact ⟨E3, g5, v', s1, .step q2 s2, s3⟩

/-- What is said of a scope. -/
structure ScV where
  ow : Int
  su : Bool
  ov : Bool
  tk : List Nat
  fk : Int
  ft : ByteArray
def ScV.zero : ScV := ⟨0, false, false, [], 0, ⟨#[]⟩⟩
def scV (x : Sc) : ScV := ⟨((x.ow + 1 : Nat) : Int), x.su, x.ov, x.tks, x.fk, x.ft⟩
def ScV.C (w : ScV) (v : Value) : List Value := [.int .i64 w.ow, .bool w.su, .bool w.ov, v, .int .i64 w.fk, .string w.ft]
def TS.sco (t : TS) (n : Int) : ScV × Int := match t.scope n with
  | (some s, _) => match t.scs[s]? with
    | some y => (scV y, 0)
    | none => (.zero, 6)
  | (none, _) => (.zero, 6)

theorem sco_run (a : TAt h ρ t) (ok : TOk c t) (hc : c ≤ 100000) (hr : ρ .root = some r) (n : Int) :
    ∃ v h', Run Try.prog 14 [ptr r, .int .i64 n] h (.tuple #[.agg ((t.sco n).1.C v).toArray, .int .i64 (t.sco n).2]) h' ∧ Keep (fun _ => False) h h' ∧ SlV h' (h.length + 2) v (t.sco n).1.tk.length 1 (nmL (t.sco n).1.tk) := by
  obtain ⟨g1, hg1⟩ : ∃ g1, g1 = h ++ [AObj.cells [.int .i64 0, .bool false, .bool false, .slice none 0 0, .int .i64 0, .string ⟨#[]⟩] true] := ⟨_, rfl⟩
  have K1 : Keep (fun _ => False) h g1 := by rw [hg1]; exact (Keep.refl (fun _ => False) h).pushN _
  have B4 : g1[h.length]? = some (.cells [.int .i64 0, .bool false, .bool false, .slice none 0 0, .int .i64 0, .string ⟨#[]⟩] true) := by rw [hg1]; exact get_new _ _
  have l1 : g1.length = h.length + 1 := by rw [hg1]; simp
  have R := scope_run (a.grow K1) ok hr n
  have R' : ∀ v, Run Try.prog 41 [ptr r, .int .i64 n] g1 v g1 → (Asm.call 41 [ptr r, .int .i64 n] (.push (.is h) (.cells [.int .i64 0, .bool false, .bool false, .slice none 0 0, .int .i64 0, .string ⟨#[]⟩] true)) v (.is g1)).holds Try.prog := fun v hv => by rw [hg1] at hv ⊢; exact hv
  have st4 : ∀ (s : SH) (l : List Value), s.den[h.length]? = some (.cells [.int .i64 0, .bool false, .bool false, .slice none 0 0, .int .i64 0, .string ⟨#[]⟩] true) → l.length = 6 → (Asm.st s h.length 0 l l).holds Try.prog := fun s l e hl => a_st e (by simp [hl]) (by simp [hl])
  rcases hq : t.scope n with ⟨k | k, e⟩
  · have e6 := scope_none hq
    subst e6
    rw [hq] at R
    have e' : t.sco n = (.zero, 6) := by simp only [TS.sco, hq]
    rw [e']
    exact ⟨.slice none 0 0, _, pvF 0 Try.func14 (r13p.sc_err r h.length 0 0 0 0 0 n 6 0 0 false false ⟨#[]⟩ [] [] none 0 0 h g1 h) ⟨rfl, R' _ R, neT (by omega), st4 _ _ B4 rfl, a_ldn (get_set_eq B4) (by simp) rfl, trivial⟩, K1.setN (Nat.le_refl _) _, .inl ⟨rfl, rfl, rfl⟩⟩
  · obtain ⟨rfl, hn, hk⟩ := scope_some hq
    obtain ⟨y, hy⟩ : ∃ y, t.scs[k]? = some y := ⟨_, List.getElem?_eq_getElem hk⟩
    obtain ⟨si, hs⟩ := a.sh.sc k hk
    have how := ok.ow k y hy
    obtain ⟨i, hi⟩ := a.sh.tk _ how
    obtain ⟨x, hx⟩ : ∃ x, t.tks[y.ow]? = some x := ⟨_, List.getElem?_eq_getElem how⟩
    rw [hq] at R
    simp only [inP, hs, pvv] at R
    have e' : t.sco n = (scV y, 0) := by simp only [TS.sco, hq, hy]
    rw [e']
    have hml := ok.mlen k y hy
    have ag := a.grow K1
    have c8 : ∀ v, (Asm.st (.push (.is g1) (.cells [.int .i64 0, .bool false, .bool false, .slice none 0 0, .int .i64 0, .string ⟨#[]⟩] true)) (h.length + 1) 0 [.int .i64 ((y.ow + 1 : Nat) : Int), .bool y.su, .bool y.ov, v, .int .i64 y.fk, .string y.ft] [.int .i64 ((y.ow + 1 : Nat) : Int), .bool y.su, .bool y.ov, v, .int .i64 y.fk, .string y.ft]).holds Try.prog := fun v => a_st (get_new' _ l1) (by simp) rfl
    have q1 : (Asm.ld1 (.is g1) si 1 (ptr i)).holds Try.prog := ag.ld1 rfl hs (by rw [cont_sc hy, scC, hi]; rfl)
    have q2 : (Asm.ld1 (.is g1) i 0 (.int .i64 ((y.ow + 1 : Nat) : Int))).holds Try.prog := ag.ld1 rfl hi (by rw [cont_tk hx]; rfl)
    have q3 : (Asm.ld1 (.is g1) si 2 (.bool y.su)).holds Try.prog := ag.ld1 rfl hs (by rw [cont_sc hy]; rfl)
    have q4 : (Asm.ld1 (.is g1) si 3 (.bool y.ov)).holds Try.prog := ag.ld1 rfl hs (by rw [cont_sc hy]; rfl)
    have q5 : (Asm.ldn (.is g1) si 6 2 (fltC y.fk y.ft)).holds Try.prog := ag.ldn rfl hs (by rw [cont_sc hy]; simp [scC]) (by rw [cont_sc hy]; rfl)
    obtain ⟨g2, hg2⟩ : ∃ g2, g2 = (g1 ++ [AObj.cells [.int .i64 0, .bool false, .bool false, .slice none 0 0, .int .i64 0, .string ⟨#[]⟩] true]).set (h.length + 1) (.cells [.int .i64 ((y.ow + 1 : Nat) : Int), .bool y.su, .bool y.ov, .slice none 0 0, .int .i64 y.fk, .string y.ft] true) := ⟨_, rfl⟩
    have K2 : Keep (fun _ => False) h g2 := by rw [hg2]; exact (K1.pushN _).setN (by omega) _
    have B8 : g2[h.length + 1]? = some (.cells [.int .i64 ((y.ow + 1 : Nat) : Int), .bool y.su, .bool y.ov, .slice none 0 0, .int .i64 y.fk, .string y.ft] true) := by rw [hg2]; exact get_set_eq (get_new' _ l1)
    have B42 : g2[h.length]? = some (.cells [.int .i64 0, .bool false, .bool false, .slice none 0 0, .int .i64 0, .string ⟨#[]⟩] true) := by rw [hg2]; exact get_set_ne (get_push B4) (by omega)
    have q6 : (Asm.ld1 (.set (.push (.is g1) (.cells [.int .i64 0, .bool false, .bool false, .slice none 0 0, .int .i64 0, .string ⟨#[]⟩] true)) (h.length + 1) (.cells [.int .i64 ((y.ow + 1 : Nat) : Int), .bool y.su, .bool y.ov, .slice none 0 0, .int .i64 y.fk, .string y.ft] true)) si 4 (slv (ρ (.st k)) y.tks.length)).holds Try.prog := (a.grow K2).ld1 (by rw [hg2]; rfl) hs (by rw [cont_sc hy]; rfl)
    cases hst : ρ (.st k) with
    | none =>
      have h0 := a.sh.st k y hy hst
      rw [hst, h0] at q6
      simp only [scV, h0]
      refine ⟨.slice none 0 0, _, pvF 0 Try.func14 (r13p.sc_0 r h.length (h.length + 1) si i 0 0 n 0 ((y.ow + 1 : Nat) : Int) y.fk y.su y.ov y.ft [.int .i64 ((y.ow + 1 : Nat) : Int), .bool y.su, .bool y.ov, .slice none 0 0, .int .i64 y.fk, .string y.ft] [] none 0 0 h g1 h) ⟨rfl, R' _ R, neF rfl, stat14 0 (.inl rfl), q1, q2, q3, q4, q5, l1, c8 _, q6, ltF (by omega),
        a_ldn (get_set_eq (get_new' _ l1)) (by simp) rfl, st4 _ _ (get_set_ne (get_push B4) (by omega)) rfl, a_ldn (get_set_eq (get_set_ne (get_push B4) (by omega))) (by simp) rfl, trivial⟩, ((K1.pushN _).setN (by omega) _).setN (Nat.le_refl _) _, .inl ⟨rfl, rfl, rfl⟩⟩
    | some oo =>
      rw [hst] at q6
      obtain ⟨E1, g', v', m1, m2, m3, m4, m5, m6⟩ := scope_loop a hy hst (fun j hj => ok.mem k y j hy hj) (by omega) y.tks.length 0 [(46, .int .i64 0), (45, .int .i64 (Int.ofNat y.tks.length)), (44, .slice (some ⟨oo, 0, none⟩) y.tks.length 1), (8, ptr (h.length + 1)), (4, ptr h.length)] g2 (.slice none 0 0) (by omega) (EnvLe.refl _) K2 B42 B8 (.inl ⟨rfl, rfl, rfl⟩)
      obtain ⟨oa, la, za, hv'⟩ : ∃ oa la za, v' = .slice oa la za := by rcases m6 with ⟨_, _, e⟩ | ⟨_, _, o, e, _⟩ <;> exact ⟨_, _, _, e⟩
      subst hv'
      rw [hg2] at m2
      exact ⟨.slice oa la za, _, pvF 0 Try.func14 (r13p.sc_1 r h.length (h.length + 1) si i oo y.tks.length n 0 ((y.ow + 1 : Nat) : Int) y.fk y.su y.ov y.ft [.int .i64 ((y.ow + 1 : Nat) : Int), .bool y.su, .bool y.ov, .slice none 0 0, .int .i64 y.fk, .string y.ft] [] oa la za h g1 g') ⟨rfl, R' _ R, neF rfl, stat14 0 (.inl rfl), q1, q2, q3, q4, q5, l1, c8 _, q6,
        a_loop (by kernel_rfl) (.add (.add (.add (.add (.add (.nil _) rfl) rfl) rfl) rfl) rfl) m1 m2, a_ldn m5 (by simp) rfl, st4 _ _ m4 rfl, a_ldn (get_set_eq m4) (by simp) rfl, trivial⟩, m3.setN (Nat.le_refl _) _, m6.keep (Keep.set (fp := fun q => q = h.length) rfl _) (fun q e => by omega)⟩
end

end Go.Proofs.Ytahomnlkkafbjaa.tr

namespace Go.Proofs.Ytahomnlkkafbjaa.tr
open Go Go.Ev
set_option maxRecDepth 100000
set_option linter.unusedVariables false
set_option linter.constructorNameAsVariable false

theorem awake_run (h : Hp) : Run Try.prog 12 [] h (.bool true) h := Run.of_ev (k := 60) (by kernel_rfl)

/-! ### Calls -/

structure OpV where
  k : Int
  n : Int
  y : Bool
  fk : Int
  ft : ByteArray
def OpV.cells (o : OpV) : List Value := [.int .i64 o.k, .int .i64 o.n, .bool o.y, .int .i64 o.fk, .string o.ft]
def opC : List OpV → List Value
  | [] => []
  | o :: l => o.cells ++ opC l
theorem opC_len : ∀ l : List OpV, (opC l).length = l.length * 5
  | [] => rfl
  | o :: l => by simp [opC, OpV.cells, opC_len l]; omega
theorem opC_at : ∀ {l : List OpV} {k : Nat} {o : OpV}, l[k]? = some o → ((opC l).drop (k * 5)).take 5 = o.cells
  | [], k, o, h => by simp at h
  | x :: l, 0, o, h => by
    simp at h; subst h
    simp [opC, OpV.cells]
  | x :: l, k + 1, o, h => by
    have := opC_at (l := l) (k := k) (o := o) (by simpa using h)
    rw [opC, List.drop_append, List.drop_of_length_le (by simp [OpV.cells]; omega), show (k + 1) * 5 - x.cells.length = k * 5 by simp [OpV.cells]; omega, List.nil_append]
    exact this

def TS.run (t : TS) (o : OpV) : TS × List Ef :=
  if o.k = 0 then ((t.open o.n o.y).1, []) else if o.k = 1 then ((t.spawn o.n).1, []) else if o.k = 2 then ((t.end o.n o.fk o.ft).1, (t.end o.n o.fk o.ft).2.1) else
  if o.k = 3 then ((t.leave o.n o.fk o.ft).1, (t.leave o.n o.fk o.ft).2.1) else if o.k = 4 then ((t.shield o.n).1, []) else if o.k = 5 then ((t.unveil o.n).1, []) else
  if o.k = 6 then ((t.fail o.n o.fk o.ft).1, (t.fail o.n o.fk o.ft).2.1) else if o.k = 7 then (t.root.1, []) else (t, [])

theorem TOk.run {t : TS} {c : Nat} {o : OpV} (ok : TOk c t) : TOk (c + 1) (t.run o).1 := by
  unfold TS.run
  repeat' split
  · exact ok.open
  · exact ok.spawn
  · exact ok.end
  · exact ok.leave
  · exact ok.shield
  · exact ok.unveil
  · exact ok.fail
  · exact ok.root
  · exact ok.mono (Nat.le_succ c)

section
variable {h : Hp} {ρ : Lay} {t : TS} {c r : Nat}

theorem run_run (a : TAt h ρ t) (ok : TOk c t) (hc : c ≤ 100000) (hr : ρ .root = some r) (o : OpV) :
    ∃ v ρ' h', Run Try.prog 16 [ptr r, .agg o.cells.toArray] h v h' ∧ TAt h' ρ' (t.run o).1 ∧ Step ρ h ρ' h' ∧ EfV h' (h.length + 1) ρ' v (t.run o).2 := by
  obtain ⟨k, n, y, fk, ft⟩ := o
  have a1 := a.push (AObj.cells (OpV.cells ⟨k, n, y, fk, ft⟩) true)
  have s1 := Step.push ρ h (AObj.cells (OpV.cells ⟨k, n, y, fk, ft⟩) true)
  have gb : (h ++ [AObj.cells (OpV.cells ⟨k, n, y, fk, ft⟩) true])[h.length]? = some (.cells (OpV.cells ⟨k, n, y, fk, ft⟩) true) := get_new _ _
  have L0 : (Asm.ld1 (.push (.is h) (.cells (OpV.cells ⟨k, n, y, fk, ft⟩) true)) h.length 0 (.int .i64 k)).holds Try.prog := a_ld1 gb rfl
  have L1 : (Asm.ld1 (.push (.is h) (.cells (OpV.cells ⟨k, n, y, fk, ft⟩) true)) h.length 1 (.int .i64 n)).holds Try.prog := a_ld1 gb rfl
  have L2 : (Asm.ld1 (.push (.is h) (.cells (OpV.cells ⟨k, n, y, fk, ft⟩) true)) h.length 2 (.bool y)).holds Try.prog := a_ld1 gb rfl
  have L3 : (Asm.ldn (.push (.is h) (.cells (OpV.cells ⟨k, n, y, fk, ft⟩) true)) h.length 3 2 [.int .i64 fk, .string ft]).holds Try.prog := a_ldn gb (by simp [OpV.cells]) rfl
  have nil : ∀ h' ρ', EfV h' (h.length + 1) ρ' (.slice none 0 0) [] := fun _ _ => .inl ⟨rfl, rfl⟩
  have ll : (h ++ [AObj.cells (OpV.cells ⟨k, n, y, fk, ft⟩) true]).length = h.length + 1 := push_len _ _
  by_cases c0 : k = 0
  · obtain ⟨ρ', h', r1, r2, r3⟩ := open_run a1 ok hc hr n y
    rw [show t.run ⟨k, n, y, fk, ft⟩ = ((t.open n y).1, []) by simp [TS.run, c0]]
    exact ⟨_, ρ', h', by subst c0; exact pvF 0 Try.func16 (r15p.rn_0 r h.length 0 n fk _ _ y ft (.bool true) h h') ⟨rfl, L0, eqT rfl, L1, L2, r1, trivial⟩, r2, s1.trans r3, nil _ _⟩
  by_cases c1 : k = 1
  · obtain ⟨ρ', h', r1, r2, r3⟩ := spawn_run a1 ok hc hr n
    rw [show t.run ⟨k, n, y, fk, ft⟩ = ((t.spawn n).1, []) by simp [TS.run, c0, c1]]
    exact ⟨_, ρ', h', pvF 0 Try.func16 (r15p.rn_1 r h.length k n fk _ _ y ft (.bool true) h h') ⟨rfl, L0, eqF c0, eqT c1, L1, r1, trivial⟩, r2, s1.trans r3, nil _ _⟩
  by_cases c2 : k = 2
  · obtain ⟨v, h', r1, r2, r3, r4⟩ := end_run a1 ok hc hr n fk ft
    rw [show t.run ⟨k, n, y, fk, ft⟩ = ((t.end n fk ft).1, (t.end n fk ft).2.1) by simp [TS.run, c0, c1, c2]]
    rw [ll] at r4
    exact ⟨_, ρ, h', pvF 0 Try.func16 (r15p.rn_2 r h.length k n fk 0 _ y ft v h h') ⟨rfl, L0, eqF c0, eqF c1, eqT c2, L1, L3, r1, trivial⟩, r2, s1.trans r3, r4⟩
  by_cases c3 : k = 3
  · obtain ⟨v, h', r1, r2, r3, r4⟩ := leave_run a1 ok hc hr n fk ft
    rw [show t.run ⟨k, n, y, fk, ft⟩ = ((t.leave n fk ft).1, (t.leave n fk ft).2.1) by simp [TS.run, c0, c1, c2, c3]]
    rw [ll] at r4
    exact ⟨_, ρ, h', pvF 0 Try.func16 (r15p.rn_3 r h.length k n fk 0 _ y ft v h h') ⟨rfl, L0, eqF c0, eqF c1, eqF c2, eqT c3, L1, L3, r1, trivial⟩, r2, s1.trans r3, r4⟩
  by_cases c4 : k = 4
  · obtain ⟨ρ', h', r1, r2, r3⟩ := shield_run a1 ok hc hr n
    rw [show t.run ⟨k, n, y, fk, ft⟩ = ((t.shield n).1, []) by simp [TS.run, c0, c1, c2, c3, c4]]
    exact ⟨_, ρ', h', pvF 0 Try.func16 (r15p.rn_4 r h.length k n fk 0 _ y ft (.bool true) h h') ⟨rfl, L0, eqF c0, eqF c1, eqF c2, eqF c3, eqT c4, L1, r1, trivial⟩, r2, s1.trans r3, nil _ _⟩
  by_cases c5 : k = 5
  · obtain ⟨ρ', h', r1, r2, r3⟩ := unveil_run a1 ok hc hr n
    rw [show t.run ⟨k, n, y, fk, ft⟩ = ((t.unveil n).1, []) by simp [TS.run, c0, c1, c2, c3, c4, c5]]
    exact ⟨_, ρ', h', pvF 0 Try.func16 (r15p.rn_5 r h.length k n fk 0 _ y ft (.bool true) h h') ⟨rfl, L0, eqF c0, eqF c1, eqF c2, eqF c3, eqF c4, eqT c5, L1, r1, trivial⟩, r2, s1.trans r3, nil _ _⟩
  by_cases c6 : k = 6
  · obtain ⟨v, h', r1, r2, r3, r4⟩ := fail_run a1 ok hc hr n fk ft
    rw [show t.run ⟨k, n, y, fk, ft⟩ = ((t.fail n fk ft).1, (t.fail n fk ft).2.1) by simp [TS.run, c0, c1, c2, c3, c4, c5, c6]]
    rw [ll] at r4
    exact ⟨_, ρ, h', pvF 0 Try.func16 (r15p.rn_6 r h.length k n fk 0 _ y ft v h h') ⟨rfl, L0, eqF c0, eqF c1, eqF c2, eqF c3, eqF c4, eqF c5, eqT c6, L1, L3, r1, trivial⟩, r2, s1.trans r3, r4⟩
  by_cases c7 : k = 7
  · obtain ⟨ρ', h', r1, r2, r3⟩ := root_run a1 ok hc hr
    rw [show t.run ⟨k, n, y, fk, ft⟩ = (t.root.1, []) by simp [TS.run, c0, c1, c2, c3, c4, c5, c6, c7]]
    exact ⟨_, ρ', h', pvF 0 Try.func16 (r15p.rn_7 r h.length k n fk _ _ y ft (.bool true) h h') ⟨rfl, L0, eqF c0, eqF c1, eqF c2, eqF c3, eqF c4, eqF c5, eqF c6, eqT c7, r1, trivial⟩, r2, s1.trans r3, nil _ _⟩
  · simp only [TS.run, c0, c1, c2, c3, c4, c5, c6, c7, if_false]
    exact ⟨_, ρ, _, pvF 0 Try.func16 (r15p.rn_8 r h.length k n fk 0 0 y ft (.bool true) h h) ⟨rfl, L0, eqF c0, eqF c1, eqF c2, eqF c3, eqF c4, eqF c5, eqF c6, eqF c7, trivial⟩, a1, s1, nil _ _⟩

/-- 'told': the effects, and whether there was no error. -/
def TS.told (t : TS) (o : OpV) : TS × List Ef × Bool :=
  if o.k = 2 then ((t.end o.n o.fk o.ft).1, (t.end o.n o.fk o.ft).2.1, decide ((t.end o.n o.fk o.ft).2.2 = 0)) else
  if o.k = 3 then ((t.leave o.n o.fk o.ft).1, (t.leave o.n o.fk o.ft).2.1, decide ((t.leave o.n o.fk o.ft).2.2 = 0)) else
  if o.k = 6 then ((t.fail o.n o.fk o.ft).1, (t.fail o.n o.fk o.ft).2.1, decide ((t.fail o.n o.fk o.ft).2.2 = 0)) else ((t.run o).1, (t.run o).2, true)
theorem told_run' {t : TS} {o : OpV} : (t.told o).1 = (t.run o).1 ∧ (t.told o).2.1 = (t.run o).2 := by
  unfold TS.told
  by_cases c2 : o.k = 2
  · simp [TS.run, c2]
  · by_cases c3 : o.k = 3
    · simp [TS.run, c3]
    · by_cases c6 : o.k = 6
      · simp [TS.run, c6]
      · simp [c2, c3, c6]

end

end Go.Proofs.Ytahomnlkkafbjaa.tr

namespace Go.Proofs.Ytahomnlkkafbjaa.tr
open Go Go.Ev
set_option maxRecDepth 100000
set_option linter.unusedVariables false
set_option linter.constructorNameAsVariable false

/-! ### made -/

def TS.runL (t : TS) (l : List OpV) : TS := l.foldl (fun t o => (t.run o).1) t
theorem runL_app (t : TS) (l m : List OpV) : t.runL (l ++ m) = (t.runL l).runL m := List.foldl_append
theorem TOk.runL {c : Nat} : ∀ {l : List OpV} {t : TS}, TOk c t → TOk (c + l.length) (t.runL l) := by
  intro l
  induction l generalizing c with
  | nil => intro t ok; exact ok
  | cons o l ih =>
    intro t ok
    have := ih ok.run (t := (t.run o).1)
    rw [List.length_cons, show c + (l.length + 1) = c + 1 + l.length by omega]
    exact this

/-- The calls that a law is given. -/
def OpsAt (h : Hp) (v : Value) (l : List OpV) : Prop := (l = [] ∧ v = .slice none 0 0) ∨ ∃ o rw, v = .slice (some ⟨o, 0, none⟩) l.length 5 ∧ h[o]? = some (.cells (opC l) rw)

theorem Made.step {h g g' : Hp} {ρ ρ' : Lay} {b : Nat} (m : Made h g ρ b) (s : Step ρ g ρ' g') : Made h g' ρ' b :=
  ⟨m.keep.trans_new s.keep fun q hq e => by have := m.new q e; omega, s.root.trans m.root, fun q e => (s.new q e).elim (m.new q) fun e => Nat.le_trans m.keep.1 e⟩
theorem Made.grow {h g g' : Hp} {ρ : Lay} {b : Nat} (m : Made h g ρ b) (K : Keep (fun _ => False) g g') : Made h g' ρ b := m.step (Step.grow K)
/-- What was there before the tree. -/
theorem Made.get {h g : Hp} {ρ : Lay} {b : Nat} (m : Made h g ρ b) {q : Nat} {o : AObj} (hq : h[q]? = some o) : g[q]? = some o := m.keep.2 q o hq id
theorem Made.from {h0 h g : Hp} {ρ : Lay} {b : Nat} (K : Keep (fun _ => False) h0 h) (m : Made h g ρ b) : Made h0 g ρ b :=
  ⟨K.trans m.keep, m.root, fun q e => Nat.le_trans K.1 (m.new q e)⟩

theorem made_loop {h : Hp} {b o n p : Nat} {rw : Bool} {l : List OpV} (hn : n ≤ 64) (hp : p ≤ l.length) (hp2 : p ≤ 1000) (ho : h[o]? = some (.cells (opC l) rw)) :
    ∀ (j i : Nat) (E : Env) (g : Hp) (ρ : Lay), i + j = p → EnvLe [(22, .int .i64 (i : Int)), (21, .int .i64 (Int.ofNat p)), (20, .slice (some ⟨o, 0, none⟩) p 5), (5, ptr b)] E → TAt g ρ ((TS.roots n).runL (l.take i)) → Made h g ρ b →
    ∃ E1 g' ρ', EnvLe [(5, ptr b)] E1 ∧ LRun Try.prog 31 false (loopN Try.f18 0) E g (.exit 0) E1 g' ∧ TAt g' ρ' ((TS.roots n).runL (l.take p)) ∧ Made h g' ρ' b := by
  intro j
  induction j with
  | zero =>
    intro i E g ρ hi hE a m
    have e : i = p := by omega
    subst e
    obtain ⟨E2, q1, q2⟩ := pvC 0 hE (r15p.ml_out b o i 0 0 i 0 0 0 0 false ⟨#[]⟩ (.bool true) g g) ⟨ltF (by simp), trivial⟩
    exact ⟨E2, g, ρ, .trans (.add (.nil _) rfl) q1, .last q2 (by simp), a, m⟩
  | succ j ih =>
    intro i E g ρ hi hE a m
    obtain ⟨x, hx⟩ : ∃ x, l[i]? = some x := ⟨_, List.getElem?_eq_getElem (by omega)⟩
    have hog := m.get ho
    have hat := opC_at hx
    have hlen := opC_len l
    have hnew : ((g ++ [AObj.cells [.int .i64 0, .int .i64 0, .bool false, .int .i64 0, .string ⟨#[]⟩] true]).set g.length (.cells x.cells true))[g.length]? = some (.cells x.cells true) := get_set_eq (get_new _ _)
    have K : Keep (fun _ => False) g ((g ++ [AObj.cells [.int .i64 0, .int .i64 0, .bool false, .int .i64 0, .string ⟨#[]⟩] true]).set g.length (.cells x.cells true)) := ((Keep.refl (fun _ => False) g).pushN _).setN (Nat.le_refl _) _
    have ok : TOk (n + (l.take i).length) ((TS.roots n).runL (l.take i)) := (roots_ok n hn).runL
    have hti : (l.take i).length ≤ i := by simp; omega
    obtain ⟨v, ρ', g2, r1, r2, r3, _⟩ := run_run (a.grow K) ok (by omega) m.root x
    obtain ⟨E2, q1, q2⟩ := pvC 0 hE (r15p.ml_go b o p (i * 5) g.length i ((i + 1 : Nat) : Int) x.k x.n x.fk x.y x.ft v g g2)
      ⟨ltT (by simp; omega), offI (q := i) rfl (by omega) (by omega), a_ldn hog (by omega) hat, rfl, a_st (get_new _ _) (by simp) rfl, a_ldn hnew (by simp [OpV.cells]) rfl, r1, addI rfl (by omega) (by omega), trivial⟩
    obtain ⟨E3, g3, ρ3, s1, s2, s3, s4⟩ := ih (i + 1) E2 g2 ρ' (by omega) (.trans (.add (.add (.add (.add (.nil _) rfl) rfl) rfl) rfl) q1) (by rw [take_one hx, runL_app]; exact r2) ((m.grow K).step r3)
    exact ⟨E3, g3, ρ3, s1, .step q2 s2, s3, s4⟩

theorem made_run {h : Hp} {l : List OpV} {vl : Value} (n : Int) (hv : OpsAt h vl l) :
    ((n < 1 ∨ 64 < n) ∧ Run Try.prog 18 [.int .i64 n, vl] h (.pointer none) h) ∨
    (1 ≤ n ∧ n ≤ 64 ∧ ∃ b ρ h', Run Try.prog 18 [.int .i64 n, vl] h (ptr b) h' ∧ TAt h' ρ ((TS.roots n.toNat).runL (l.take 60)) ∧ Made h h' ρ b) := by
  by_cases hn : n < 1 ∨ 64 < n
  · left
    refine ⟨hn, ?_⟩
    have r1 := new_low h hn
    rcases hv with ⟨_, rfl⟩ | ⟨o, rw, rfl, ho⟩
    · exact pvF 0 Try.func18 (r15p.ma_err 0 0 0 0 n 2 h h h) ⟨r1, neT (by omega), trivial⟩
    · exact pvF 0 Try.func18 (r15p.ma_errs 0 o l.length 0 n 2 h h h) ⟨r1, neT (by omega), trivial⟩
  · right
    obtain ⟨m, hm⟩ : ∃ m : Nat, n = m := ⟨n.toNat, by omega⟩
    subst hm
    obtain ⟨b, ρ, h1, r1, r2, r3⟩ := new_run h (n := m) (by omega) (by omega)
    rw [Int.toNat_natCast]
    refine ⟨by omega, by omega, b, ?_⟩
    rcases hv with ⟨rfl, rfl⟩ | ⟨o, rw, rfl, ho⟩
    · exact ⟨ρ, h1, pvF 0 Try.func18 (r15p.ma_nil b 0 0 0 m 0 h h1 h) ⟨r1, neF rfl, by simp [Asm.holds], ltF (by omega), trivial⟩, r2, r3⟩
    · obtain ⟨E1, g', ρ', q1, q2, q3, q4⟩ := made_loop (b := b) (n := m) (p := min l.length 60) (by omega) (by omega) (by omega) ho (min l.length 60) 0 [(22, .int .i64 0), (21, .int .i64 (Int.ofNat (min l.length 60))), (20, .slice (some ⟨o, 0, none⟩) (min l.length 60) 5), (5, ptr b)] h1 ρ (by omega) (EnvLe.refl _) r2 r3
      have e : l.take (min l.length 60) = l.take 60 := by
        by_cases c : l.length ≤ 60
        · rw [Nat.min_eq_left c, List.take_length, List.take_of_length_le c]
        · rw [Nat.min_eq_right (by omega)]
      rw [e] at q3
      exact ⟨ρ', g', pvF 0 Try.func18 (r15p.ma_some b o l.length (min l.length 60) m 0 h h1 g') ⟨r1, neF rfl, .inr ⟨rfl, by simp only [Int.ofNat_eq_natCast]; split <;> omega⟩, a_cut (by omega), a_loop (by kernel_rfl) (.add (.add (.add (.add (.nil _) rfl) rfl) rfl) rfl) q1 q2, trivial⟩, q3, q4⟩

end Go.Proofs.Ytahomnlkkafbjaa.tr

namespace Go.Proofs.Ytahomnlkkafbjaa.tr
open Go Go.Ev
set_option maxRecDepth 100000
set_option linter.unusedVariables false
set_option linter.constructorNameAsVariable false

/-! ### Arrays of faults -/

structure Ft where
  k : Int
  t : ByteArray
def Ft.cells (f : Ft) : List Value := [.int .i64 f.k, .string f.t]
def ftL (l : List Ft) : List Value := (l.map Ft.cells).flatten
def Ft.zero : Ft := ⟨0, ⟨#[]⟩⟩

end Go.Proofs.Ytahomnlkkafbjaa.tr

namespace Go.Proofs.Ytahomnlkkafbjaa.tr
open Go Go.Ev
set_option linter.unusedVariables false
set_option linter.constructorNameAsVariable false

/-! ### TreeFirst: the plain law -/

structure FI (first block : List Ft) (t : TS) : Prop where
  lf : first.length = 201
  lb : block.length = 201
  hf : ∀ (s : Nat) y, t.scs[s]? = some y → first[s + 1]? = some ⟨y.fk, y.ft⟩
  hb : ∀ (k : Nat) x s, t.tks[k]? = some x → x.lv = true → x.opn.getLast? = some (some s) → block[s + 1]? = some ⟨x.fk, x.ft⟩
  ho : ∀ (k : Nat) x s y, t.tks[k]? = some x → some s ∈ x.opn → t.scs[s]? = some y → y.ow = k
  hz : ∀ s, t.scs.length ≤ s → s < 200 → first[s + 1]? = some Ft.zero

/-- What the law asks of an effect. -/
def goodE (first block : List Ft) (e : Ef) : Prop := e.kind = 3 → ∃ m : Nat, e.m = m ∧ 1 ≤ m ∧ m ≤ 200 ∧ ∃ w bk, first[m]? = some w ∧ block[m]? = some bk ∧ (⟨e.fk, e.ft⟩ : Ft) = if w.k = 0 ∧ bk.k = 2 then bk else w

section
variable {first block : List Ft} {t : TS} {c k : Nat}

theorem upT_inv {f : Tk → Tk} {j : Nat} {z : Tk} (h : (t.upT k f).tks[j]? = some z) : ∃ x, t.tks[j]? = some x ∧ ((k = j ∧ z = f x) ∨ (k ≠ j ∧ z = x)) := by
  rw [upT_get] at h
  cases e : t.tks[j]? with
  | none => rw [e] at h; cases h
  | some x =>
    rw [e] at h
    simp only [Option.map_some, Option.some.injEq] at h
    split at h
    · rename_i e'; exact ⟨x, rfl, .inl ⟨e', h.symm⟩⟩
    · rename_i e'; exact ⟨x, rfl, .inr ⟨e', h.symm⟩⟩
theorem upS_inv {f : Sc → Sc} {j : Nat} {z : Sc} (h : (t.upS k f).scs[j]? = some z) : ∃ x, t.scs[j]? = some x ∧ ((k = j ∧ z = f x) ∨ (k ≠ j ∧ z = x)) := by
  rw [upS_get] at h
  cases e : t.scs[j]? with
  | none => rw [e] at h; cases h
  | some x =>
    rw [e] at h
    simp only [Option.map_some, Option.some.injEq] at h
    split at h
    · rename_i e'; exact ⟨x, rfl, .inl ⟨e', h.symm⟩⟩
    · rename_i e'; exact ⟨x, rfl, .inr ⟨e', h.symm⟩⟩

theorem FI.newT (I : FI first block t) (inn : Option Nat) : FI first block (t.newT inn) := by
  refine ⟨I.lf, I.lb, I.hf, fun j x s hx hl hg => ?_, fun j x s y hx hs hy => ?_, I.hz⟩
  · rcases newT_get hx with hx | ⟨_, rfl⟩
    · exact I.hb j x s hx hl hg
    · cases hl
  · rcases newT_get hx with hx | ⟨_, rfl⟩
    · exact I.ho j x s y hx hs hy
    · cases hs
theorem FI.newS (I : FI first block t) (ok : TOk c t) (hn : t.scs.length < 200) (su : Bool) : FI first block (t.newS k su) := by
  refine ⟨I.lf, I.lb, fun s y hy => ?_, I.hb, fun j x s y hx hs hy => ?_, fun s hs h2 => ?_⟩
  · rcases newS_get hy with hy | ⟨rfl, rfl⟩
    · exact I.hf s y hy
    · exact I.hz _ (Nat.le_refl _) hn
  · rcases newS_get hy with hy | ⟨rfl, rfl⟩
    · exact I.ho j x s y hx hs hy
    · have := ok.opn j x _ hx hs; omega
  · rw [newS_len] at hs
    exact I.hz s (by omega) h2
/-- A scope turned, its fault and its owner kept. -/
theorem FI.upS (I : FI first block t) {f : Sc → Sc} (h1 : ∀ y, (f y).fk = y.fk) (h2 : ∀ y, (f y).ft = y.ft) (h3 : ∀ y, (f y).ow = y.ow) : FI first block (t.upS k f) := by
  refine ⟨I.lf, I.lb, fun s y hy => ?_, I.hb, fun j x s y hx hs hy => ?_, fun s hs => I.hz s (by rw [upS_len] at hs; exact hs)⟩
  · obtain ⟨z, hz, ⟨_, rfl⟩ | ⟨_, rfl⟩⟩ := upS_inv hy
    · rw [h1, h2]; exact I.hf s z hz
    · exact I.hf s y hz
  · obtain ⟨z, hz, ⟨_, rfl⟩ | ⟨_, rfl⟩⟩ := upS_inv hy
    · rw [h3]; exact I.ho j x s z hx hs hz
    · exact I.ho j x s y hx hs hz
/-- A task turned: what it is after must be as is asked. -/
theorem FI.upT (I : FI first block t) {f : Tk → Tk} (hb : ∀ x s, t.tks[k]? = some x → (f x).lv = true → (f x).opn.getLast? = some (some s) → block[s + 1]? = some ⟨(f x).fk, (f x).ft⟩)
    (ho : ∀ x s y, t.tks[k]? = some x → some s ∈ (f x).opn → t.scs[s]? = some y → y.ow = k) : FI first block (t.upT k f) := by
  refine ⟨I.lf, I.lb, I.hf, fun j x s hx hl hg => ?_, fun j x s y hx hs hy => ?_, I.hz⟩
  · obtain ⟨z, hz, ⟨rfl, rfl⟩ | ⟨_, rfl⟩⟩ := upT_inv hx
    · exact hb z s hz hl hg
    · exact I.hb j x s hz hl hg
  · obtain ⟨z, hz, ⟨rfl, rfl⟩ | ⟨_, rfl⟩⟩ := upT_inv hx
    · exact ho z s y hz hs hy
    · exact I.ho j x s y hz hs hy

theorem FI.add (I : FI first block t) (inn : Option Nat) : FI first block (t.add inn) := by
  cases inn with
  | none => exact I.newT none
  | some s => exact FI.upS (f := fun x => { x with live := x.live + 1 }) (FI.upS (f := fun x => { x with tks := x.tks ++ [t.tks.length] }) (I.newT (some s)) (fun _ => rfl) (fun _ => rfl) fun _ => rfl) (fun _ => rfl) (fun _ => rfl) fun _ => rfl
theorem FI.root (I : FI first block t) : FI first block t.root.1 := by
  unfold TS.root
  split
  · exact I
  · exact I.add none
theorem FI.spawn (I : FI first block t) (n : Int) : FI first block (t.spawn n).1 := by
  unfold TS.spawn
  split
  · exact I
  · split
    · exact I
    · split
      · exact I
      · rename_i s hs
        split
        · exact I
        · exact I.add (some s)
theorem FI.open (I : FI first block t) (ok : TOk c t) (n : Int) (su : Bool) : FI first block (t.open n su).1 := by
  unfold TS.open
  split
  · exact I
  · rename_i k e hq
    split
    · exact I
    · obtain ⟨_, _, x, hx, _, hl⟩ := acts_some hq
      refine (I.newS ok (by omega) su).upT (fun z s hz hl' _ => ?_) fun z s y hz hs hy => ?_
      · have hz' : t.tks[k]? = some z := hz
        rw [hx] at hz'; cases hz'
        rw [hl] at hl'; cases hl'
      · have hz' : t.tks[k]? = some z := hz
        rcases List.mem_append.1 hs with hs | hs
        · rcases newS_get hy with hy | ⟨rfl, rfl⟩
          · exact I.ho k z s y hz' hs hy
          · rfl
        · simp at hs
          subst hs
          rw [newS_new] at hy; cases hy; rfl
theorem FI.shield (I : FI first block t) (n : Int) : FI first block (t.shield n).1 := by
  unfold TS.shield
  split
  · exact I
  · rename_i k e hq
    obtain ⟨_, _, x, hx, _, hl⟩ := acts_some hq
    rw [hx]
    simp only
    split
    · exact I
    · refine I.upT (fun z s hz hl' _ => ?_) fun z s y hz hs hy => ?_
      · rw [hx] at hz; cases hz
        rw [hl] at hl'; cases hl'
      · rcases List.mem_append.1 hs with hs | hs
        · exact I.ho k z s y hz hs hy
        · simp at hs
theorem FI.unveil (I : FI first block t) (n : Int) : FI first block (t.unveil n).1 := by
  unfold TS.unveil
  split
  · exact I
  · rename_i k e hq
    obtain ⟨_, _, x, hx, _, hl⟩ := acts_some hq
    rw [hx]
    simp only
    split
    · refine I.upT (fun z s hz hl' _ => ?_) fun z s y hz hs hy => ?_
      · rw [hx] at hz; cases hz
        rw [hl] at hl'; cases hl'
      · exact I.ho k z s y hz (List.dropLast_subset _ hs) hy
    · exact I

theorem FI.fin (I : FI first block t) (ok : TOk c t) (s : Nat) : FI first block (t.fin s).1 ∧ ∀ e, e ∈ (t.fin s).2 → goodE first block e := by
  have nil : ∀ e, e ∈ ([] : List Ef) → goodE first block e := fun e h => by cases h
  unfold TS.fin
  split
  · exact ⟨I, nil⟩
  · rename_i y hy
    split
    · exact ⟨I, nil⟩
    · rename_i x hx
      split
      · rename_i hB
        simp only [finB, Bool.and_eq_true, decide_eq_true_eq] at hB
        obtain ⟨⟨hl, hg⟩, _⟩ := hB
        refine ⟨?_, fun e he hk => ?_⟩
        · have I1 := I.upS (k := s) (f := fun y => { y with ov := true }) (fun _ => rfl) (fun _ => rfl) fun _ => rfl
          have hx1 : (t.upS s fun y => { y with ov := true }).tks[y.ow]? = some x := hx
          -- all three turns of the task at once
          have key : FI first block (((t.upS s fun y => { y with ov := true }).upT y.ow fun x => { x with opn := x.opn.dropLast, lv := false, fk := 0, ft := ⟨#[]⟩ })) := I1.upT (fun z s' hz hl' _ => by cases hl') fun z s' y' hz hs hy' => I1.ho y.ow z s' y' hz (List.dropLast_subset _ hs) hy'
          have e3 : t.fin0 s y.ow = ((t.upS s fun y => { y with ov := true }).upT y.ow fun x => { x with opn := x.opn.dropLast, lv := false, fk := 0, ft := ⟨#[]⟩ }) := by
            simp only [TS.fin0, TS.upT, TS.upS, List.modify_modify_eq]
            rfl
          rw [e3]
          exact key
        · have hs := get_lt' hy
          have n200 := ok.n200
          simp only [List.mem_singleton] at he
          subst he
          refine ⟨s + 1, rfl, by omega, by omega, _, _, I.hf s y hy, I.hb _ x s hx hl hg, ?_⟩
          simp only [finF]
          split <;> rfl
      · exact ⟨I, nil⟩

/-- A fault that a scope gets. -/
def gotF (first : List Ft) (got : Int) (fk : Int) (ft : ByteArray) : List Ft := if 0 < got ∧ fk = 1 ∧ (first[got.toNat]?.getD Ft.zero).k = 0 then first.set got.toNat ⟨fk, ft⟩ else first

theorem FI.blame (I : FI first block t) (ok : TOk c t) {s : Nat} {y : Sc} (hy : t.scs[s]? = some y) (fk : Int) (ft : ByteArray) : FI (gotF first ((s + 1 : Nat) : Int) fk ft) block (t.blame s fk ft).1 := by
  have hs := get_lt' hy
  have n200 := ok.n200
  have hfy := I.hf s y hy
  have e1 : (first[(((s + 1 : Nat) : Int)).toNat]?.getD Ft.zero).k = y.fk := by rw [Int.toNat_natCast, hfy]; rfl
  unfold gotF
  rw [e1, Int.toNat_natCast]
  unfold TS.blame
  rw [hy]
  simp only
  by_cases hc : fk = 1 ∧ y.fk = 0
  · rw [if_pos ⟨by omega, hc⟩, if_pos (by simp [blameB, hc])]
    refine ⟨by rw [List.length_set]; exact I.lf, I.lb, fun s' y' hy' => ?_, I.hb, fun j x s' y' hx hs' hy' => ?_, fun s' hs' h2 => ?_⟩
    · obtain ⟨z, hz, ⟨rfl, rfl⟩ | ⟨hn, rfl⟩⟩ := upS_inv hy'
      · rw [List.getElem?_set_self (by rw [I.lf]; omega)]
      · rw [List.getElem?_set_ne (by omega)]; exact I.hf s' y' hz
    · obtain ⟨z, hz, ⟨rfl, rfl⟩ | ⟨hn, rfl⟩⟩ := upS_inv hy'
      · exact I.ho j x s z hx hs' hz
      · exact I.ho j x s' y' hx hs' hz
    · rw [upS_len] at hs'
      rw [List.getElem?_set_ne (by omega)]; exact I.hz s' hs' h2
  · rw [if_neg fun e => hc e.2, if_neg (by simp [blameB]; intro a b; exact hc ⟨a, b⟩)]
    exact I
end

end Go.Proofs.Ytahomnlkkafbjaa.tr

namespace Go.Proofs.Ytahomnlkkafbjaa.tr
open Go Go.Ev
set_option linter.unusedVariables false
set_option linter.constructorNameAsVariable false

/-- The scope that a call gives a fault. -/
def gotOf (t : TS) (o : OpV) : Int :=
  if o.k = 2 then (if (t.sco (t.task o.n).1.sc).2 = 0 ∧ (t.sco (t.task o.n).1.sc).1.su = false then (t.task o.n).1.sc else 0) else
  if o.k = 3 then (match (t.task o.n).1.op.getLast? with | some l => lkN l | none => 0) else if o.k = 6 then o.n else 0
def blockF (block : List Ft) (t : TS) (o : OpV) (okk : Bool) : List Ft := if okk = true ∧ o.k = 3 then block.set (gotOf t o).toNat ⟨o.fk, o.ft⟩ else block
def firstF (first : List Ft) (t : TS) (o : OpV) (okk : Bool) : List Ft := if okk = true then gotF first (gotOf t o) o.fk o.ft else first

section
variable {first block : List Ft} {t : TS} {c k : Nat}

theorem gotF_zero (fk : Int) (ft : ByteArray) : gotF first 0 fk ft = first := by simp [gotF]
theorem runs_task {n : Int} {k : Nat} {e : Int} {x : Tk} (h : t.runs n = (some k, e)) (hx : t.tks[k]? = some x) : t.task n = (tkV x, 0) := by
  obtain ⟨_, rfl, _⟩ := runs_some h
  have hk := get_lt' hx
  have e1 : ((k : Int) + 1 - 1).toNat = k := by omega
  unfold TS.task
  rw [if_neg (by omega), e1, hx]
theorem sco_at {s : Nat} {y : Sc} (hy : t.scs[s]? = some y) : t.sco ((s + 1 : Nat) : Int) = (scV y, 0) := by
  have hs := get_lt' hy
  have e1 : (((s + 1 : Nat) : Int) - 1).toNat = s := by omega
  have : t.scope ((s + 1 : Nat) : Int) = (some s, 0) := by
    unfold TS.scope
    rw [if_neg (by omega), e1]
  simp only [TS.sco, this, hy]
theorem sco_zero : t.sco 0 = (.zero, 6) := by simp [TS.sco, TS.scope]

theorem FI.step (I : FI first block t) (ok : TOk c t) (o : OpV) : FI (firstF first t o (t.told o).2.2) (blockF block t o (t.told o).2.2) (t.told o).1 ∧ (∀ e, e ∈ (t.told o).2.1 → goodE (firstF first t o (t.told o).2.2) (blockF block t o (t.told o).2.2) e) ∧
    ((t.told o).2.2 = true → 0 ≤ gotOf t o ∧ gotOf t o ≤ 200) := by
  obtain ⟨kk, n, yes, fk, ft⟩ := o
  have n200 := ok.n200
  have nilE : ∀ {f b : List Ft} e, e ∈ ([] : List Ef) → goodE f b e := fun e h => by cases h
  by_cases c2 : kk = 2
  · subst c2
    have et : t.told ⟨2, n, yes, fk, ft⟩ = ((t.end n fk ft).1, (t.end n fk ft).2.1, decide ((t.end n fk ft).2.2 = 0)) := by simp [TS.told]
    have eb : ∀ b, blockF block t ⟨2, n, yes, fk, ft⟩ b = block := fun b => by simp [blockF]
    rw [et, eb]
    have bad : ∀ e : Int, e ≠ 0 → t.end n fk ft = (t, [], e) → FI (firstF first t ⟨2, n, yes, fk, ft⟩ (decide ((t.end n fk ft).2.2 = 0))) block (t.end n fk ft).1 ∧ (∀ e, e ∈ (t.end n fk ft).2.1 → goodE (firstF first t ⟨2, n, yes, fk, ft⟩ (decide ((t.end n fk ft).2.2 = 0))) block e) ∧ (decide ((t.end n fk ft).2.2 = 0) = true → 0 ≤ gotOf t ⟨2, n, yes, fk, ft⟩ ∧ gotOf t ⟨2, n, yes, fk, ft⟩ ≤ 200) := fun e he h => by
      rw [h]
      simp only [he, decide_false, firstF, Bool.false_eq_true, if_false]
      exact ⟨I, nilE, fun h => h.elim⟩
    rcases hq : t.runs n with ⟨k | k, e⟩
    · have e6 := runs_none hq
      exact bad 6 (by omega) (by simp only [TS.end, hq, e6])
    · obtain ⟨rfl, hn, x, hx, he⟩ := runs_some hq
      cases hf : faultB fk ft with
      | false => exact bad 2 (by omega) (by simp only [TS.end, hq, hf, if_true])
      | true =>
        by_cases hop : x.opn = []
        · have I1 : FI first block (t.end1 k fk ft) := by
            refine FI.upT (FI.upT I (f := fun x => { x with en := true }) (fun z s hz hl hg => ?_) fun z s y hz hs hy => ?_) (fun z s hz hl hg => ?_) fun z s y hz hs hy => ?_
            · rw [hx] at hz; cases hz; simp only [hop] at hg; cases hg
            · rw [hx] at hz; cases hz; simp only [hop] at hs; cases hs
            · rw [upT_at hx] at hz; cases hz; simp only [hop] at hg; cases hg
            · rw [upT_at hx] at hz; cases hz; simp only [hop] at hs; cases hs
          cases hin : x.inn with
          | none =>
            have e' : t.end n fk ft = (t.end1 k fk ft, [], 0) := by simp only [TS.end, hq, hf, hx, hop, hin, Bool.true_eq_false, if_false, ne_eq, not_true_eq_false]
            have eg : gotOf t ⟨2, n, yes, fk, ft⟩ = 0 := by
              simp only [gotOf, if_true, runs_task hq hx, tkV, hin, lkN, sco_zero]
              simp
            rw [e']
            simp only [decide_true, firstF, if_true, eg, gotF_zero]
            exact ⟨I1, nilE, fun _ => by omega⟩
          | some s =>
            have hsl := ok.inn k x s hx hin
            obtain ⟨y, hy⟩ : ∃ y, t.scs[s]? = some y := ⟨_, List.getElem?_eq_getElem hsl⟩
            have e' : t.end n fk ft = (((t.end3 k s y fk ft).1.fin s).1, saidE s (t.end3 k s y fk ft).2 ++ ((t.end3 k s y fk ft).1.fin s).2, 0) := by simp only [TS.end, hq, hf, hx, hop, hin, hy, Bool.true_eq_false, if_false, ne_eq, not_true_eq_false]
            have I2 : FI first block (t.end2 k s fk ft) := FI.upS (f := fun y => { y with live := y.live - 1 }) I1 (fun _ => rfl) (fun _ => rfl) fun _ => rfl
            have hy2 : (t.end2 k s fk ft).scs[s]? = some { y with live := y.live - 1 } := upS_at (g := fun y => { y with live := y.live - 1 }) hy
            have ok2 := ok.end2 (k := k) (s := s) (fk := fk) (ft := ft)
            have ok3 := ok.end3 (k := k) (s := s) (y := y) (fk := fk) (ft := ft)
            have eg : gotOf t ⟨2, n, yes, fk, ft⟩ = if y.su = false then ((s + 1 : Nat) : Int) else 0 := by
              simp only [gotOf, if_true, runs_task hq hx, tkV, hin, lkN, sco_at hy, scV, true_and]
            have I3 : FI (gotF first (gotOf t ⟨2, n, yes, fk, ft⟩) fk ft) block (t.end3 k s y fk ft).1 := by
              rw [eg]
              unfold TS.end3
              cases hsu : y.su with
              | true => simp only [if_true, Bool.true_eq_false, if_false, gotF_zero]; exact I2
              | false => simp only [if_true, Bool.false_eq_true, if_false]; exact I2.blame ok2 hy2 fk ft
            obtain ⟨q1, q2⟩ := I3.fin ok3 s
            rw [e']
            simp only [decide_true, firstF, if_true]
            refine ⟨q1, fun e he => ?_, fun _ => ?_⟩
            · rcases List.mem_append.1 he with he | he
              · unfold saidE at he
                split at he
                · simp at he; subst he
                  intro h3; simp at h3
                · cases he
              · exact q2 e he
            · rw [eg]; split <;> omega
        · exact bad 22 (by omega) (by simp only [TS.end, hq, hf, hx, hop, Bool.true_eq_false, if_false, ne_eq, not_false_eq_true, if_true])
  by_cases c3 : kk = 3
  · subst c3
    have et : t.told ⟨3, n, yes, fk, ft⟩ = ((t.leave n fk ft).1, (t.leave n fk ft).2.1, decide ((t.leave n fk ft).2.2 = 0)) := by simp [TS.told]
    rw [et]
    have bad : ∀ e : Int, e ≠ 0 → t.leave n fk ft = (t, [], e) → FI (firstF first t ⟨3, n, yes, fk, ft⟩ (decide ((t.leave n fk ft).2.2 = 0))) (blockF block t ⟨3, n, yes, fk, ft⟩ (decide ((t.leave n fk ft).2.2 = 0))) (t.leave n fk ft).1 ∧ (∀ e, e ∈ (t.leave n fk ft).2.1 → goodE (firstF first t ⟨3, n, yes, fk, ft⟩ (decide ((t.leave n fk ft).2.2 = 0))) (blockF block t ⟨3, n, yes, fk, ft⟩ (decide ((t.leave n fk ft).2.2 = 0))) e) ∧
        (decide ((t.leave n fk ft).2.2 = 0) = true → 0 ≤ gotOf t ⟨3, n, yes, fk, ft⟩ ∧ gotOf t ⟨3, n, yes, fk, ft⟩ ≤ 200) := fun e he h => by
      rw [h]
      simp only [he, decide_false, firstF, blockF, Bool.false_eq_true, if_false, false_and]
      exact ⟨I, nilE, fun h => h.elim⟩
    rcases hq : t.runs n with ⟨k | k, e⟩
    · have e6 := runs_none hq
      exact bad 6 (by omega) (by simp only [TS.leave, hq, e6])
    · obtain ⟨rfl, hn, x, hx, he⟩ := runs_some hq
      cases hf : faultB fk ft with
      | false => exact bad 2 (by omega) (by simp only [TS.leave, hq, hf, if_true])
      | true =>
        cases hlv : x.lv with
        | true => exact bad 22 (by omega) (by simp only [TS.leave, hq, hf, hx, hlv, Bool.true_eq_false, if_false])
        | false =>
          cases hg : x.opn.getLast? with
          | none => exact bad 22 (by omega) (by simp only [TS.leave, hq, hf, hx, hlv, hg, Bool.true_eq_false, if_false])
          | some v =>
            cases v with
            | none => exact bad 22 (by omega) (by simp only [TS.leave, hq, hf, hx, hlv, hg, Bool.true_eq_false, if_false])
            | some s =>
              have hmem := List.mem_of_getLast? hg
              have hsl := ok.opn k x s hx hmem
              obtain ⟨y, hy⟩ : ∃ y, t.scs[s]? = some y := ⟨_, List.getElem?_eq_getElem hsl⟩
              have e' : t.leave n fk ft = (((t.leave1 k s fk ft).fin s).1, liveE s fk y ++ ((t.leave1 k s fk ft).fin s).2, 0) := by simp only [TS.leave, hq, hf, hx, hlv, hg, hy, Bool.true_eq_false, if_false]
              have eg : gotOf t ⟨3, n, yes, fk, ft⟩ = ((s + 1 : Nat) : Int) := by
                simp only [gotOf, if_true, runs_task hq hx, tkV, hg, lkN]
                simp
              have I1 := I.blame ok hy fk ft
              have hx1 : (t.blame s fk ft).1.tks[k]? = some x := by rw [blame_tks]; exact hx
              obtain ⟨y', hy', _, how, _⟩ := blame_get (fk := fk) (ft := ft) hy
              have hyk : y.ow = k := I.ho k x s y hx hmem hy
              have e2 : t.leave1 k s fk ft = (t.blame s fk ft).1.upT k fun x => { x with lv := true, fk := fk, ft := ft } := by
                simp only [TS.leave1, TS.upT, List.modify_modify_eq]
                rfl
              have I2 : FI (gotF first ((s + 1 : Nat) : Int) fk ft) (block.set (s + 1) ⟨fk, ft⟩) (t.leave1 k s fk ft) := by
                rw [e2]
                refine ⟨I1.lf, by rw [List.length_set]; exact I1.lb, I1.hf, fun j z s' hz hl hg' => ?_, fun j z s' y'' hz hs' hy'' => ?_, I1.hz⟩
                · obtain ⟨w, hw, ⟨rfl, rfl⟩ | ⟨hjk, rfl⟩⟩ := upT_inv hz
                  · rw [hx1] at hw; cases hw
                    simp only [hg] at hg'
                    cases hg'
                    rw [List.getElem?_set_self (by rw [I1.lb]; omega)]
                  · have ne : s ≠ s' := fun e => by
                      subst e
                      have := I1.ho j z s y' hw (List.mem_of_getLast? hg') hy'
                      omega
                    rw [List.getElem?_set_ne (by omega)]
                    exact I1.hb j z s' hw hl hg'
                · obtain ⟨w, hw, ⟨rfl, rfl⟩ | ⟨hjk, rfl⟩⟩ := upT_inv hz
                  · exact I1.ho k w s' y'' hw hs' hy''
                  · exact I1.ho j z s' y'' hw hs' hy''
              obtain ⟨q1, q2⟩ := I2.fin ok.leave1 s
              rw [e']
              simp only [decide_true, firstF, blockF, if_true, true_and, eg, Int.toNat_natCast]
              refine ⟨q1, fun e he => ?_, fun _ => by omega⟩
              rcases List.mem_append.1 he with he | he
              · unfold liveE at he
                split at he
                · simp at he; subst he
                  intro h3; simp at h3
                · cases he
              · exact q2 e he
  by_cases c6 : kk = 6
  · subst c6
    have et : t.told ⟨6, n, yes, fk, ft⟩ = ((t.fail n fk ft).1, (t.fail n fk ft).2.1, decide ((t.fail n fk ft).2.2 = 0)) := by simp [TS.told]
    have eb : ∀ b, blockF block t ⟨6, n, yes, fk, ft⟩ b = block := fun b => by simp [blockF]
    have eg : gotOf t ⟨6, n, yes, fk, ft⟩ = n := by simp [gotOf]
    rw [et, eb]
    have bad : ∀ e : Int, e ≠ 0 → t.fail n fk ft = (t, [], e) → FI (firstF first t ⟨6, n, yes, fk, ft⟩ (decide ((t.fail n fk ft).2.2 = 0))) block (t.fail n fk ft).1 ∧ (∀ e, e ∈ (t.fail n fk ft).2.1 → goodE (firstF first t ⟨6, n, yes, fk, ft⟩ (decide ((t.fail n fk ft).2.2 = 0))) block e) ∧ (decide ((t.fail n fk ft).2.2 = 0) = true → 0 ≤ gotOf t ⟨6, n, yes, fk, ft⟩ ∧ gotOf t ⟨6, n, yes, fk, ft⟩ ≤ 200) := fun e he h => by
      rw [h]
      simp only [he, decide_false, firstF, Bool.false_eq_true, if_false]
      exact ⟨I, nilE, fun h => h.elim⟩
    rcases hq : t.scope n with ⟨s | s, e⟩
    · have e6 := scope_none hq
      exact bad 6 (by omega) (by simp only [TS.fail, hq, e6])
    · obtain ⟨rfl, hn, hs⟩ := scope_some hq
      obtain ⟨y, hy⟩ : ∃ y, t.scs[s]? = some y := ⟨_, List.getElem?_eq_getElem hs⟩
      cases hov : y.ov with
      | true => exact bad 6 (by omega) (by simp only [TS.fail, hq, hy, hov, if_true])
      | false =>
        by_cases hc : fk = 1 ∧ faultB fk ft = true
        · have e' : t.fail n fk ft = ((t.blame s fk ft).1, if (t.blame s fk ft).2 then [⟨1, n, 0, 0, ⟨#[]⟩⟩] else [], 0) := by simp only [TS.fail, hq, hy, hov, Bool.false_eq_true, if_false]; rw [if_pos hc]
          have I1 := I.blame ok hy fk ft
          rw [e']
          simp only [decide_true, firstF, if_true, eg]
          rw [show n = ((s + 1 : Nat) : Int) by omega]
          refine ⟨I1, fun e he => ?_, fun _ => by omega⟩
          split at he
          · simp at he; subst he
            intro h3; simp at h3
          · cases he
        · exact bad 2 (by omega) (by simp only [TS.fail, hq, hy, hov, Bool.false_eq_true, if_false]; rw [if_neg hc])
  · have et : t.told ⟨kk, n, yes, fk, ft⟩ = ((t.run ⟨kk, n, yes, fk, ft⟩).1, (t.run ⟨kk, n, yes, fk, ft⟩).2, true) := by simp [TS.told, c2, c3, c6]
    have eg : gotOf t ⟨kk, n, yes, fk, ft⟩ = 0 := by simp [gotOf, c2, c3, c6]
    rw [et]
    simp only [firstF, blockF, if_true, true_and, c3, if_false, eg, gotF_zero]
    have go : FI first block (t.run ⟨kk, n, yes, fk, ft⟩).1 ∧ (t.run ⟨kk, n, yes, fk, ft⟩).2 = [] := by
      unfold TS.run
      simp only [c2, c3, c6, if_false]
      repeat' split
      · exact ⟨I.open ok n yes, rfl⟩
      · exact ⟨I.spawn n, rfl⟩
      · exact ⟨I.shield n, rfl⟩
      · exact ⟨I.unveil n, rfl⟩
      · exact ⟨I.root, rfl⟩
      · exact ⟨I, rfl⟩
    rw [go.2]
    exact ⟨go.1, nilE, fun _ => by omega⟩

end

end Go.Proofs.Ytahomnlkkafbjaa.tr

namespace Go.Proofs.Ytahomnlkkafbjaa.tr
open Go Go.Ev
set_option maxRecDepth 100000
set_option linter.unusedVariables false
set_option linter.constructorNameAsVariable false

/-! ### TreeFirst: the walk -/

/-- The heap in the rounds: the tree, the calls, the two arrays. -/
structure FS (g : Hp) (ρ : Lay) (t : TS) (b o f1 f2 : Nat) (ops : List OpV) (first block : List Ft) : Prop where
  tat : TAt g ρ t
  root : ρ .root = some b
  hO : ∃ rw, g[o]? = some (.cells (opC ops) rw)
  nO : ¬ fpT ρ o
  h1 : g[f1]? = some (.cells (ftL first) true)
  n1 : ¬ fpT ρ f1
  h2 : g[f2]? = some (.cells (ftL block) true)
  n2 : ¬ fpT ρ f2
  d1 : o ≠ f1
  d2 : o ≠ f2
  d3 : f1 ≠ f2

section
variable {g g' : Hp} {ρ ρ' : Lay} {t t' : TS} {b o f1 f2 : Nat} {ops : List OpV} {first block : List Ft} {c : Nat}

theorem FS.step (F : FS g ρ t b o f1 f2 ops first block) (S : Step ρ g ρ' g') (a : TAt g' ρ' t') : FS g' ρ' t' b o f1 f2 ops first block := by
  obtain ⟨rw, hO⟩ := F.hO
  exact ⟨a, S.root.trans F.root, ⟨rw, S.get hO F.nO⟩, S.out (get_lt hO) F.nO, S.get F.h1 F.n1, S.out (get_lt F.h1) F.n1, S.get F.h2 F.n2, S.out (get_lt F.h2) F.n2, F.d1, F.d2, F.d3⟩
theorem FS.grow (F : FS g ρ t b o f1 f2 ops first block) (K : Keep (fun _ => False) g g') : FS g' ρ t b o f1 f2 ops first block := F.step (Step.grow K) (F.tat.grow K)
theorem FS.set1 (F : FS g ρ t b o f1 f2 ops first block) (first' : List Ft) : FS (g.set f1 (.cells (ftL first') true)) ρ t b o f1 f2 ops first' block := by
  obtain ⟨rw, hO⟩ := F.hO
  exact ⟨F.tat.setN F.n1 _, F.root, ⟨rw, get_set_ne hO (Ne.symm F.d1)⟩, F.nO, get_set_eq F.h1, F.n1, get_set_ne F.h2 F.d3, F.n2, F.d1, F.d2, F.d3⟩
abbrev E6 (b o f1 f2 p : Nat) (i : Int) : Env := [(42, .int .i64 i), (41, .int .i64 (Int.ofNat p)), (40, .slice (some ⟨o, 0, none⟩) p 5), (5, ptr b), (7, .slice (some ⟨f1, 0, none⟩) 201 2), (8, .slice (some ⟨f2, 0, none⟩) 201 2)]
end

end Go.Proofs.Ytahomnlkkafbjaa.tr

namespace Go.Proofs.Ytahomnlkkafbjaa.tr
open Go Go.Ev
set_option maxRecDepth 100000
set_option linter.unusedVariables false
set_option linter.constructorNameAsVariable false

section
variable {g g' : Hp} {ρ ρ' : Lay} {t t' : TS} {b o f1 f2 : Nat} {ops : List OpV} {first block : List Ft} {c : Nat}

end

end Go.Proofs.Ytahomnlkkafbjaa.tr

namespace Go.Proofs.Ytahomnlkkafbjaa.tr
open Go Go.Ev
set_option maxRecDepth 100000
set_option linter.unusedVariables false
set_option linter.constructorNameAsVariable false

section
variable {g g' : Hp} {ρ ρ' : Lay} {t t' : TS} {b o f1 f2 : Nat} {ops : List OpV} {first block : List Ft} {c : Nat}

end

end Go.Proofs.Ytahomnlkkafbjaa.tr

namespace Go.Proofs.Ytahomnlkkafbjaa.tr
open Go Go.Ev
set_option maxRecDepth 100000
set_option linter.unusedVariables false
set_option linter.constructorNameAsVariable false

theorem efC_at : ∀ {l : List Ef} {k : Nat} {e : Ef}, l[k]? = some e → ((efC l).drop (k * 5)).take 5 = e.cells
  | [], k, e, h => by simp at h
  | x :: l, 0, e, h => by
    simp at h; subst h
    simp [efC, Ef.cells]
  | x :: l, k + 1, e, h => by
    have := efC_at (l := l) (k := k) (e := e) (by simpa using h)
    rw [efC, List.drop_append, List.drop_of_length_le (by simp [Ef.cells]; omega), show (k + 1) * 5 - x.cells.length = k * 5 by simp [Ef.cells]; omega, List.nil_append]
    exact this

theorem leaves30 : leaves Try.prog 8 30 = some (2, [(0, .int .i64), (1, .string)]) := by kernel_rfl
theorem guard30 : Try.prog.eqGuardType Try.prog.depth 30 = false := by kernel_rfl
theorem aeqF (k : Int) (s : ByteArray) : (Asm.aeq .neq 30 #[.int .i64 k, .string s] #[.int .i64 k, .string s] false).holds Try.prog := by
  refine ⟨rfl, rfl, .inr ⟨rfl, ?_⟩⟩
  simp [aggEq, leaves30, guard30, eqOffs, leafEq]

section
variable {g g' : Hp} {ρ ρ' : Lay} {t t' : TS} {b o f1 f2 : Nat} {ops : List OpV} {first block : List Ft} {c : Nat}

end

end Go.Proofs.Ytahomnlkkafbjaa.tr

namespace Go.Proofs.Ytahomnlkkafbjaa.tr
open Go Go.Ev
set_option maxRecDepth 100000
set_option linter.unusedVariables false
set_option linter.constructorNameAsVariable false

section
variable {g g' : Hp} {ρ ρ' : Lay} {t t' : TS} {b o f1 f2 : Nat} {ops : List OpV} {first block : List Ft} {c : Nat}

theorem saidE_len (s : Nat) (z : Bool) : (saidE s z).length ≤ 1 := by cases z <;> simp [saidE]
theorem liveE_len (s : Nat) (fk : Int) (y : Sc) : (liveE s fk y).length ≤ 1 := by unfold liveE; split <;> simp
theorem told_len (t : TS) (x : OpV) : (t.told x).2.1.length ≤ 1000 := by
  have hf := fun (t : TS) s => fin_len t s
  have h1 : ∀ n fk ft, (t.end n fk ft).2.1.length ≤ 1000 := fun n fk ft => by
    unfold TS.end
    repeat' split
    all_goals first | exact Nat.zero_le _ | (show List.length (HAppend.hAppend (α := List Ef) (β := List Ef) (γ := List Ef) _ _) ≤ _; rw [List.length_append]; exact Nat.le_trans (Nat.add_le_add (saidE_len _ _) (hf _ _)) (by omega))
  have h2 : ∀ n fk ft, (t.leave n fk ft).2.1.length ≤ 1000 := fun n fk ft => by
    unfold TS.leave
    repeat' split
    all_goals first | exact Nat.zero_le _ | (show List.length (HAppend.hAppend (α := List Ef) (β := List Ef) (γ := List Ef) _ _) ≤ _; rw [List.length_append]; exact Nat.le_trans (Nat.add_le_add (liveE_len _ _ _) (hf _ _)) (by omega))
  have h3 : ∀ n fk ft, (t.fail n fk ft).2.1.length ≤ 1000 := fun n fk ft => by
    unfold TS.fail
    repeat' split
    all_goals simp
  rw [told_run'.2]
  unfold TS.run
  repeat' split
  all_goals first | exact h1 _ _ _ | exact h2 _ _ _ | exact h3 _ _ _ | simp

end

end Go.Proofs.Ytahomnlkkafbjaa.tr

namespace Go.Proofs.Ytahomnlkkafbjaa.tr
open Go Go.Ev
set_option maxRecDepth 100000
set_option linter.unusedVariables false
set_option linter.constructorNameAsVariable false

theorem TOk.told {t : TS} {c : Nat} {o : OpV} (ok : TOk c t) : TOk (c + 1) (t.told o).1 := by rw [told_run'.1]; exact ok.run

end Go.Proofs.Ytahomnlkkafbjaa.tr

namespace Go.Proofs.Ytahomnlkkafbjaa.tr
open Go Go.Ev
set_option maxRecDepth 100000
set_option linter.unusedVariables false
set_option linter.constructorNameAsVariable false

/-! ### What the laws are given -/


theorem chunks {α : Type} (f : α → List Value) {z : Nat} (hz : ∀ x, (f x).length = z) : ∀ (n : Nat) (c : List Value), c.length = n * z → (∀ k, k < n → ∃ x, (c.drop (k * z)).take z = f x) →
    ∃ l : List α, l.length = n ∧ c = l.flatMap f ∧ ∀ k x, l[k]? = some x → (c.drop (k * z)).take z = f x
  | 0, c, hl, _ => ⟨[], rfl, List.length_eq_zero_iff.1 (by simpa using hl), fun k x h => by simp at h⟩
  | n + 1, c, hl, hc => by
    have hs : (n + 1) * z = n * z + z := by rw [Nat.add_mul, Nat.one_mul]
    obtain ⟨x, hx⟩ := hc 0 (by omega)
    obtain ⟨l, h1, h2, h3⟩ := chunks f hz n (c.drop z) (by rw [List.length_drop, hl, hs]; omega) (fun k hk => by
      obtain ⟨y, hy⟩ := hc (k + 1) (by omega)
      refine ⟨y, ?_⟩
      rw [List.drop_drop, ← hy, Nat.add_mul, Nat.one_mul, Nat.add_comm])
    refine ⟨x :: l, by simp [h1], ?_, fun k y hy => ?_⟩
    · rw [List.flatMap_cons, ← h2, ← hx, Nat.zero_mul, List.drop_zero, List.take_append_drop]
    · cases k with
      | zero => simp at hy; subst hy; exact hx
      | succ k =>
        have := h3 k y (by simpa using hy)
        rw [List.drop_drop, Nat.add_comm z] at this
        rw [Nat.add_mul, Nat.one_mul]; exact this


theorem opC_flat : ∀ l : List OpV, l.flatMap OpV.cells = opC l
  | [] => rfl
  | x :: l => by rw [List.flatMap_cons, opC_flat l]; rfl

section
variable {h : Hp} {F : Nat}
theorem c3 : Try.prog.cellsOf 3 = 1 := by kernel_rfl
theorem c4 : Try.prog.cellsOf 4 = 1 := by kernel_rfl
theorem c9 : Try.prog.cellsOf 9 = 1 := by kernel_rfl
theorem c30 : Try.prog.cellsOf 30 = 2 := by kernel_rfl
theorem c32 : Try.prog.cellsOf 32 = 5 := by kernel_rfl
theorem u3 : Try.prog.underlying 3 = some (.int .i64) := by kernel_rfl
theorem u4 : Try.prog.underlying 4 = some .bool := by kernel_rfl
theorem u9 : Try.prog.underlying 9 = some .string := by kernel_rfl
theorem u22 : Try.prog.underlying 22 = some (.slice 32) := by kernel_rfl
theorem op_cells {cs : List Value} (hc : ATyped Try.prog h F 32 cs) : ∃ x : OpV, cs = x.cells := by
  obtain ⟨G, rfl, hl, hf⟩ := hc.asStruct Try.underlying32
  rw [c32] at hl
  match cs, hl with
  | [a, b, c, d, e], _ =>
    simp only [List.forall_mem_cons, c3, c4, c30] at hf
    obtain ⟨k, h1, _⟩ := hf.1.asInt u3
    obtain ⟨n, h2, _⟩ := hf.2.1.asInt u3
    obtain ⟨t, h3⟩ := hf.2.2.1.asBool u4
    obtain ⟨G, rfl, hl, hg⟩ := hf.2.2.2.1.asStruct Try.underlying30
    simp only [List.forall_mem_cons, c3, c9] at hg
    obtain ⟨f, h4, _⟩ := hg.1.asInt u3
    obtain ⟨s, h5, _⟩ := hg.2.1.asString u9
    simp at h1 h2 h3 h4 h5
    subst h1; subst h2; subst h3; subst h4; subst h5
    exact ⟨⟨k, n, t, f, s⟩, rfl⟩
theorem ops_arg {a : Value} (ht : ArgTyped Try.prog h F 22 a) : ∃ l : List OpV, OpsAt h a l := by
  obtain ⟨G, rfl, rfl | ⟨i, len, c, rfl, hi, hl, _, hk⟩⟩ := ht.asSlice u22
  · exact ⟨[], .inl ⟨rfl, rfl⟩⟩
  · rw [c32] at hl hk
    obtain ⟨l, h1, h2, _⟩ := chunks OpV.cells (z := 5) (fun _ => rfl) len c hl (fun k hlt => op_cells (hk k hlt))
    rw [opC_flat] at h2
    exact ⟨l, .inr ⟨i, false, by rw [c32, h1], by rw [← h2]; exact hi⟩⟩
end

end Go.Proofs.Ytahomnlkkafbjaa.tr

namespace Go.Proofs.Ytahomnlkkafbjaa.tr
open Go Go.Ev
set_option maxRecDepth 100000
set_option linter.unusedVariables false
set_option linter.constructorNameAsVariable false

/-! ### Objects that are being made -/

structure Ob (lo : Nat) (h : Hp) (σ : Lay) (C : Rl → List Value) : Prop where
  inj : ∀ r r' i, σ r = some i → σ r' = some i → r = r'
  obj : ∀ r i, σ r = some i → h[i]? = some (.cells (C r) true)
  lo : ∀ r i, σ r = some i → lo ≤ i

theorem Ob.lt {lo : Nat} {h : Hp} {σ : Lay} {C : Rl → List Value} (a : Ob lo h σ C) {r : Rl} {i : Nat} (e : σ r = some i) : i < h.length := get_lt (a.obj r i e)
theorem Ob.keep {lo : Nat} {h h' : Hp} {σ : Lay} {C : Rl → List Value} {fp : Nat → Prop} (a : Ob lo h σ C) (K : Keep fp h h') (hf : ∀ q, fp q → ¬ fpT σ q) : Ob lo h' σ C :=
  ⟨a.inj, fun r i e => K.2 _ _ (a.obj r i e) fun q => hf i q ⟨r, e⟩, a.lo⟩
theorem Ob.grow {lo : Nat} {h h' : Hp} {σ : Lay} {C : Rl → List Value} (a : Ob lo h σ C) (K : Keep (fun _ => False) h h') : Ob lo h' σ C := a.keep K fun _ e => e.elim
theorem Ob.upd {lo : Nat} {h h' : Hp} {σ σ' : Lay} {C C' : Rl → List Value} {fp : Nat → Prop} (a : Ob lo h σ C) (D : Rl → Prop) (K : Keep fp h h') (hfp : ∀ r q, σ r = some q → fp q → D r)
    (same : ∀ r, ¬ D r → σ' r = σ r ∧ (σ r ≠ none → C r = C' r))
    (new : ∀ r i, D r → σ' r = some i → h'[i]? = some (.cells (C' r) true) ∧ lo ≤ i ∧ ∀ r', σ' r' = some i → r' = r) : Ob lo h' σ' C' := by
  refine ⟨fun r r' i e e' => ?_, fun r i e => ?_, fun r i e => ?_⟩
  · by_cases d : D r
    · exact ((new r i d e).2.2 r' e').symm
    · by_cases d' : D r'
      · exact (new r' i d' e').2.2 r e
      · rw [(same r d).1] at e
        rw [(same r' d').1] at e'
        exact a.inj r r' i e e'
  · by_cases d : D r
    · exact (new r i d e).1
    · obtain ⟨s1, s2⟩ := same r d
      rw [s1] at e
      rw [← s2 (by rw [e]; simp)]
      exact K.2 _ _ (a.obj r i e) fun f => d (hfp r i e f)
  · by_cases d : D r
    · exact (new r i d e).2.1
    · rw [(same r d).1] at e
      exact a.lo r i e

theorem slv_ex (o : Option Nat) (n : Nat) (h : o = none → n = 0) : ∃ oa za, slv o n = .slice oa n za ∧ ∀ i, o = some i → oa = some ⟨i, 0, none⟩ ∧ za = 1 := by
  cases o with
  | none => rw [h rfl]; exact ⟨none, 0, rfl, fun i e => by cases e⟩
  | some i => exact ⟨_, 1, rfl, fun j e => by cases e; exact ⟨rfl, rfl⟩⟩
theorem slv_any (o : Option Nat) (n : Nat) : ∃ oa la za, slv o n = .slice oa la za := by cases o <;> exact ⟨_, _, _, rfl⟩
theorem inP_any (ρ : Lay) (v : Option Nat) : ∃ p, inP ρ v = .pointer p := by
  cases v with
  | none => exact ⟨_, rfl⟩
  | some s => simp only [inP]; cases ρ (.sc s) <;> exact ⟨_, rfl⟩
/-- What a copy that is being made holds: i tasks, j scopes, m tasks turned. -/
def cL (ρ σ : Lay) (t : TS) (i j m : Nat) : Rl → List Value
  | .root => [slv (σ .ts) i, slv (σ .ss) j]
  | .ts => (List.range i).map fun k => pvv (σ (.tk k))
  | .ss => (List.range j).map fun k => pvv (σ (.sc k))
  | .tk k => match t.tks[k]? with
    | some x => if k < m then tkC σ k x else tkC ρ k x
    | none => []
  | .op k => match t.tks[k]? with
    | some x => x.opn.map (inP σ)
    | none => []
  | .sc k => match t.scs[k]? with
    | some x => scC σ k x
    | none => []
  | .st k => match t.scs[k]? with
    | some x => x.tks.map fun j => pvv (σ (.tk j))
    | none => []

structure Dm (σ : Lay) (t : TS) (i j m : Nat) : Prop where
  tk : ∀ k, k < i → ∃ q, σ (.tk k) = some q
  sc : ∀ k, k < j → ∃ q, σ (.sc k) = some q
  ts : σ .ts = none → i = 0
  ss : σ .ss = none → j = 0
  op : ∀ (k : Nat) x, k < m → t.tks[k]? = some x → σ (.op k) = none → x.opn = []
  st : ∀ (k : Nat) x, k < j → t.scs[k]? = some x → σ (.st k) = none → x.tks = []
  otk : ∀ k, i ≤ k → σ (.tk k) = none
  oop : ∀ k, m ≤ k → σ (.op k) = none
  osc : ∀ k, j ≤ k → σ (.sc k) = none ∧ σ (.st k) = none

section
variable {h : Hp} {ρ : Lay} {t : TS} {c r b : Nat} {oa : Option Addr} {za : Nat}

theorem copy0 (a : TAt h ρ t) (ok : TOk c t) (hr : ρ .root = some r) (hts : ∀ i, ρ .ts = some i → oa = some ⟨i, 0, none⟩ ∧ za = 1) :
    ∀ (j i : Nat) (E : Env) (g : Hp) (σ : Lay), i + j = t.tks.length → EnvLe [(25, .int .i64 (i : Int)), (24, .int .i64 (Int.ofNat t.tks.length)), (23, .slice oa t.tks.length za), (3, ptr b), (0, ptr r)] E →
      Keep (fun _ => False) h g → Ob h.length g σ (cL ρ σ t i 0 0) → Dm σ t i 0 0 → σ .root = some b →
      ∃ E1 g' σ', EnvLe [(3, ptr b), (0, ptr r)] E1 ∧ LRun Try.prog 177 false (loopN Try.f20 0) E g (.exit 0) E1 g' ∧ Keep (fun _ => False) h g' ∧ Ob h.length g' σ' (cL ρ σ' t t.tks.length 0 0) ∧ Dm σ' t t.tks.length 0 0 ∧ σ' .root = some b := by
  intro j
  induction j with
  | zero =>
    intro i E g σ hi hE K O D hb
    have e : i = t.tks.length := by omega
    subst e
    obtain ⟨E2, q1, q2⟩ := pvC 0 hE (r27p.c0_out none none 0 0 0 false false 0 ⟨#[]⟩ r b 0 0 0 0 0 0 0 oa t.tks.length za 0 t.tks.length 0 [] [] [] [] g) ⟨ltF (by simp), trivial⟩
    exact ⟨E2, g, σ, .trans (.add (.add (.nil _) rfl) rfl) q1, .last q2 (by simp), K, O, D, hb⟩
  | succ j ih =>
    intro i E g σ hi hE K O D hb
    have n64 := ok.n64
    have il : i < t.tks.length := by omega
    obtain ⟨x, hx⟩ : ∃ x, t.tks[i]? = some x := ⟨_, List.getElem?_eq_getElem il⟩
    obtain ⟨xi, hxi⟩ := a.sh.tk i il
    obtain ⟨to, hto⟩ := a.sh.ts' il
    obtain ⟨rfl, rfl⟩ := hts to hto
    obtain ⟨pin, hpin⟩ := inP_any ρ x.inn
    obtain ⟨op, lp, zp, hop⟩ := slv_any (ρ (.op i)) x.opn.length
    have hC : tkC ρ i x = [.int .i64 ((i + 1 : Nat) : Int), .pointer pin, .slice op lp zp, .bool x.lv, .bool x.en, .int .i64 x.fk, .string x.ft] := by rw [tkC, hpin, hop]
    have bl := O.lt hb
    have blo := O.lo _ _ hb
    have Ki := K.1
    have ag := a.grow K
    have ob := O.obj _ _ hb
    have A1 : (Asm.cmp .lss (i : Int) (Int.ofNat t.tks.length) true).holds Try.prog := ltT (by simp; omega)
    have A2 : (Asm.off i 0 (i : Int) t.tks.length 1).holds Try.prog := offI (q := i) rfl il (by omega)
    have A3 : (Asm.ld1 (.is g) to i (ptr xi)).holds Try.prog := by
      have := ag.ld1 (P := Try.prog) (s := .is g) rfl hto (cont_ts il)
      rwa [hxi] at this
    have A4 : (Asm.ldn (.is g) xi 0 7 (tkC ρ i x)).holds Try.prog := ag.ldn rfl hxi (by rw [cont_tk hx]; simp [tkC]) (by rw [cont_tk hx]; rfl)
    have A9 : (Asm.arith .add .i64 (i : Int) 1 ((i + 1 : Nat) : Int)).holds Try.prog := addI rfl (by omega) (by omega)
    rw [hC] at A4
    cases ht : σ .ts with
    | none =>
      have i0 := D.ts ht
      subst i0
      have hd := ob
      rw [show cL ρ σ t 0 0 0 .root = [.slice none 0 0, slv (σ .ss) 0] by simp only [cL, ht, slv]] at hd
      obtain ⟨g', hg'⟩ : ∃ g', g' = ((((g ++ [AObj.cells [.int .i64 0, .pointer none, .slice none 0 0, .bool false, .bool false, .int .i64 0, .string ⟨#[]⟩] true]).set g.length (.cells (tkC ρ 0 x) true)) ++ [AObj.cells [ptr g.length] true]) ++ [AObj.cells [ptr g.length] true]).set b (.cells [.slice (some ⟨g.length + 2, 0, none⟩) 1 1, slv (σ .ss) 0] true) := ⟨_, rfl⟩
      have Kg : Keep (fun q => q = b) g g' := by
        rw [hg']
        exact (((((Keep.refl (fun _ => False) g).pushN _).setN (Nat.le_refl _) _).pushN _).pushN _ |>.mono fun _ _ e => e.elim).trans (Keep.set (fp := fun q => q = b) rfl _)
      obtain ⟨E2, q1, q2⟩ := pvC 0 hE (r27p.c0_gon pin op lp zp ((0 + 1 : Nat) : Int) x.lv x.en x.fk x.ft r b to 0 xi g.length (g.length + 1) (g.length + 2) 0 none t.tks.length 1 0 (0 : Nat) ((0 + 1 : Nat) : Int) (tkC ρ 0 x) [ptr g.length] [] [.slice (some ⟨g.length + 2, 0, none⟩) 1 1, slv (σ .ss) 0] g)
        ⟨A1, A2, A3, A4, rfl, a_st (get_new _ _) (by simp) (by rw [hC]; rfl), a_ld1 (get_set_ne (get_push hd) (by omega)) rfl, by simp [Asm.holds, SH.den], a_appGN rfl rfl (by omega) (get_new' _ (by simp [SH.den])) (by simp [SH.den]), a_st (get_push (get_push (get_set_ne (get_push hd) (by omega)))) (by simp) rfl, A9, trivial⟩
      obtain ⟨σ', hσ⟩ : ∃ σ', σ' = put2 σ .ts (g.length + 2) (.tk 0) g.length := ⟨_, rfl⟩
      have s1 : σ' .ts = some (g.length + 2) := by rw [hσ]; exact put2_1
      have s2 : σ' (.tk 0) = some g.length := by rw [hσ]; exact put2_2 (by simp)
      have so : ∀ r, r ≠ .ts → r ≠ .tk 0 → σ' r = σ r := fun r h1 h2 => by rw [hσ]; exact put2_o h1 h2
      have sb : σ' .root = some b := by rw [so _ (by simp) (by simp)]; exact hb
      have inv : ∀ r q, σ' r = some q → r ≠ .ts → r ≠ .tk 0 → q < g.length := fun r q e h1 h2 => by rw [so r h1 h2] at e; exact O.lt e
      have O' : Ob h.length g' σ' (cL ρ σ' t (0 + 1) 0 0) := by
        refine O.upd (fun r => r = .root ∨ r = .ts ∨ r = .tk 0) Kg (fun r q e f => by subst f; exact .inl (O.inj _ _ _ e hb)) (fun r d => ?_) (fun r q d e => ?_)
        · have d1 : r ≠ .root := fun e => d (.inl e)
          have d2 : r ≠ .ts := fun e => d (.inr (.inl e))
          have d3 : r ≠ .tk 0 := fun e => d (.inr (.inr e))
          refine ⟨so r d2 d3, fun hn => ?_⟩
          cases r with
          | root => exact absurd rfl d1
          | ts => exact absurd rfl d2
          | ss => rfl
          | tk k => simp [cL]
          | op k => exact absurd (D.oop k (Nat.zero_le _)) hn
          | sc k => exact absurd (D.osc k (Nat.zero_le _)).1 hn
          | st k => exact absurd (D.osc k (Nat.zero_le _)).2 hn
        · rcases d with rfl | rfl | rfl
          · rw [sb] at e; cases e
            refine ⟨?_, blo, fun r' e' => ?_⟩
            · rw [show cL ρ σ' t (0 + 1) 0 0 .root = [.slice (some ⟨g.length + 2, 0, none⟩) 1 1, slv (σ .ss) 0] by simp only [cL, s1, so .ss (by simp) (by simp), slv]]
              rw [hg']
              exact get_set_eq (get_push (get_push (get_set_ne (get_push hd) (by omega))))
            · by_cases r1 : r' = .ts
              · subst r1; rw [s1] at e'; cases e'; omega
              · by_cases r2 : r' = .tk 0
                · subst r2; rw [s2] at e'; cases e'; omega
                · rw [so r' r1 r2] at e'; exact O.inj _ _ _ e' hb
          · rw [s1] at e; cases e
            refine ⟨?_, by omega, fun r' e' => ?_⟩
            · rw [show cL ρ σ' t (0 + 1) 0 0 .ts = [ptr g.length] by simp [cL, s2, pvv]]
              rw [hg']
              exact get_set_ne (get_new' _ (by simp)) (by omega)
            · by_cases r1 : r' = .ts
              · exact r1
              · by_cases r2 : r' = .tk 0
                · subst r2; rw [s2] at e'; simp at e'
                · have := inv r' _ e' r1 r2; omega
          · rw [s2] at e; cases e
            refine ⟨?_, by omega, fun r' e' => ?_⟩
            · rw [show cL ρ σ' t (0 + 1) 0 0 (.tk 0) = tkC ρ 0 x by simp [cL, hx]]
              rw [hg']
              exact get_set_ne (get_push (get_push (get_set_eq (get_new _ _)))) (by omega)
            · by_cases r1 : r' = .ts
              · subst r1; rw [s1] at e'; simp at e'
              · by_cases r2 : r' = .tk 0
                · exact r2
                · have := inv r' _ e' r1 r2; omega
      have D' : Dm σ' t (0 + 1) 0 0 := by
        refine ⟨fun k hk => ?_, fun k hk => absurd hk (Nat.not_lt_zero _), fun e => (by rw [s1] at e; cases e), fun e => rfl, fun k x hk => absurd hk (Nat.not_lt_zero _), fun k x hk => absurd hk (Nat.not_lt_zero _), fun k hk => ?_, fun k hk => ?_, fun k hk => ?_⟩
        · have : k = 0 := by omega
          subst this; exact ⟨_, s2⟩
        · rw [so _ (by simp) (by intro e; cases e; omega)]; exact D.otk k (by omega)
        · rw [so _ (by simp) (by simp)]; exact D.oop k hk
        · rw [so _ (by simp) (by simp), so _ (by simp) (by simp)]; exact D.osc k hk
      obtain ⟨E3, g3, σ3, w1, w2, w3, w4, w5, w6⟩ := ih (0 + 1) E2 g' σ' (by omega) (.trans (.add (.add (.add (.add (.add (.nil _) rfl) rfl) rfl) rfl) rfl) q1) (K.trans_new Kg fun q hq e => by omega) O' D' sb
      refine ⟨E3, g3, σ3, w1, .step q2 ?_, w3, w4, w5, w6⟩
      rw [hg'] at w2
      exact w2
    | some to' =>
      have tl := O.lt ht
      have tlo := O.lo _ _ ht
      have ot := O.obj _ _ ht
      have ntb : to' ≠ b := fun e => by subst e; cases O.inj _ _ _ ht hb
      obtain ⟨cs, hcs⟩ : ∃ cs, cs = (List.range i).map fun k => pvv (σ (.tk k)) := ⟨_, rfl⟩
      have csl : cs.length = i * 1 := by rw [hcs]; simp
      rw [show cL ρ σ t i 0 0 .ts = cs by rw [hcs]; rfl] at ot
      have hd := ob
      rw [show cL ρ σ t i 0 0 .root = [.slice (some ⟨to', 0, none⟩) i 1, slv (σ .ss) 0] by simp only [cL, ht, slv]] at hd
      obtain ⟨g', hg'⟩ : ∃ g', g' = ((((g ++ [AObj.cells [.int .i64 0, .pointer none, .slice none 0 0, .bool false, .bool false, .int .i64 0, .string ⟨#[]⟩] true]).set g.length (.cells (tkC ρ i x) true)) ++ [AObj.cells [ptr g.length] true]).set to' .dead ++ [AObj.cells (cs ++ [ptr g.length]) true]).set b (.cells [.slice (some ⟨g.length + 2, 0, none⟩) (i + 1) 1, slv (σ .ss) 0] true) := ⟨_, rfl⟩
      have Kg : Keep (fun q => q = b ∨ q = to') g g' := by
        rw [hg']
        exact ((((((Keep.refl (fun _ => False) g).pushN _).setN (Nat.le_refl _) _).pushN _ |>.mono fun _ _ e => e.elim).trans (Keep.set (fp := fun q => q = b ∨ q = to') (.inr rfl) _)).trans (Keep.push _ _ _)).trans (Keep.set (.inl rfl) _)
      obtain ⟨E2, q1, q2⟩ := pvC 0 hE (r27p.c0_gos pin op lp zp ((i + 1 : Nat) : Int) x.lv x.en x.fk x.ft r b to i xi g.length (g.length + 1) (g.length + 2) to' none t.tks.length 1 i i ((i + 1 : Nat) : Int) (tkC ρ i x) [ptr g.length] (cs ++ [ptr g.length]) [.slice (some ⟨g.length + 2, 0, none⟩) (i + 1) 1, slv (σ .ss) 0] g)
        ⟨A1, A2, A3, A4, rfl, a_st (get_new _ _) (by simp) (by rw [hC]; rfl), a_ld1 (get_set_ne (get_push hd) (by omega)) rfl, by simp [Asm.holds, SH.den], a_appGS rfl rfl (by omega) (by omega) csl (get_push (get_set_ne (get_push ot) (by omega))) (get_new' _ (by simp [SH.den])) (by simp [SH.den]), a_st (get_push (get_set_ne (get_push (get_set_ne (get_push hd) (by omega))) ntb)) (by simp) rfl, A9, trivial⟩
      obtain ⟨σ', hσ⟩ : ∃ σ', σ' = put2 σ .ts (g.length + 2) (.tk i) g.length := ⟨_, rfl⟩
      have s1 : σ' .ts = some (g.length + 2) := by rw [hσ]; exact put2_1
      have s2 : σ' (.tk i) = some g.length := by rw [hσ]; exact put2_2 (by simp)
      have so : ∀ r, r ≠ .ts → r ≠ .tk i → σ' r = σ r := fun r h1 h2 => by rw [hσ]; exact put2_o h1 h2
      have sb : σ' .root = some b := by rw [so _ (by simp) (by simp)]; exact hb
      have inv : ∀ r q, σ' r = some q → r ≠ .ts → r ≠ .tk i → q < g.length := fun r q e h1 h2 => by rw [so r h1 h2] at e; exact O.lt e
      have O' : Ob h.length g' σ' (cL ρ σ' t (i + 1) 0 0) := by
        refine O.upd (fun r => r = .root ∨ r = .ts ∨ r = .tk i) Kg (fun r q e f => by
          rcases f with rfl | rfl
          · exact .inl (O.inj _ _ _ e hb)
          · exact .inr (.inl (O.inj _ _ _ e ht))) (fun r d => ?_) (fun r q d e => ?_)
        · have d1 : r ≠ .root := fun e => d (.inl e)
          have d2 : r ≠ .ts := fun e => d (.inr (.inl e))
          have d3 : r ≠ .tk i := fun e => d (.inr (.inr e))
          refine ⟨so r d2 d3, fun hn => ?_⟩
          cases r with
          | root => exact absurd rfl d1
          | ts => exact absurd rfl d2
          | ss => rfl
          | tk k => simp [cL]
          | op k => exact absurd (D.oop k (Nat.zero_le _)) hn
          | sc k => exact absurd (D.osc k (Nat.zero_le _)).1 hn
          | st k => exact absurd (D.osc k (Nat.zero_le _)).2 hn
        · rcases d with rfl | rfl | rfl
          · rw [sb] at e; cases e
            refine ⟨?_, blo, fun r' e' => ?_⟩
            · rw [show cL ρ σ' t (i + 1) 0 0 .root = [.slice (some ⟨g.length + 2, 0, none⟩) (i + 1) 1, slv (σ .ss) 0] by simp only [cL, s1, so .ss (by simp) (by simp), slv]]
              rw [hg']
              exact get_set_eq (get_push (get_set_ne (get_push (get_set_ne (get_push hd) (by omega))) ntb))
            · by_cases r1 : r' = .ts
              · subst r1; rw [s1] at e'; cases e'; omega
              · by_cases r2 : r' = .tk i
                · subst r2; rw [s2] at e'; cases e'; omega
                · rw [so r' r1 r2] at e'; exact O.inj _ _ _ e' hb
          · rw [s1] at e; cases e
            refine ⟨?_, by omega, fun r' e' => ?_⟩
            · rw [show cL ρ σ' t (i + 1) 0 0 .ts = cs ++ [ptr g.length] by
                simp only [cL, List.range_succ, List.map_append, List.map_cons, List.map_nil, s2, pvv]
                rw [hcs]
                congr 1
                refine List.map_congr_left fun k hk => ?_
                rw [List.mem_range] at hk
                rw [so (.tk k) (by simp) (by intro e; cases e; omega)]
                rfl]
              rw [hg']
              exact get_set_ne (get_new' _ (by simp)) (by omega)
            · by_cases r1 : r' = .ts
              · exact r1
              · by_cases r2 : r' = .tk i
                · subst r2; rw [s2] at e'; simp at e'
                · have := inv r' _ e' r1 r2; omega
          · rw [s2] at e; cases e
            refine ⟨?_, by omega, fun r' e' => ?_⟩
            · rw [show cL ρ σ' t (i + 1) 0 0 (.tk i) = tkC ρ i x by simp [cL, hx]]
              rw [hg']
              exact get_set_ne (get_push (get_set_ne (get_push (get_set_eq (get_new _ _))) (by omega))) (by omega)
            · by_cases r1 : r' = .ts
              · subst r1; rw [s1] at e'; simp at e'
              · by_cases r2 : r' = .tk i
                · exact r2
                · have := inv r' _ e' r1 r2; omega
      have D' : Dm σ' t (i + 1) 0 0 := by
        refine ⟨fun k hk => ?_, fun k hk => absurd hk (Nat.not_lt_zero _), fun e => (by rw [s1] at e; cases e), fun e => rfl, fun k x hk => absurd hk (Nat.not_lt_zero _), fun k x hk => absurd hk (Nat.not_lt_zero _), fun k hk => ?_, fun k hk => ?_, fun k hk => ?_⟩
        · by_cases e : k = i
          · subst e; exact ⟨_, s2⟩
          · rw [so _ (by simp) (by intro e'; cases e'; exact e rfl)]; exact D.tk k (by omega)
        · rw [so _ (by simp) (by intro e; cases e; omega)]; exact D.otk k (by omega)
        · rw [so _ (by simp) (by simp)]; exact D.oop k hk
        · rw [so _ (by simp) (by simp), so _ (by simp) (by simp)]; exact D.osc k hk
      obtain ⟨E3, g3, σ3, w1, w2, w3, w4, w5, w6⟩ := ih (i + 1) E2 g' σ' (by omega) (.trans (.add (.add (.add (.add (.add (.nil _) rfl) rfl) rfl) rfl) rfl) q1) (K.trans_new Kg fun q hq e => by omega) O' D' sb
      refine ⟨E3, g3, σ3, w1, .step q2 ?_, w3, w4, w5, w6⟩
      rw [hg'] at w2
      exact w2
end

end Go.Proofs.Ytahomnlkkafbjaa.tr

namespace Go.Proofs.Ytahomnlkkafbjaa.tr
open Go Go.Ev
set_option maxRecDepth 100000
set_option linter.unusedVariables false
set_option linter.constructorNameAsVariable false

theorem stat20 (k : Nat) (hk : k = 0 ∨ k = 1 ∨ k = 2 ∨ k = 3) : (Asm.stat (drawN Try.f20 k)).holds Try.prog := by
  rcases hk with rfl | rfl | rfl | rfl
  · exact show statOk (drawN Try.f20 0) = true by kernel_rfl
  · exact show statOk (drawN Try.f20 1) = true by kernel_rfl
  · exact show statOk (drawN Try.f20 2) = true by kernel_rfl
  · exact show statOk (drawN Try.f20 3) = true by kernel_rfl

section
variable {h : Hp} {ρ : Lay} {t : TS} {c r b : Nat} {oa : Option Addr} {za : Nat}

/-- A scope's tasks, as the copy names them. -/
def cpS (σ : Lay) (l : List Nat) : List Value := l.map fun w => pvv (σ (.tk w))

theorem copy2 (a : TAt h ρ t) (ok : TOk c t) (hc : c ≤ 100000) {jj d : Nat} {y : Sc} {g0 : Hp} {σ : Lay} {u47 u46 u45 e0 e1 e2 e3 e5 e6 e7 : Value} (hy : t.scs[jj]? = some y) (hst : ∀ i, ρ (.st jj) = some i → oa = some ⟨i, 0, none⟩ ∧ za = 1) (hst0 : ρ (.st jj) = none → y.tks.length = 0)
    (O : Ob h.length g0 σ (cL ρ σ t t.tks.length jj 0)) (D : Dm σ t t.tks.length jj 0) (hb : σ .root = some b) (K0 : Keep (fun _ => False) h g0) (hd : d = g0.length) :
    ∀ (j i : Nat) (E : Env) (g : Hp) (v : Value), i + j = y.tks.length → EnvLe [(75, .int .i64 (i : Int)), (74, .int .i64 (Int.ofNat y.tks.length)), (73, .slice oa y.tks.length za), (9, ptr d), (47, u47), (46, u46), (45, u45), (3, ptr b), (0, ptr r)] E →
      Keep (fun _ => False) g0 g → g[d]? = some (.cells [e0, e1, e2, e3, v, e5, e6, e7] true) → SlV g (d + 1) v i 1 (cpS σ (y.tks.take i)) →
      ∃ E1 g' v', EnvLe [(9, ptr d), (47, u47), (46, u46), (45, u45), (3, ptr b), (0, ptr r)] E1 ∧ LRun Try.prog 177 false (loopN Try.f20 2) E g (.exit 4) E1 g' ∧ Keep (fun _ => False) g0 g' ∧ g'[d]? = some (.cells [e0, e1, e2, e3, v', e5, e6, e7] true) ∧ SlV g' (d + 1) v' y.tks.length 1 (cpS σ y.tks) := by
  intro j
  induction j with
  | zero =>
    intro i E g v hi hE K hgd hv
    have e : i = y.tks.length := by omega
    subst e
    rw [List.take_length] at hv
    obtain ⟨E2, q1, q2⟩ := pvC 0 hE (r27p.c2_out r b 0 0 d 0 0 0 0 0 0 0 0 oa y.tks.length za 0 y.tks.length 0 0 0 u47 u46 u45 [] [] [] g) ⟨ltF (by simp), trivial⟩
    exact ⟨E2, g, v, .trans (.add (.add (.add (.add (.add (.add (.nil _) rfl) rfl) rfl) rfl) rfl) rfl) q1, .last q2 (by simp), K, hgd, hv⟩
  | succ j ih =>
    intro i E g v hi hE K hgd hv
    have n64 := ok.n64
    obtain ⟨w, hw⟩ : ∃ w, y.tks[i]? = some w := ⟨_, List.getElem?_eq_getElem (by omega)⟩
    have hml := ok.mlen jj y hy
    have hwl := ok.mem jj y w hy (List.mem_of_getElem? hw)
    obtain ⟨x, hx⟩ : ∃ x, t.tks[w]? = some x := ⟨_, List.getElem?_eq_getElem hwl⟩
    obtain ⟨wi, hwi⟩ := a.sh.tk w hwl
    obtain ⟨ci, hci⟩ := D.tk w hwl
    cases hs : ρ (.st jj) with
    | none => have := hst0 hs; omega
    | some so =>
    obtain ⟨rfl, rfl⟩ := hst so hs
    cases hts : σ .ts with
    | none => have := D.ts hts; omega
    | some to =>
    have ag := a.grow (K0.trans K)
    have Og := O.grow K
    have ob := Og.obj _ _ hb
    rw [show cL ρ σ t t.tks.length jj 0 .root = [.slice (some ⟨to, 0, none⟩) t.tks.length 1, slv (σ .ss) jj] by simp only [cL, hts, slv]] at ob
    have ot := Og.obj _ _ hts
    have K0l := K0.1
    have Kl := K.1
    have dl := get_lt hgd
    have ctl : (cL ρ σ t t.tks.length jj 0 .ts)[w]? = some (ptr ci) := by simp [cL, hwl, hci, pvv]
    have A1 : (Asm.cmp .lss (i : Int) (Int.ofNat y.tks.length) true).holds Try.prog := ltT (by simp; omega)
    have A2 : (Asm.off i 0 (i : Int) y.tks.length 1).holds Try.prog := offI (q := i) rfl (by omega) (by omega)
    have A3 : (Asm.ld1 (.is g) so i (ptr wi)).holds Try.prog := by
      have := ag.ld1 (P := Try.prog) (s := .is g) rfl hs (d := i) (v := pvv (ρ (.tk w))) (by rw [cont_st hy, List.getElem?_map, hw]; rfl)
      rwa [hwi] at this
    have A5 : (Asm.ld1 (.is g) d 4 v).holds Try.prog := a_ld1 hgd rfl
    have A6 : (Asm.ld1 (.is g) b 0 (.slice (some ⟨to, 0, none⟩) t.tks.length 1)).holds Try.prog := a_ld1 ob rfl
    have A7 : (Asm.ld1 (.is g) wi 0 (.int .i64 ((w + 1 : Nat) : Int))).holds Try.prog := ag.ld1 rfl hwi (by rw [cont_tk hx]; rfl)
    have A8 : (Asm.arith .sub .i64 ((w + 1 : Nat) : Int) 1 (w : Int)).holds Try.prog := subI (by omega) (by omega) (by omega)
    have A9 : (Asm.off w 0 (w : Int) t.tks.length 1).holds Try.prog := offI (q := w) rfl hwl (by omega)
    have A10 : (Asm.ld1 (.is g) to w (ptr ci)).holds Try.prog := a_ld1 ot ctl
    have A11 : (Asm.arith .add .i64 (i : Int) 1 ((i + 1 : Nat) : Int)).holds Try.prog := addI rfl (by omega) (by omega)
    rcases hv with ⟨e0', e1', rfl⟩ | ⟨hn, hl, o, rfl, hob, hol⟩
    · subst e0'
      obtain ⟨E2, q1, q2⟩ := pvC 0 hE (r27p.c2_gon r b so 0 d g.length (g.length + 1) 0 wi ci w to t.tks.length none y.tks.length 1 0 (0 : Nat) ((0 + 1 : Nat) : Int) ((w + 1 : Nat) : Int) w u47 u46 u45 [ptr ci] [] [e0, e1, e2, e3, .slice (some ⟨g.length + 1, 0, none⟩) 1 1, e5, e6, e7] g)
        ⟨A1, A2, A3, stat20 1 (by simp), A5, A6, A7, A8, A9, A10, rfl, a_appGN rfl rfl (by omega) (get_new _ _) (push_len _ _), a_st (get_push (get_push hgd)) (by simp) rfl, A11, trivial⟩
      obtain ⟨E3, g5, v', s1, s2, s3⟩ := ih 1 E2 ((g ++ [AObj.cells [ptr ci] true] ++ [AObj.cells [ptr ci] true]).set d (AObj.cells [e0, e1, e2, e3, .slice (some ⟨g.length + 1, 0, none⟩) 1 1, e5, e6, e7] true)) (.slice (some ⟨g.length + 1, 0, none⟩) 1 1) (by omega)
        (.trans (.add (.add (.add (.add (.add (.add (.add (.add (.add (.nil _) rfl) rfl) rfl) rfl) rfl) rfl) rfl) rfl) rfl) q1) (((K.pushN _).pushN _).setN (by omega) _) (get_set_eq (get_push (get_push hgd)))
        (.inr ⟨by omega, by rw [take_one hw]; simp [cpS], g.length + 1, rfl, by rw [take_one hw]; refine get_set_ne ?_ (by omega); rw [show cpS σ (y.tks.take 0 ++ [w]) = [ptr ci] by simp [cpS, hci, pvv]]; exact get_new' _ (push_len _ _), by omega⟩)
      exact ⟨E3, g5, v', s1, .step q2 s2, s3⟩
    · have hol2 := get_lt hob
      obtain ⟨E2, q1, q2⟩ := pvC 0 hE (r27p.c2_gos r b so i d g.length (g.length + 1) o wi ci w to t.tks.length none y.tks.length 1 i i ((i + 1 : Nat) : Int) ((w + 1 : Nat) : Int) w u47 u46 u45 [ptr ci] (cpS σ (y.tks.take i) ++ [ptr ci]) [e0, e1, e2, e3, .slice (some ⟨g.length + 1, 0, none⟩) (i + 1) 1, e5, e6, e7] g)
        ⟨A1, A2, A3, stat20 1 (by simp), A5, A6, A7, A8, A9, A10, rfl, a_appGS (b := 8) (z := 1) rfl rfl (by omega) (by omega) hl (get_push hob) (get_new _ _) (push_len _ _), a_st (get_push (get_set_ne (get_push hgd) (by omega))) (by simp) rfl, A11, trivial⟩
      obtain ⟨E3, g5, v', s1, s2, s3⟩ := ih (i + 1) E2 (((g ++ [AObj.cells [ptr ci] true]).set o .dead ++ [AObj.cells (cpS σ (y.tks.take i) ++ [ptr ci]) true]).set d (AObj.cells [e0, e1, e2, e3, .slice (some ⟨g.length + 1, 0, none⟩) (i + 1) 1, e5, e6, e7] true)) (.slice (some ⟨g.length + 1, 0, none⟩) (i + 1) 1) (by omega)
        (.trans (.add (.add (.add (.add (.add (.add (.add (.add (.add (.nil _) rfl) rfl) rfl) rfl) rfl) rfl) rfl) rfl) rfl) q1) ((((K.pushN _).setN (by omega) _).pushN _).setN (by omega) _) (get_set_eq (get_push (get_set_ne (get_push hgd) (by omega))))
        (.inr ⟨by omega, by rw [take_one hw]; simp [cpS]; omega, g.length + 1, rfl, by
          rw [take_one hw]
          refine get_set_ne ?_ (by omega)
          rw [show cpS σ (y.tks.take i ++ [w]) = cpS σ (y.tks.take i) ++ [ptr ci] by simp [cpS, hci, pvv]]
          exact get_new' _ (by simp), by omega⟩)
      exact ⟨E3, g5, v', s1, .step q2 s2, s3⟩

theorem copy1 (a : TAt h ρ t) (ok : TOk c t) (hc : c ≤ 100000) (hr : ρ .root = some r) (hss : ∀ i, ρ .ss = some i → oa = some ⟨i, 0, none⟩ ∧ za = 1) :
    ∀ (j i : Nat) (E : Env) (g : Hp) (σ : Lay), i + j = t.scs.length → EnvLe [(47, .int .i64 (i : Int)), (46, .int .i64 (Int.ofNat t.scs.length)), (45, .slice oa t.scs.length za), (3, ptr b), (0, ptr r)] E →
      Keep (fun _ => False) h g → Ob h.length g σ (cL ρ σ t t.tks.length i 0) → Dm σ t t.tks.length i 0 → σ .root = some b →
      ∃ E1 g' σ', EnvLe [(3, ptr b), (0, ptr r)] E1 ∧ LRun Try.prog 177 false (loopN Try.f20 1) E g (.exit 2) E1 g' ∧ Keep (fun _ => False) h g' ∧ Ob h.length g' σ' (cL ρ σ' t t.tks.length t.scs.length 0) ∧ Dm σ' t t.tks.length t.scs.length 0 ∧ σ' .root = some b := by
  intro j
  induction j with
  | zero =>
    intro i E g σ hi hE K O D hb
    have e : i = t.scs.length := by omega
    subst e
    obtain ⟨E2, q1, q2⟩ := pvC 0 hE (r27p.c1_out none none 0 0 0 false false 0 ⟨#[]⟩ r b 0 0 0 0 0 0 0 0 0 0 0 0 oa none t.scs.length za 0 0 0 t.scs.length 0 0 0 0 [] [] [] [] [] [] g g) ⟨ltF (by simp), trivial⟩
    exact ⟨E2, g, σ, .trans (.add (.add (.nil _) rfl) rfl) q1, .last q2 (by simp), K, O, D, hb⟩
  | succ j ih =>
    intro i E g σ hi hE K O D hb
    have n64 := ok.n64
    have n200 := ok.n200
    have il : i < t.scs.length := by omega
    obtain ⟨y, hy⟩ : ∃ y, t.scs[i]? = some y := ⟨_, List.getElem?_eq_getElem il⟩
    obtain ⟨xi, hxi⟩ := a.sh.sc i il
    obtain ⟨to, hto⟩ := a.sh.ss' il
    obtain ⟨rfl, rfl⟩ := hss to hto
    have how := ok.ow i y hy
    obtain ⟨oi, hoi⟩ := a.sh.tk _ how
    obtain ⟨ox, hox⟩ : ∃ x, t.tks[y.ow]? = some x := ⟨_, List.getElem?_eq_getElem how⟩
    obtain ⟨ci, hci⟩ := D.tk _ how
    cases hts : σ .ts with
    | none => have := D.ts hts; omega
    | some nt =>
    obtain ⟨ob, zb, hst, hst2⟩ := slv_ex (ρ (.st i)) y.tks.length (fun e => by rw [a.sh.st i y hy e]; rfl)
    have hC : scC ρ i y = [.int .i64 ((i + 1 : Nat) : Int), ptr oi, .bool y.su, .bool y.ov, .slice ob y.tks.length zb, .int .i64 y.live, .int .i64 y.fk, .string y.ft] := by rw [scC, hoi, hst]; rfl
    have bl := O.lt hb
    have blo := O.lo _ _ hb
    have Ki := K.1
    have ag := a.grow K
    have obj := O.obj _ _ hb
    have ot := O.obj _ _ hts
    rw [show cL ρ σ t t.tks.length i 0 .root = [.slice (some ⟨nt, 0, none⟩) t.tks.length 1, slv (σ .ss) i] by simp only [cL, hts, slv]] at obj
    have ctl : (cL ρ σ t t.tks.length i 0 .ts)[y.ow]? = some (ptr ci) := by simp [cL, how, hci, pvv]
    have A1 : (Asm.cmp .lss (i : Int) (Int.ofNat t.scs.length) true).holds Try.prog := ltT (by simp; omega)
    have A2 : (Asm.off i 0 (i : Int) t.scs.length 1).holds Try.prog := offI (q := i) rfl il (by omega)
    have A3 : (Asm.ld1 (.is g) to i (ptr xi)).holds Try.prog := by
      have := ag.ld1 (P := Try.prog) (s := .is g) rfl hto (cont_ss il)
      rwa [hxi] at this
    have A4 : (Asm.ldn (.is g) xi 0 8 (scC ρ i y)).holds Try.prog := ag.ldn rfl hxi (by rw [cont_sc hy]; simp [scC]) (by rw [cont_sc hy]; rfl)
    rw [hC] at A4
    obtain ⟨c80, hc80⟩ : ∃ c80 : List Value, c80 = [.int .i64 0, .pointer none, .bool false, .bool false, .slice none 0 0, .int .i64 0, .int .i64 0, .string ⟨#[]⟩] := ⟨_, rfl⟩
    obtain ⟨c81, hc81⟩ : ∃ c81 : List Value, c81 = [.int .i64 ((i + 1 : Nat) : Int), ptr ci, .bool y.su, .bool y.ov, .slice ob y.tks.length zb, .int .i64 y.live, .int .i64 y.fk, .string y.ft] := ⟨_, rfl⟩
    obtain ⟨c82, hc82⟩ : ∃ c82 : List Value, c82 = [.int .i64 ((i + 1 : Nat) : Int), ptr ci, .bool y.su, .bool y.ov, .slice none 0 0, .int .i64 y.live, .int .i64 y.fk, .string y.ft] := ⟨_, rfl⟩
    have K1 : Keep (fun _ => False) g ((g ++ [AObj.cells c80 true]).set g.length (.cells (scC ρ i y) true)) := ((Keep.refl (fun _ => False) g).pushN _).setN (Nat.le_refl _) _
    have d1 : ((g ++ [AObj.cells c80 true]).set g.length (.cells (scC ρ i y) true))[g.length]? = some (.cells (scC ρ i y) true) := get_set_eq (get_new _ _)
    have K2 := K1.setN (Nat.le_refl _) (.cells c81 true)
    have d2 := get_set_eq (x := AObj.cells c81 true) d1
    have K3 := K2.setN (Nat.le_refl _) (.cells c82 true)
    have d3 := get_set_eq (x := AObj.cells c82 true) d2
    obtain ⟨g3, hg3⟩ : ∃ g3, g3 = (((g ++ [AObj.cells c80 true]).set g.length (.cells (scC ρ i y) true)).set g.length (.cells c81 true)).set g.length (.cells c82 true) := ⟨_, rfl⟩
    rw [← hg3] at K3 d3
    obtain ⟨F1, g4, v, l1, l2, l3, l4, l5⟩ := copy2 (r := r) (oa := ob) (za := zb) (b := b) a ok hc (u47 := .int .i64 i) (u46 := .int .i64 (Int.ofNat t.scs.length)) (u45 := .slice (some ⟨to, 0, none⟩) t.scs.length 1) hy hst2 (fun e => by rw [a.sh.st i y hy e]; rfl) O D hb K rfl y.tks.length 0
      [(75, .int .i64 (0 : Nat)), (74, .int .i64 (Int.ofNat y.tks.length)), (73, .slice ob y.tks.length zb), (9, ptr g.length), (47, .int .i64 i), (46, .int .i64 (Int.ofNat t.scs.length)), (45, .slice (some ⟨to, 0, none⟩) t.scs.length 1), (3, ptr b), (0, ptr r)] g3 (.slice none 0 0) (by omega) (EnvLe.refl _) K3 (by rw [d3, hc82]) (.inl ⟨rfl, rfl, rfl⟩)
    have B1 : (Asm.ld1 (.set (.push (.is g) (.cells c80 true)) g.length (.cells (scC ρ i y) true)) b 0 (.slice (some ⟨nt, 0, none⟩) t.tks.length 1)).holds Try.prog := a_ld1 (K1.2 _ _ obj id) rfl
    have B2 : (Asm.ld1 (.set (.push (.is g) (.cells c80 true)) g.length (.cells (scC ρ i y) true)) xi 1 (ptr oi)).holds Try.prog := by
      have := (ag.grow K1).ld1 (P := Try.prog) (s := .set (.push (.is g) (.cells c80 true)) g.length (.cells (scC ρ i y) true)) rfl hxi (d := 1) (v := pvv (ρ (.tk y.ow))) (by rw [cont_sc hy]; rfl)
      rwa [hoi] at this
    have B3 : (Asm.ld1 (.set (.push (.is g) (.cells c80 true)) g.length (.cells (scC ρ i y) true)) oi 0 (.int .i64 ((y.ow + 1 : Nat) : Int))).holds Try.prog := (ag.grow K1).ld1 rfl hoi (by rw [cont_tk hox]; rfl)
    have B4 : (Asm.arith .sub .i64 ((y.ow + 1 : Nat) : Int) 1 (y.ow : Int)).holds Try.prog := subI (by omega) (by omega) (by omega)
    have B5 : (Asm.off y.ow 0 (y.ow : Int) t.tks.length 1).holds Try.prog := offI (q := y.ow) rfl how (by omega)
    have B6 : (Asm.ld1 (.set (.push (.is g) (.cells c80 true)) g.length (.cells (scC ρ i y) true)) nt y.ow (ptr ci)).holds Try.prog := a_ld1 (K1.2 _ _ ot id) ctl
    have B7 : (Asm.ld1 (.set (.set (.set (.push (.is g) (.cells c80 true)) g.length (.cells (scC ρ i y) true)) g.length (.cells c81 true)) g.length (.cells c82 true)) xi 4 (.slice ob y.tks.length zb)).holds Try.prog := by
      rw [← hst]
      exact (ag.grow K3).ld1 (by rw [hg3]; rfl) hxi (by rw [cont_sc hy]; rfl)
    have A9 : (Asm.arith .add .i64 (i : Int) 1 ((i + 1 : Nat) : Int)).holds Try.prog := addI rfl (by omega) (by omega)
    rw [hg3] at l2
    have L : (Asm.loop 177 false (loopN Try.f20 2) _ (.set (.set (.set (.push (.is g) (.cells c80 true)) g.length (.cells (scC ρ i y) true)) g.length (.cells c81 true)) g.length (.cells c82 true)) (.exit 4) [(9, ptr g.length), (47, .int .i64 i), (46, .int .i64 (Int.ofNat t.scs.length)), (45, .slice (some ⟨to, 0, none⟩) t.scs.length 1), (3, ptr b), (0, ptr r)] (.is g4)).holds Try.prog := a_loop (by kernel_rfl) (EnvLe.refl _) l1 l2
    have O4 := O.grow l3
    have ob4 := O4.obj _ _ hb
    have l3l := l3.1
    have l4l := get_lt l4
    obtain ⟨os, ls, zs, hvs⟩ : ∃ os ls zs, v = .slice os ls zs := by rcases l5 with ⟨_, _, e⟩ | ⟨_, _, o, e, _⟩ <;> exact ⟨_, _, _, e⟩
    -- the new layout
    obtain ⟨so, hso, hso2⟩ : ∃ so : Option Nat, v = slv so y.tks.length ∧ (∀ q, so = some q → g4[q]? = some (.cells (cpS σ y.tks) true) ∧ g.length + 1 ≤ q) := by
      rcases l5 with ⟨e1, e2, e3⟩ | ⟨_, _, o, e, e2, e3⟩
      · exact ⟨none, by rw [e3]; rfl, fun q e => by cases e⟩
      · exact ⟨some o, e, fun q e => by cases e; exact ⟨e2, e3⟩⟩
    have hso3 : so = none → y.tks = [] := fun e => by
      rcases l5 with ⟨e1, e2, e3⟩ | ⟨_, _, o, e', e2, e3⟩
      · exact List.length_eq_zero_iff.1 e1
      · rw [hso, e] at e'; simp [slv] at e'
    have main : ∀ (z zz : Nat) (g' : Hp), z = g4.length + 1 → Keep (fun q => q = b ∨ σ .ss = some q) g4 g' → g'[z]? = some (.cells ((List.range i).map (fun k => pvv (σ (.sc k))) ++ [ptr g.length]) true) → g'[b]? = some (.cells [.slice (some ⟨nt, 0, none⟩) t.tks.length 1, .slice (some ⟨z, 0, none⟩) (i + 1) 1] true) →
        ∃ σ', Keep (fun _ => False) h g' ∧ Ob h.length g' σ' (cL ρ σ' t t.tks.length (i + 1) 0) ∧ Dm σ' t t.tks.length (i + 1) 0 ∧ σ' .root = some b := by
      intro z zz g' hz Kg hgz hgb
      obtain ⟨σ', hσ⟩ : ∃ σ' : Lay, σ' = fun r => if r = .st i then so else put2 σ .ss z (.sc i) g.length r := ⟨_, rfl⟩
      have s0 : σ' (.st i) = so := by rw [hσ]; simp
      have s1 : σ' .ss = some z := by rw [hσ]; simp [put2_1]
      have s2 : σ' (.sc i) = some g.length := by rw [hσ]; simp [put2_2]
      have sn : ∀ r, r ≠ .st i → r ≠ .ss → r ≠ .sc i → σ' r = σ r := fun r h0 h1 h2 => by rw [hσ]; simp only [if_neg h0]; exact put2_o h1 h2
      have sb : σ' .root = some b := by rw [sn _ (by simp) (by simp) (by simp)]; exact hb
      have inv : ∀ r q, σ' r = some q → r ≠ .st i → r ≠ .ss → r ≠ .sc i → q < g.length ∧ σ r = some q := fun r q e h0 h1 h2 => by rw [sn r h0 h1 h2] at e; exact ⟨O.lt e, e⟩
      have hsl : ∀ q, so = some q → q < g4.length := fun q e => get_lt (hso2 q e).1
      have Kg' : Keep (fun q => q = b ∨ σ .ss = some q) g g' := (l3.mono fun _ _ e => e.elim).trans Kg
      have fpl : ∀ q, (q = b ∨ σ .ss = some q) → q < g.length := fun q e => by
        rcases e with rfl | e
        · exact bl
        · exact O.lt e
      have tksame : ∀ k, σ' (.tk k) = σ (.tk k) := fun k => sn _ (by simp) (by simp) (by simp)
      refine ⟨σ', K.trans_new Kg' fun q hq e => ?_, O.upd (fun r => r = .root ∨ r = .ss ∨ r = .sc i ∨ r = .st i) Kg' (fun r q e f => by
          rcases f with rfl | f
          · exact .inl (O.inj _ _ _ e hb)
          · exact .inr (.inl (O.inj _ _ _ e f))) (fun r d => ?_) (fun r q d e => ?_), ?_, sb⟩
      · rcases e with rfl | e
        · omega
        · have := O.lo _ _ e; omega
      · have e1 : r ≠ .root := fun e => d (.inl e)
        have e2 : r ≠ .ss := fun e => d (.inr (.inl e))
        have e3 : r ≠ .sc i := fun e => d (.inr (.inr (.inl e)))
        have e4 : r ≠ .st i := fun e => d (.inr (.inr (.inr e)))
        refine ⟨sn r e4 e2 e3, fun hn => ?_⟩
        cases r with
        | root => exact absurd rfl e1
        | ts => simp only [cL, tksame]
        | ss => exact absurd rfl e2
        | tk k => simp [cL]
        | op k => exact absurd (D.oop k (Nat.zero_le _)) hn
        | sc k =>
          have n1 : Rl.st k ≠ .st i := fun e => e3 (by cases e; rfl)
          simp only [cL, scC, tksame, sn (.st k) n1 (by simp) (by simp)]
        | st k => simp only [cL, tksame]
      · rcases d with rfl | rfl | rfl | rfl
        · rw [sb] at e; cases e
          refine ⟨?_, blo, fun r' e' => ?_⟩
          · rw [show cL ρ σ' t t.tks.length (i + 1) 0 .root = [.slice (some ⟨nt, 0, none⟩) t.tks.length 1, .slice (some ⟨z, 0, none⟩) (i + 1) 1] by simp only [cL, s1, sn .ts (by simp) (by simp) (by simp), hts, slv]]
            exact hgb
          · by_cases r0 : r' = .st i
            · subst r0; rw [s0] at e'; have := hso2 _ e'; omega
            · by_cases r1 : r' = .ss
              · subst r1; rw [s1] at e'; cases e'; omega
              · by_cases r2 : r' = .sc i
                · subst r2; rw [s2] at e'; cases e'; omega
                · exact O.inj _ _ _ (inv r' _ e' r0 r1 r2).2 hb
        · rw [s1] at e; cases e
          refine ⟨?_, by omega, fun r' e' => ?_⟩
          · rw [show cL ρ σ' t t.tks.length (i + 1) 0 .ss = (List.range i).map (fun k => pvv (σ (.sc k))) ++ [ptr g.length] by
              simp only [cL, List.range_succ, List.map_append, List.map_cons, List.map_nil, s2, pvv]
              congr 1
              refine List.map_congr_left fun k hk => ?_
              rw [List.mem_range] at hk
              rw [sn (.sc k) (by simp) (by simp) (by intro e; cases e; omega)]]
            exact hgz
          · by_cases r0 : r' = .st i
            · subst r0; rw [s0] at e'; have := hsl _ e'; omega
            · by_cases r1 : r' = .ss
              · exact r1
              · by_cases r2 : r' = .sc i
                · subst r2; rw [s2] at e'; simp at e'; omega
                · have := (inv r' _ e' r0 r1 r2).1; omega
        · rw [s2] at e; cases e
          refine ⟨?_, by omega, fun r' e' => ?_⟩
          · rw [show cL ρ σ' t t.tks.length (i + 1) 0 (.sc i) = [.int .i64 ((i + 1 : Nat) : Int), ptr ci, .bool y.su, .bool y.ov, v, .int .i64 y.live, .int .i64 y.fk, .string y.ft] by simp only [cL, hy, scC, tksame, hci, pvv, s0, hso]]
            exact Kg.2 _ _ l4 fun e => by have := fpl _ e; omega
          · by_cases r0 : r' = .st i
            · subst r0; rw [s0] at e'; have := hso2 _ e'; omega
            · by_cases r1 : r' = .ss
              · subst r1; rw [s1] at e'; simp at e'; omega
              · by_cases r2 : r' = .sc i
                · exact r2
                · have := (inv r' _ e' r0 r1 r2).1; omega
        · rw [s0] at e
          have hq := hso2 q e
          have hq3 := hsl q e
          refine ⟨?_, by omega, fun r' e' => ?_⟩
          · rw [show cL ρ σ' t t.tks.length (i + 1) 0 (.st i) = cpS σ y.tks by simp only [cL, hy, tksame, cpS]]
            exact Kg.2 _ _ hq.1 fun e => by have := fpl _ e; omega
          · by_cases r0 : r' = .st i
            · exact r0
            · by_cases r1 : r' = .ss
              · subst r1; rw [s1] at e'; cases e'; omega
              · by_cases r2 : r' = .sc i
                · subst r2; rw [s2] at e'; cases e'; omega
                · have := (inv r' _ e' r0 r1 r2).1; omega
      · refine ⟨fun k hk => ?_, fun k hk => ?_, fun e => ?_, fun e => (by rw [s1] at e; cases e), fun k x hk => absurd hk (Nat.not_lt_zero _), fun k x hk hx e => ?_, fun k hk => ?_, fun k hk => ?_, fun k hk => ?_⟩
        · rw [tksame]; exact D.tk k hk
        · by_cases e : k = i
          · subst e; exact ⟨_, s2⟩
          · rw [sn _ (by simp) (by simp) (by intro e'; cases e'; exact e rfl)]; exact D.sc k (by omega)
        · rw [sn _ (by simp) (by simp) (by simp)] at e; exact D.ts e
        · by_cases e1 : k = i
          · subst e1
            rw [hy] at hx; cases hx
            rw [s0] at e
            exact hso3 e
          · rw [sn _ (by intro e'; cases e'; exact e1 rfl) (by simp) (by simp)] at e; exact D.st k x (by omega) hx e
        · rw [tksame]; exact D.otk k hk
        · rw [sn _ (by simp) (by simp) (by simp)]; exact D.oop k hk
        · rw [sn _ (by simp) (by simp) (by intro e; cases e; omega), sn _ (by intro e; cases e; omega) (by simp) (by simp)]; exact D.osc k (by omega)
    rw [show cL ρ σ t t.tks.length i 0 .root = [.slice (some ⟨nt, 0, none⟩) t.tks.length 1, slv (σ .ss) i] by simp only [cL, hts, slv]] at ob4
    cases hs : σ .ss with
    | none =>
      have i0 := D.ss hs
      subst i0
      rw [hs] at ob4
      obtain ⟨g', hg'⟩ : ∃ g', g' = ((g4 ++ [AObj.cells [ptr g.length] true]) ++ [AObj.cells [ptr g.length] true]).set b (.cells [.slice (some ⟨nt, 0, none⟩) t.tks.length 1, .slice (some ⟨g4.length + 1, 0, none⟩) 1 1] true) := ⟨_, rfl⟩
      obtain ⟨σ', m1, m2, m3, m4⟩ := main (g4.length + 1) 0 g' rfl (by
          rw [hg']
          exact (((Keep.push _ _ _).trans (Keep.push _ _ _)).trans (Keep.set (fp := fun q => q = b ∨ σ .ss = some q) (.inl rfl) _))) (by rw [hg']; exact get_set_ne (get_new' _ (by simp)) (by omega)) (by rw [hg']; exact get_set_eq (get_push (get_push ob4)))
      obtain ⟨E2, q1, q2⟩ := pvC 0 hE (r27p.c1_gon (some ⟨oi, 0, none⟩) ob y.tks.length zb ((0 + 1 : Nat) : Int) y.su y.ov y.fk y.ft r b to 0 xi g.length g4.length (g4.length + 1) 0 oi ci y.ow nt t.tks.length none ob t.scs.length 1 y.tks.length zb 0 (0 : Nat) ((0 + 1 : Nat) : Int) y.live ((y.ow + 1 : Nat) : Int) y.ow (scC ρ 0 y) c81 c82 [ptr g.length] [] [.slice (some ⟨nt, 0, none⟩) t.tks.length 1, .slice (some ⟨g4.length + 1, 0, none⟩) 1 1] g g4)
        ⟨A1, A2, A3, A4, rfl, by rw [← hc80]; exact a_st (get_new _ _) (by simp [hc80]) (by rw [hC, hc80]; rfl), stat20 0 (by simp), by rw [← hc80]; exact B1, by rw [← hc80]; exact B2, by rw [← hc80]; exact B3, B4, B5, by rw [← hc80]; exact B6, by rw [← hc80]; exact a_st d1 (by simp [scC]) (by rw [hC, hc81]; rfl), by rw [← hc80]; exact a_st d2 (by simp [hc81]) (by rw [hc81, hc82]; rfl), by rw [← hc80]; exact B7, by rw [← hc80]; exact a_loop (by kernel_rfl) (.add (.add (.add (.add (.add (.add (.add (.add (.add (.nil _) rfl) rfl) rfl) rfl) rfl) rfl) rfl) rfl) rfl) l1 l2, a_ld1 ob4 rfl, rfl, a_appGN rfl rfl (by omega) (get_new _ _) (push_len _ _), a_st (get_push (get_push ob4)) (by simp) rfl, A9, trivial⟩
      · obtain ⟨E3, g9, σ3, w1, w2, w3, w4, w5, w6⟩ := ih (0 + 1) E2 g' σ' (by omega) (.trans (.add (.add (.add (.add (.add (.nil _) rfl) rfl) rfl) rfl) rfl) q1) m1 m2 m3 m4
        refine ⟨E3, g9, σ3, w1, .step q2 ?_, w3, w4, w5, w6⟩
        rw [hg'] at w2
        exact w2
    | some so' =>
      have os := O4.obj _ _ hs
      have osl := O4.lt hs
      have nsb : so' ≠ b := fun e => by subst e; cases O.inj _ _ _ hs hb
      rw [hs] at ob4
      obtain ⟨cs, hcs⟩ : ∃ cs, cs = (List.range i).map fun k => pvv (σ (.sc k)) := ⟨_, rfl⟩
      have csl : cs.length = i * 1 := by rw [hcs]; simp
      rw [show cL ρ σ t t.tks.length i 0 .ss = cs by rw [hcs]; rfl] at os
      obtain ⟨g', hg'⟩ : ∃ g', g' = ((g4 ++ [AObj.cells [ptr g.length] true]).set so' .dead ++ [AObj.cells (cs ++ [ptr g.length]) true]).set b (.cells [.slice (some ⟨nt, 0, none⟩) t.tks.length 1, .slice (some ⟨g4.length + 1, 0, none⟩) (i + 1) 1] true) := ⟨_, rfl⟩
      obtain ⟨σ', m1, m2, m3, m4⟩ := main (g4.length + 1) 0 g' rfl (by
          rw [hg']
          exact ((((Keep.push _ _ _).trans (Keep.set (fp := fun q => q = b ∨ σ .ss = some q) (.inr hs) _)).trans (Keep.push _ _ _)).trans (Keep.set (.inl rfl) _))) (by rw [hg', hcs]; exact get_set_ne (get_new' _ (by simp)) (by omega)) (by rw [hg']; exact get_set_eq (get_push (get_set_ne (get_push ob4) nsb)))
      obtain ⟨E2, q1, q2⟩ := pvC 0 hE (r27p.c1_gos (some ⟨oi, 0, none⟩) ob y.tks.length zb ((i + 1 : Nat) : Int) y.su y.ov y.fk y.ft r b to i xi g.length g4.length (g4.length + 1) so' oi ci y.ow nt t.tks.length none ob t.scs.length 1 y.tks.length zb i i ((i + 1 : Nat) : Int) y.live ((y.ow + 1 : Nat) : Int) y.ow (scC ρ i y) c81 c82 [ptr g.length] (cs ++ [ptr g.length]) [.slice (some ⟨nt, 0, none⟩) t.tks.length 1, .slice (some ⟨g4.length + 1, 0, none⟩) (i + 1) 1] g g4)
        ⟨A1, A2, A3, A4, rfl, by rw [← hc80]; exact a_st (get_new _ _) (by simp [hc80]) (by rw [hC, hc80]; rfl), stat20 0 (by simp), by rw [← hc80]; exact B1, by rw [← hc80]; exact B2, by rw [← hc80]; exact B3, B4, B5, by rw [← hc80]; exact B6, by rw [← hc80]; exact a_st d1 (by simp [scC]) (by rw [hC, hc81]; rfl), by rw [← hc80]; exact a_st d2 (by simp [hc81]) (by rw [hc81, hc82]; rfl), by rw [← hc80]; exact B7, by rw [← hc80]; exact a_loop (by kernel_rfl) (.add (.add (.add (.add (.add (.add (.add (.add (.add (.nil _) rfl) rfl) rfl) rfl) rfl) rfl) rfl) rfl) rfl) l1 l2, a_ld1 ob4 rfl, rfl, a_appGS (b := 8) rfl rfl (by omega) (by omega) csl (get_push os) (get_new _ _) (push_len _ _), a_st (get_push (get_set_ne (get_push ob4) nsb)) (by simp) rfl, A9, trivial⟩
      · obtain ⟨E3, g9, σ3, w1, w2, w3, w4, w5, w6⟩ := ih (i + 1) E2 g' σ' (by omega) (.trans (.add (.add (.add (.add (.add (.nil _) rfl) rfl) rfl) rfl) rfl) q1) m1 m2 m3 m4
        refine ⟨E3, g9, σ3, w1, .step q2 ?_, w3, w4, w5, w6⟩
        rw [hg'] at w2
        exact w2
end

end Go.Proofs.Ytahomnlkkafbjaa.tr

namespace Go.Proofs.Ytahomnlkkafbjaa.tr
open Go Go.Ev
set_option maxRecDepth 100000
set_option linter.unusedVariables false
set_option linter.constructorNameAsVariable false

theorem inP_ones (ρ : Lay) (l : List (Option Nat)) : (l.map (inP ρ)).all Value.oneCell' = true := by
  rw [List.all_eq_true]
  intro v hv
  obtain ⟨x, _, rfl⟩ := List.mem_map.1 hv
  obtain ⟨p, hp⟩ := inP_any ρ x
  rw [hp]; rfl

theorem clone_nil (h : Hp) : Run Try.prog 45 [.slice none 0 0] h (.slice none 0 0) h := pvF 0 Try.func45 (r27p.cl_nil 0 0 0 0 [] h) trivial
theorem clone_run {h : Hp} {o n : Nat} {cs junk : List Value} (ho : h[o]? = some (.cells (cs ++ junk) true)) (hn : cs.length = n) (h1 : cs.all Value.oneCell' = true) (hb : n ≤ 1000000) :
    ∃ d h', Run Try.prog 45 [.slice (some ⟨o, 0, none⟩) n 1] h (.slice (some ⟨d, 0, none⟩) n 1) h' ∧ Keep (fun _ => False) h h' ∧ h'[d]? = some (.cells cs true) ∧ h.length ≤ d := by
  cases n with
  | zero =>
    have e : cs = [] := List.length_eq_zero_iff.1 hn
    subst e
    exact ⟨h.length, _, pvF 0 Try.func45 (r27p.cl_0 o 0 h.length 0 [] h) ⟨rfl, ⟨rfl, _, cells_of (get_push ho), Nat.zero_le _⟩, trivial⟩, (Keep.refl _ _).pushN _, get_new _ _, Nat.le_refl _⟩
  | succ n =>
    have r := pvF 0 Try.func45 (r27p.cl_1 o n h.length (h.length + 1) cs h) ⟨rfl, ⟨rfl, ⟨_, cells_of (get_push ho), by rw [List.length_append]; omega, by rw [List.drop_zero, Nat.mul_one, show Nat.succ n = cs.length from hn.symm]; simp⟩, h1, by (first | omega | (simp; omega)), by (first | omega | (simp; omega)), ⟨_, own_of (get_new _ _), by simp, by simp⟩, by simp [SH.den]⟩, trivial⟩
    rw [Nat.zero_add] at r
    exact ⟨h.length + 1, _, r, (((Keep.refl (fun _ => False) h).pushN _).setN (Nat.le_refl _) _).pushN _, get_new' _ (by simp [SH.den]), by omega⟩

section
variable {h : Hp} {ρ : Lay} {t : TS} {c r b : Nat} {oa : Option Addr} {za : Nat}

def mixO (ρ σ : Lay) (l : List (Option Nat)) (i : Nat) : List Value := (l.take i).map (inP σ) ++ (l.drop i).map (inP ρ)
theorem mixO_len {ρ σ : Lay} {l : List (Option Nat)} {i : Nat} : (mixO ρ σ l i).length = l.length := by simp [mixO]; omega
theorem mixO_at {ρ σ : Lay} {l : List (Option Nat)} {i : Nat} {w : Option Nat} (h : l[i]? = some w) : (mixO ρ σ l i)[i]? = some (inP ρ w) := by
  have := get_lt' h
  rw [mixO, List.getElem?_append_right (by simp; omega)]
  simp [h, Nat.min_eq_left (Nat.le_of_lt this)]
theorem mixO_succ {ρ σ : Lay} {l : List (Option Nat)} {i : Nat} {w : Option Nat} (h : l[i]? = some w) : (mixO ρ σ l i).take i ++ [inP σ w] ++ (mixO ρ σ l i).drop (i + 1) = mixO ρ σ l (i + 1) := by
  have hl := get_lt' h
  have e1 : ((l.take i).map (inP σ)).length = i := by simp; omega
  rw [mixO, List.take_append_of_le_length (by omega), List.take_of_length_le (by omega), List.drop_append, List.drop_of_length_le (by omega), e1, List.nil_append, mixO, take_one h]
  simp [List.drop_drop, Nat.add_comm]
theorem mixO_none {ρ σ : Lay} {l : List (Option Nat)} {i : Nat} (h : l[i]? = some none) : mixO ρ σ l i = mixO ρ σ l (i + 1) := by
  have hl := get_lt' h
  rw [mixO, mixO, take_one h, List.drop_eq_getElem_cons hl]
  have : l[i] = none := by rw [List.getElem?_eq_getElem hl] at h; exact Option.some.inj h
  rw [this]
  simp [inP]

theorem copy4 (a : TAt h ρ t) (ok : TOk c t) (hc : c ≤ 100000) {m X : Nat} {x : Tk} {od : Option Nat} {g0 : Hp} {σ : Lay} {u11 u10 u09 v0 e0 e1 e3 e4 e5 e6 : Value} (hx : t.tks[m]? = some x)
    (hso : ∀ i, od = some i → oa = some ⟨i, 0, none⟩ ∧ za = 1) (hso0 : od = none → x.opn.length = 0) (K0 : Keep (fun _ => False) h g0)
    (hb : g0[b]? = some (.cells [v0, slv (σ .ss) t.scs.length] true)) (hss : ∀ q, σ .ss = some q → g0[q]? = some (.cells ((List.range t.scs.length).map fun k => pvv (σ (.sc k))) true)) (hs0 : σ .ss = none → t.scs.length = 0) (hsc : ∀ k, k < t.scs.length → ∃ q, σ (.sc k) = some q)
    (hX : g0[X]? = some (.cells [e0, e1, .slice oa x.opn.length za, e3, e4, e5, e6] true)) (hne : ∀ o, od = some o → h.length ≤ o ∧ o ≠ b ∧ o ≠ X ∧ σ .ss ≠ some o) :
    ∀ (j i : Nat) (E : Env) (g : Hp), i + j = x.opn.length → EnvLe [(150, .int .i64 (i : Int)), (149, .int .i64 (Int.ofNat x.opn.length)), (148, .slice oa x.opn.length za), (13, ptr X), (111, u11), (110, u10), (109, u09), (3, ptr b), (0, ptr r)] E →
      Keep (fun q => od = some q) g0 g → (∀ o, od = some o → g[o]? = some (.cells (mixO ρ σ x.opn i) true)) →
      ∃ E1 g', EnvLe [(13, ptr X), (111, u11), (110, u10), (109, u09), (3, ptr b), (0, ptr r)] E1 ∧ LRun Try.prog 177 false (loopN Try.f20 4) E g (.exit 8) E1 g' ∧ Keep (fun q => od = some q) g0 g' ∧ (∀ o, od = some o → g'[o]? = some (.cells (x.opn.map (inP σ)) true)) := by
  intro j
  induction j with
  | zero =>
    intro i E g hi hE K ho
    have e : i = x.opn.length := by omega
    subst e
    obtain ⟨E2, q1, q2⟩ := pvC 0 hE (r27p.c4_out r b 0 0 X 0 0 0 0 0 0 0 oa x.opn.length za x.opn.length 0 0 0 u11 u10 u09 [] g) ⟨ltF (by simp), trivial⟩
    exact ⟨E2, g, .trans (.add (.add (.add (.add (.add (.add (.nil _) rfl) rfl) rfl) rfl) rfl) rfl) q1, .last q2 (by simp), K, fun o e => by rw [ho o e, mixO, List.take_length]; simp⟩
  | succ j ih =>
    intro i E g hi hE K ho
    have n200 := ok.n200
    have hlen := ok.len m x hx
    obtain ⟨w, hw⟩ : ∃ w, x.opn[i]? = some w := ⟨_, List.getElem?_eq_getElem (by omega)⟩
    cases hd : od with
    | none => have := hso0 hd; omega
    | some o =>
    obtain ⟨rfl, rfl⟩ := hso o hd
    obtain ⟨n1, n2, n3, n4⟩ := hne o hd
    have hog := ho o hd
    have A1 : (Asm.cmp .lss (i : Int) (Int.ofNat x.opn.length) true).holds Try.prog := ltT (by simp; omega)
    have A2 : (Asm.off i 0 (i : Int) x.opn.length 1).holds Try.prog := offI (q := i) rfl (by omega) (by omega)
    have A11 : (Asm.arith .add .i64 (i : Int) 1 ((i + 1 : Nat) : Int)).holds Try.prog := addI rfl (by omega) (by omega)
    have A3 : (Asm.ld1 (.is g) o i (inP ρ w)).holds Try.prog := a_ld1 hog (mixO_at hw)
    have env := @EnvLe.trans
    cases w with
    | none =>
      obtain ⟨E2, q1, q2⟩ := pvC 0 hE (r27p.c4_nil r b o i X 0 0 0 0 0 0 0 none x.opn.length 1 i ((i + 1 : Nat) : Int) 0 0 u11 u10 u09 [] g) ⟨A1, A2, A3, A11, trivial⟩
      obtain ⟨E3, g5, s1, s2, s3⟩ := ih (i + 1) E2 g (by omega) (.trans (.add (.add (.add (.add (.add (.add (.add (.add (.add (.nil _) rfl) rfl) rfl) rfl) rfl) rfl) rfl) rfl) rfl) q1) K (fun o' e => by rw [ho o' e, mixO_none hw])
      rw [hd] at s3
      exact ⟨E3, g5, s1, .step q2 s2, s3⟩
    | some s =>
      have hsl := ok.opn m x s hx (List.mem_of_getElem? hw)
      obtain ⟨si, hsi⟩ := a.sh.sc s hsl
      obtain ⟨y, hy⟩ : ∃ y, t.scs[s]? = some y := ⟨_, List.getElem?_eq_getElem hsl⟩
      obtain ⟨ci, hci⟩ := hsc s hsl
      cases hq : σ .ss with
      | none => have := hs0 hq; omega
      | some q =>
      have ag : TAt g ρ t := (a.grow K0).keep K fun q' e e2 => by
        rw [hd] at e; cases e
        obtain ⟨r', e2⟩ := e2
        have := a.lt e2
        omega
      have hqo : ¬ od = some q := fun e => by rw [hd] at e; cases e; exact n4 hq
      have hbo : ¬ od = some b := fun e => by rw [hd] at e; cases e; exact n2 rfl
      have hXo : ¬ od = some X := fun e => by rw [hd] at e; cases e; exact n3 rfl
      have gb := K.2 _ _ hb hbo
      rw [hq] at gb
      have gq := K.2 _ _ (hss q hq) hqo
      have gX := K.2 _ _ hX hXo
      simp only [inP, hsi, pvv] at A3
      have A4 : (Asm.ld1 (.is g) X 2 (.slice (some ⟨o, 0, none⟩) x.opn.length 1)).holds Try.prog := a_ld1 gX rfl
      have A5 : (Asm.ld1 (.is g) b 1 (.slice (some ⟨q, 0, none⟩) t.scs.length 1)).holds Try.prog := a_ld1 gb rfl
      have A6 : (Asm.ld1 (.is g) si 0 (.int .i64 ((s + 1 : Nat) : Int))).holds Try.prog := ag.ld1 rfl hsi (by rw [cont_sc hy]; rfl)
      have A7 : (Asm.arith .sub .i64 ((s + 1 : Nat) : Int) 1 (s : Int)).holds Try.prog := subI (by omega) (by omega) (by omega)
      have A8 : (Asm.off s 0 (s : Int) t.scs.length 1).holds Try.prog := offI (q := s) rfl hsl (by omega)
      have A9 : (Asm.ld1 (.is g) q s (ptr ci)).holds Try.prog := a_ld1 gq (by simp [hsl, hci, pvv])
      have hcv : inP σ (some s) = ptr ci := by simp only [inP, hci, pvv]
      obtain ⟨E2, q1, q2⟩ := pvC 0 hE (r27p.c4_go r b o i X si ci s q t.scs.length o i none x.opn.length 1 i ((i + 1 : Nat) : Int) ((s + 1 : Nat) : Int) s u11 u10 u09 (mixO ρ σ x.opn (i + 1)) g)
        ⟨A1, A2, A3, stat20 3 (by simp), A4, A5, A6, A7, A8, A9, A2, a_st hog (by rw [mixO_len]; simp; omega) (by have := mixO_succ (ρ := ρ) (σ := σ) hw; rw [hcv] at this; exact this), A11, trivial⟩
      obtain ⟨E3, g5, s1, s2, s3⟩ := ih (i + 1) E2 (g.set o (.cells (mixO ρ σ x.opn (i + 1)) true)) (by omega) (.trans (.add (.add (.add (.add (.add (.add (.add (.add (.add (.nil _) rfl) rfl) rfl) rfl) rfl) rfl) rfl) rfl) rfl) q1) (K.trans (Keep.set (fp := fun q => od = some q) hd _)) (fun o' e => by rw [hd] at e; cases e; exact get_set_eq hog)
      rw [hd] at s3
      exact ⟨E3, g5, s1, .step q2 s2, s3⟩

theorem copy3 (a : TAt h ρ t) (ok : TOk c t) (hc : c ≤ 100000) (hr : ρ .root = some r) :
    ∀ (j i : Nat) (E : Env) (g : Hp) (σ : Lay), i + j = t.tks.length → EnvLe [(111, .int .i64 (i : Int)), (110, .int .i64 (Int.ofNat t.tks.length)), (109, .slice oa t.tks.length za), (3, ptr b), (0, ptr r)] E → (∀ i, σ .ts = some i → oa = some ⟨i, 0, none⟩ ∧ za = 1) →
      Keep (fun _ => False) h g → Ob h.length g σ (cL ρ σ t t.tks.length t.scs.length i) → Dm σ t t.tks.length t.scs.length i → σ .root = some b →
      ∃ E1 g' σ', EnvLe [(3, ptr b), (0, ptr r)] E1 ∧ LRun Try.prog 177 false (loopN Try.f20 3) E g (.exit 6) E1 g' ∧ Keep (fun _ => False) h g' ∧ Ob h.length g' σ' (cL ρ σ' t t.tks.length t.scs.length t.tks.length) ∧ Dm σ' t t.tks.length t.scs.length t.tks.length ∧ σ' .root = some b := by
  intro j
  induction j with
  | zero =>
    intro i E g σ hi hE hts K O D hb
    have e : i = t.tks.length := by omega
    subst e
    obtain ⟨E2, q1, q2⟩ := pvC 0 hE (r27p.c3_out r b 0 0 0 0 0 0 0 0 oa none none none t.tks.length za 0 0 0 0 0 0 t.tks.length 0 0 0 [] [] (.bool true) g g g) ⟨ltF (by simp), trivial⟩
    exact ⟨E2, g, σ, .trans (.add (.add (.nil _) rfl) rfl) q1, .last q2 (by simp), K, O, D, hb⟩
  | succ j ih =>
    intro i E g σ hi hE hts K O D hb
    have n64 := ok.n64
    have n200 := ok.n200
    have il : i < t.tks.length := by omega
    obtain ⟨x, hx⟩ : ∃ x, t.tks[i]? = some x := ⟨_, List.getElem?_eq_getElem il⟩
    have hlen := ok.len i x hx
    obtain ⟨X, hX⟩ := D.tk i il
    cases hto : σ .ts with
    | none => have := D.ts hto; omega
    | some to =>
    obtain ⟨rfl, rfl⟩ := hts to hto
    have Kl := K.1
    have Xl := O.lt hX
    have Xlo := O.lo _ _ hX
    have bl := O.lt hb
    have nXb : X ≠ b := fun e => by subst e; cases O.inj _ _ _ hX hb
    have ot := O.obj _ _ hto
    have oX := O.obj _ _ hX
    rw [show cL ρ σ t t.tks.length t.scs.length i (.tk i) = tkC ρ i x by simp [cL, hx]] at oX
    have ob := O.obj _ _ hb
    rw [show cL ρ σ t t.tks.length t.scs.length i .root = [slv (σ .ts) t.tks.length, slv (σ .ss) t.scs.length] from rfl] at ob
    have A1 : (Asm.cmp .lss (i : Int) (Int.ofNat t.tks.length) true).holds Try.prog := ltT (by simp; omega)
    have A2 : (Asm.off i 0 (i : Int) t.tks.length 1).holds Try.prog := offI (q := i) rfl il (by omega)
    have A3 : (Asm.ld1 (.is g) to i (ptr X)).holds Try.prog := a_ld1 ot (by simp [cL, il, hX, pvv])
    have A9 : (Asm.arith .add .i64 (i : Int) 1 ((i + 1 : Nat) : Int)).holds Try.prog := addI rfl (by omega) (by omega)
    obtain ⟨oo, zo, hop, hop2⟩ := slv_ex (ρ (.op i)) x.opn.length (fun e => by rw [a.sh.op i x hx e]; rfl)
    have main : ∀ gA : Hp, Keep (fun q => q = X) g gA → gA[X]? = some (.cells [.int .i64 ((i + 1 : Nat) : Int), inP σ x.inn, .slice oo x.opn.length zo, .bool x.lv, .bool x.en, .int .i64 x.fk, .string x.ft] true) →
        ∃ oc zc g1 g2 F1 σ', Run Try.prog 45 [.slice oo x.opn.length zo] gA (.slice oc x.opn.length zc) g1 ∧ (∃ c, g1[X]? = some (.cells c true) ∧ c = [.int .i64 ((i + 1 : Nat) : Int), inP σ x.inn, .slice oo x.opn.length zo, .bool x.lv, .bool x.en, .int .i64 x.fk, .string x.ft]) ∧
          EnvLe [(13, ptr X), (111, .int .i64 (i : Int)), (110, .int .i64 (Int.ofNat t.tks.length)), (109, .slice (some ⟨to, 0, none⟩) t.tks.length 1), (3, ptr b), (0, ptr r)] F1 ∧
          LRun Try.prog 177 false (loopN Try.f20 4) [(150, .int .i64 (0 : Nat)), (149, .int .i64 (Int.ofNat x.opn.length)), (148, .slice oc x.opn.length zc), (13, ptr X), (111, .int .i64 (i : Int)), (110, .int .i64 (Int.ofNat t.tks.length)), (109, .slice (some ⟨to, 0, none⟩) t.tks.length 1), (3, ptr b), (0, ptr r)]
            (g1.set X (.cells [.int .i64 ((i + 1 : Nat) : Int), inP σ x.inn, .slice oc x.opn.length zc, .bool x.lv, .bool x.en, .int .i64 x.fk, .string x.ft] true)) (.exit 8) F1 g2 ∧
          Keep (fun _ => False) h g2 ∧ Ob h.length g2 σ' (cL ρ σ' t t.tks.length t.scs.length (i + 1)) ∧ Dm σ' t t.tks.length t.scs.length (i + 1) ∧ σ' .root = some b ∧ σ' .ts = some to := by
      intro gA KA hXA
      have hKA : Keep (fun _ => False) h gA := K.trans_new KA fun q hq e => by subst e; omega
      have aA := a.grow hKA
      have KAl := KA.1
      -- the clone
      have cl : ∃ oc zc g1, ∃ od : Option Nat, Run Try.prog 45 [.slice oo x.opn.length zo] gA (.slice oc x.opn.length zc) g1 ∧ Keep (fun _ => False) gA g1 ∧ .slice oc x.opn.length zc = slv od x.opn.length ∧ (∀ i, od = some i → oc = some ⟨i, 0, none⟩ ∧ zc = 1) ∧ (od = none → x.opn = []) ∧ (∀ d, od = some d → g1[d]? = some (.cells (x.opn.map (inP ρ)) true) ∧ gA.length ≤ d) := by
        cases ho : ρ (.op i) with
        | none =>
          have e0 := a.sh.op i x hx ho
          rw [ho, e0] at hop
          simp only [slv, List.length_nil] at hop
          rw [e0, List.length_nil, ← hop]
          exact ⟨none, 0, gA, none, clone_nil gA, Keep.refl _ _, rfl, fun i e => (by cases e), fun _ => rfl, fun d e => (by cases e)⟩
        | some o =>
          obtain ⟨rfl, rfl⟩ := hop2 o ho
          obtain ⟨junk, hj⟩ := aA.obj _ _ ho
          rw [cont_op hx] at hj
          obtain ⟨d, g1, c1, c2, c3, c4⟩ := clone_run hj (n := x.opn.length) (by simp) (inP_ones ρ _) (by omega)
          exact ⟨_, 1, g1, some d, c1, c2, rfl, fun i e => (by cases e; exact ⟨rfl, rfl⟩), fun e => (by cases e), fun d' e => (by cases e; exact ⟨c3, c4⟩)⟩
      obtain ⟨oc, zc, g1, od, c1, c2, c3, c4, c5, c6⟩ := cl
      have hX1 := c2.2 _ _ hXA id
      have c2l := c2.1
      obtain ⟨cX, hcX⟩ : ∃ cX : List Value, cX = [.int .i64 ((i + 1 : Nat) : Int), inP σ x.inn, .slice oc x.opn.length zc, .bool x.lv, .bool x.en, .int .i64 x.fk, .string x.ft] := ⟨_, rfl⟩
      obtain ⟨gB, hgB⟩ : ∃ gB, gB = g1.set X (.cells cX true) := ⟨_, rfl⟩
      have KB : Keep (fun q => q = X) g gB := by rw [hgB]; exact (KA.trans (c2.mono fun _ _ e => e.elim)).trans (Keep.set (fp := fun q => q = X) rfl _)
      have gBl : gB.length = g1.length := by rw [hgB]; simp
      have hXB : gB[X]? = some (.cells cX true) := by rw [hgB]; exact get_set_eq hX1
      have hKB : Keep (fun _ => False) h gB := K.trans_new KB fun q hq e => by subst e; omega
      have hbB := KB.2 _ _ ob fun e => nXb e.symm
      have hdg : ∀ d, od = some d → g.length ≤ d := fun d e => by have := (c6 d e).2; omega
      rw [hcX] at hXB
      obtain ⟨F1, g2, m1, m2, m3, m4⟩ := copy4 (r := r) (oa := oc) (za := zc) (b := b) (m := i) (X := X) (od := od) (g0 := gB) (σ := σ) (u11 := .int .i64 (i : Int)) (u10 := .int .i64 (Int.ofNat t.tks.length)) (u09 := .slice (some ⟨to, 0, none⟩) t.tks.length 1) a ok hc hx c4 (fun e => by rw [c5 e]; rfl) hKB hbB
        (fun q e => KB.2 _ _ (O.obj _ _ e) fun e' => by subst e'; cases O.inj _ _ _ hX e) D.ss D.sc hXB
        (fun o e => by
          have := hdg o e
          refine ⟨by omega, by omega, by omega, fun e' => ?_⟩
          have := O.lt e'
          omega) x.opn.length 0
        [(150, .int .i64 (0 : Nat)), (149, .int .i64 (Int.ofNat x.opn.length)), (148, .slice oc x.opn.length zc), (13, ptr X), (111, .int .i64 (i : Int)), (110, .int .i64 (Int.ofNat t.tks.length)), (109, .slice (some ⟨to, 0, none⟩) t.tks.length 1), (3, ptr b), (0, ptr r)] gB (by omega) (EnvLe.refl _) (Keep.refl _ _)
        (fun o e => by
          have := hdg o e
          rw [hgB]
          refine get_set_ne ?_ (by omega)
          rw [(c6 o e).1]
          simp [mixO])
      rw [hgB, hcX] at m2
      have Kall : Keep (fun q => q = X) g g2 := KB.trans_new m3 fun q hq e => by have := hdg q e; omega
      obtain ⟨σ', hσ⟩ : ∃ σ' : Lay, σ' = fun r => if r = .op i then od else σ r := ⟨_, rfl⟩
      have s0 : σ' (.op i) = od := by rw [hσ]; simp
      have sn : ∀ r, r ≠ .op i → σ' r = σ r := fun r h0 => by rw [hσ]; simp only [if_neg h0]
      have tks : ∀ k, σ' (.tk k) = σ (.tk k) := fun k => sn _ (by simp)
      have scs : ∀ k, σ' (.sc k) = σ (.sc k) := fun k => sn _ (by simp)
      have inPs : ∀ v, inP σ' v = inP σ v := fun v => by cases v <;> simp only [inP, scs]
      have hX2 : g2[X]? = some (.cells cX true) := m3.2 _ _ (by rw [hcX]; exact hXB) fun e => by have := hdg X e; omega
      refine ⟨oc, zc, g1, g2, F1, σ', c1, ⟨_, hX1, rfl⟩, m1, m2, K.trans_new Kall (fun q hq e => by subst e; omega), O.upd (fun r => r = .tk i ∨ r = .op i) Kall (fun r q e f => by subst f; exact .inl (O.inj _ _ _ e hX)) (fun r d => ?_) (fun r q d e => ?_), ?_, by rw [sn _ (by simp)]; exact hb, by rw [sn _ (by simp)]; exact hto⟩
      · have e1 : r ≠ .tk i := fun e => d (.inl e)
        have e2 : r ≠ .op i := fun e => d (.inr e)
        refine ⟨sn r e2, fun hn => ?_⟩
        cases r with
        | root => simp only [cL, sn .ts (by simp), sn .ss (by simp)]
        | ts => simp only [cL, tks]
        | ss => simp only [cL, scs]
        | tk k =>
          have n1 : k ≠ i := fun e => e1 (by rw [e])
          have n2 : Rl.op k ≠ .op i := fun e => n1 (by cases e; rfl)
          by_cases hk : k < i
          · simp only [cL, hk, Nat.lt_succ_of_lt hk, if_true, tkC, inPs, sn _ n2]
          · simp only [cL, hk, show ¬ k < i + 1 by omega, if_false]
        | op k => simp only [cL, show inP σ' = inP σ from funext inPs]
        | sc k => simp only [cL, scC, tks, sn (.st k) (by simp)]
        | st k => simp only [cL, tks]
      · rcases d with rfl | rfl
        · rw [tks] at e
          rw [hX] at e; cases e
          refine ⟨?_, Xlo, fun r' e' => ?_⟩
          · rw [show cL ρ σ' t t.tks.length t.scs.length (i + 1) (.tk i) = cX by simp only [cL, hx, Nat.lt_succ_self, if_true, tkC, inPs, s0, hcX, c3]]
            exact hX2
          · by_cases r0 : r' = .op i
            · subst r0; rw [s0] at e'; have := hdg _ e'; omega
            · rw [sn r' r0] at e'; exact O.inj _ _ _ e' hX
        · rw [s0] at e
          have hq := hdg q e
          refine ⟨?_, by omega, fun r' e' => ?_⟩
          · rw [show cL ρ σ' t t.tks.length t.scs.length (i + 1) (.op i) = x.opn.map (inP σ) by simp only [cL, hx, inPs]; exact List.map_congr_left fun v _ => inPs v]
            exact m4 q e
          · by_cases r0 : r' = .op i
            · exact r0
            · rw [sn r' r0] at e'; have := O.lt e'; omega
      · refine ⟨fun k hk => by rw [tks]; exact D.tk k hk, fun k hk => by rw [scs]; exact D.sc k hk, fun e => ?_, fun e => ?_, fun k x' hk hx' e => ?_, fun k x hk hx e => ?_, fun k hk => by rw [tks]; exact D.otk k hk, fun k hk => ?_, fun k hk => ?_⟩
        · rw [sn _ (by simp)] at e; exact D.ts e
        · rw [sn _ (by simp)] at e; exact D.ss e
        · by_cases e1 : k = i
          · subst e1
            rw [hx] at hx'; cases hx'
            rw [s0] at e
            exact c5 e
          · rw [sn _ (by intro e'; cases e'; exact e1 rfl)] at e; exact D.op k x' (by omega) hx' e
        · rw [sn _ (by simp)] at e; exact D.st k x hk hx e
        · rw [sn _ (by intro e; cases e; omega)]; exact D.oop k (by omega)
        · rw [scs, sn _ (by simp)]; exact D.osc k hk
    cases hin : x.inn with
    | none =>
      rw [hin] at main
      obtain ⟨oc, zc, g1, g2, F1, σ', p1, ⟨cX, p2, rfl⟩, p3, p4, p5, p6, p7, p8, p9⟩ := main g (Keep.refl _ _) (by rw [oX, tkC, hop, hin]; rfl)
      obtain ⟨E2, q1, q2⟩ := pvC 0 hE (r27p.c3_nil r b to i X 0 0 0 0 0 none oo oc oc t.tks.length 1 x.opn.length zo x.opn.length zc x.opn.length zc i ((i + 1 : Nat) : Int) 0 0 [] [.int .i64 ((i + 1 : Nat) : Int), .pointer none, .slice oc x.opn.length zc, .bool x.lv, .bool x.en, .int .i64 x.fk, .string x.ft] (.bool true) g g1 g2)
        ⟨A1, A2, A3, a_ld1 oX (by rw [tkC, hin]; rfl), a_ld1 oX (by rw [tkC, hop]; rfl), p1, a_st p2 (by simp) rfl, a_ld1 (get_set_eq p2) rfl, a_loop (by kernel_rfl) (.add (.add (.add (.add (.add (.add (.add (.add (.add (.nil _) rfl) rfl) rfl) rfl) rfl) rfl) rfl) rfl) rfl) p3 p4, A9, trivial⟩
      obtain ⟨E3, g9, σ3, w1, w2, w3, w4, w5, w6⟩ := ih (i + 1) E2 g2 σ' (by omega) (.trans (.add (.add (.add (.add (.add (.nil _) rfl) rfl) rfl) rfl) rfl) q1) (fun k e => by rw [p9] at e; cases e; exact ⟨rfl, rfl⟩) p5 p6 p7 p8
      exact ⟨E3, g9, σ3, w1, .step q2 w2, w3, w4, w5, w6⟩
    | some s =>
      rw [hin] at main
      have hsl := ok.inn i x s hx hin
      obtain ⟨si, hsi⟩ := a.sh.sc s hsl
      obtain ⟨y, hy⟩ : ∃ y, t.scs[s]? = some y := ⟨_, List.getElem?_eq_getElem hsl⟩
      obtain ⟨ci, hci⟩ := D.sc s hsl
      have ag := a.grow K
      cases hq : σ .ss with
      | none => have := D.ss hq; omega
      | some q =>
      rw [hq] at ob
      have gq := O.obj _ _ hq
      have hcv : inP σ (some s) = ptr ci := by simp only [inP, hci, pvv]
      have hpv : inP ρ (some s) = ptr si := by simp only [inP, hsi, pvv]
      have oX' := oX
      rw [show tkC ρ i x = [.int .i64 ((i + 1 : Nat) : Int), ptr si, .slice oo x.opn.length zo, .bool x.lv, .bool x.en, .int .i64 x.fk, .string x.ft] by rw [tkC, hop, hin, hpv]] at oX'
      rw [hcv] at main
      obtain ⟨oc, zc, g1, g2, F1, σ', p1, ⟨cX, p2, rfl⟩, p3, p4, p5, p6, p7, p8, p9⟩ := main (g.set X (.cells [.int .i64 ((i + 1 : Nat) : Int), ptr ci, .slice oo x.opn.length zo, .bool x.lv, .bool x.en, .int .i64 x.fk, .string x.ft] true)) (Keep.set (fp := fun q => q = X) rfl _) (get_set_eq oX)
      obtain ⟨E2, q1, q2⟩ := pvC 0 hE (r27p.c3_in r b to i X si ci s q t.scs.length none oo oc oc t.tks.length 1 x.opn.length zo x.opn.length zc x.opn.length zc i ((i + 1 : Nat) : Int) ((s + 1 : Nat) : Int) s [.int .i64 ((i + 1 : Nat) : Int), ptr ci, .slice oo x.opn.length zo, .bool x.lv, .bool x.en, .int .i64 x.fk, .string x.ft] [.int .i64 ((i + 1 : Nat) : Int), ptr ci, .slice oc x.opn.length zc, .bool x.lv, .bool x.en, .int .i64 x.fk, .string x.ft] (.bool true) g g1 g2)
        ⟨A1, A2, A3, a_ld1 oX' rfl, stat20 2 (by simp), a_ld1 ob rfl, a_ld1 oX' rfl, ag.ld1 rfl hsi (by rw [cont_sc hy]; rfl), subI (by omega) (by omega) (by omega), offI (q := s) rfl hsl (by omega), a_ld1 gq (by simp [cL, hsl, hci, pvv]), a_st oX' (by simp) rfl, a_ld1 (get_set_eq oX') rfl, p1, a_st p2 (by simp) rfl, a_ld1 (get_set_eq p2) rfl, a_loop (by kernel_rfl) (.add (.add (.add (.add (.add (.add (.add (.add (.add (.nil _) rfl) rfl) rfl) rfl) rfl) rfl) rfl) rfl) rfl) p3 p4, A9, trivial⟩
      obtain ⟨E3, g9, σ3, w1, w2, w3, w4, w5, w6⟩ := ih (i + 1) E2 g2 σ' (by omega) (.trans (.add (.add (.add (.add (.add (.nil _) rfl) rfl) rfl) rfl) rfl) q1) (fun k e => by rw [p9] at e; cases e; exact ⟨rfl, rfl⟩) p5 p6 p7 p8
      exact ⟨E3, g9, σ3, w1, .step q2 w2, w3, w4, w5, w6⟩

/-- Copy: the same tree at new places. -/
theorem copy_run (a : TAt h ρ t) (ok : TOk c t) (hc : c ≤ 100000) (hr : ρ .root = some r) :
    ∃ b σ h', Run Try.prog 20 [ptr r] h (ptr b) h' ∧ TAt h' σ t ∧ Made h h' σ b := by
  obtain ⟨h1, hh1⟩ : ∃ h1, h1 = h ++ [AObj.cells [.slice none 0 0, .slice none 0 0] true] := ⟨_, rfl⟩
  have K1 : Keep (fun _ => False) h h1 := by rw [hh1]; exact (Keep.refl _ _).pushN _
  have hb1 : h1[h.length]? = some (.cells [.slice none 0 0, .slice none 0 0] true) := by rw [hh1]; exact get_new _ _
  obtain ⟨σ0, hσ⟩ : ∃ σ0 : Lay, σ0 = fun r => if r = .root then some h.length else none := ⟨_, rfl⟩
  have s0 : σ0 .root = some h.length := by rw [hσ]; simp
  have sn : ∀ r, r ≠ .root → σ0 r = none := fun r e => by rw [hσ]; simp [e]
  have only : ∀ r i, σ0 r = some i → r = .root ∧ i = h.length := fun r i e => by
    by_cases e1 : r = .root
    · subst e1; rw [s0] at e; cases e; exact ⟨rfl, rfl⟩
    · rw [sn r e1] at e; cases e
  have O0 : Ob h.length h1 σ0 (cL ρ σ0 t 0 0 0) := by
    refine ⟨fun r r' i e e' => by rw [(only r i e).1, (only r' i e').1], fun r i e => ?_, fun r i e => by rw [(only r i e).2]; exact Nat.le_refl _⟩
    obtain ⟨rfl, rfl⟩ := only r i e
    rw [hb1]; simp only [cL, sn .ts (by simp), sn .ss (by simp), slv]
  have D0 : Dm σ0 t 0 0 0 := ⟨fun k hk => absurd hk (Nat.not_lt_zero _), fun k hk => absurd hk (Nat.not_lt_zero _), fun _ => rfl, fun _ => rfl, fun k x hk => absurd hk (Nat.not_lt_zero _), fun k x hk => absurd hk (Nat.not_lt_zero _), fun k _ => sn _ (by simp), fun k _ => sn _ (by simp), fun k _ => ⟨sn _ (by simp), sn _ (by simp)⟩⟩
  obtain ⟨oa, za, e1, e1'⟩ := slv_ex (ρ .ts) t.tks.length (fun e => by rw [a.sh.ts e]; rfl)
  obtain ⟨ob, zb, e2, e2'⟩ := slv_ex (ρ .ss) t.scs.length (fun e => by rw [a.sh.ss e]; rfl)
  obtain ⟨E1, g1, σ1, w1, w2, w3, w4, w5, w6⟩ := copy0 (r := r) (b := h.length) a ok hr e1' t.tks.length 0 [(25, .int .i64 (0 : Nat)), (24, .int .i64 (Int.ofNat t.tks.length)), (23, .slice oa t.tks.length za), (3, ptr h.length), (0, ptr r)] h1 σ0 (by omega) (EnvLe.refl _) K1 O0 D0 s0
  obtain ⟨E2, g2, σ2, x1, x2, x3, x4, x5, x6⟩ := copy1 (r := r) (b := h.length) a ok hc hr e2' t.scs.length 0 [(47, .int .i64 (0 : Nat)), (46, .int .i64 (Int.ofNat t.scs.length)), (45, .slice ob t.scs.length zb), (3, ptr h.length), (0, ptr r)] g1 σ1 (by omega) (EnvLe.refl _) w3 w4 w5 w6
  obtain ⟨oc, zc, e3, e3'⟩ := slv_ex (σ2 .ts) t.tks.length x5.ts
  obtain ⟨E3, g3, σ3, y1, y2, y3, y4, y5, y6⟩ := copy3 (r := r) (b := h.length) (oa := oc) (za := zc) a ok hc hr t.tks.length 0 [(111, .int .i64 (0 : Nat)), (110, .int .i64 (Int.ofNat t.tks.length)), (109, .slice oc t.tks.length zc), (3, ptr h.length), (0, ptr r)] g2 σ2 (by omega) (EnvLe.refl _) e3' x3 x4 x5 x6
  have L : ∀ (Em E F : Env) (g g' : Hp), True := fun _ _ _ _ _ => trivial
  rw [hh1] at w2
  refine ⟨h.length, σ3, g3, pvF 0 Try.func20 (r27p.cp r h.length 0 oa ob oc t.tks.length t.scs.length t.tks.length za zb zc h g1 g2 g3)
    ⟨rfl, ?_, a_loop (by kernel_rfl) (.add (.add (.add (.add (.add (.nil _) rfl) rfl) rfl) rfl) rfl) w1 w2, ?_, a_loop (by kernel_rfl) (.add (.add (.add (.add (.add (.nil _) rfl) rfl) rfl) rfl) rfl) x1 x2, ?_, a_loop (by kernel_rfl) (.add (.add (.add (.add (.add (.nil _) rfl) rfl) rfl) rfl) rfl) y1 y2, trivial⟩, ?_, ?_⟩
  · rw [← e1]; exact (a.grow K1).hdT hr (by rw [hh1]; rfl)
  · rw [← e2]; exact (a.grow w3).hdS hr rfl
  · rw [← e3]; exact a_ld1 (x4.obj _ _ x6) rfl
  · have D := y5
    have O := y4
    refine ⟨⟨⟨_, y6⟩, D.tk, D.sc, fun e => List.length_eq_zero_iff.1 (D.ts e), fun e => List.length_eq_zero_iff.1 (D.ss e), fun k x hx e => D.op k x (get_lt' hx) hx e, fun k x hx e => D.st k x (get_lt' hx) hx e, fun k hk => ⟨D.otk k hk, D.oop k hk⟩, D.osc⟩, O.inj, fun r i e => ⟨[], ?_⟩⟩
    rw [List.append_nil, O.obj r i e]
    cases r with
    | tk k =>
      simp only [cL, cont]
      cases hk : t.tks[k]? with
      | none => rfl
      | some x => simp only [get_lt' hk, if_true]
    | root => rfl
    | ts => rfl
    | ss => rfl
    | op k => rfl
    | sc k => rfl
    | st k => rfl
  · exact ⟨y3, y6, fun q e => by obtain ⟨r', e⟩ := e; exact y4.lo _ _ e⟩
end

end Go.Proofs.Ytahomnlkkafbjaa.tr

namespace Go.Proofs.Ytahomnlkkafbjaa.tr
open Go Go.Ev
set_option maxRecDepth 100000
set_option linter.unusedVariables false
set_option linter.constructorNameAsVariable false

/-! ### Equal values are the same -/

/-- A slice of n things of z cells. -/
def SlG (h : Hp) (v : Value) (n z : Nat) (cs : List Value) : Prop :=
  cs.length = n * z ∧ ∃ oa za, v = .slice oa n za ∧ (n ≠ 0 → ∃ o junk rw, oa = some ⟨o, 0, none⟩ ∧ za = z ∧ h[o]? = some (.cells (cs ++ junk) rw))
theorem SlV.g {h : Hp} {lo n z : Nat} {v : Value} {cs : List Value} (a : SlV h lo v n z cs) : SlG h v n z cs := by
  rcases a with ⟨rfl, rfl, rfl⟩ | ⟨a1, a2, o, a3, a4, a5⟩
  · exact ⟨by simp, none, 0, rfl, fun e => absurd rfl e⟩
  · exact ⟨a2, _, _, a3, fun _ => ⟨o, [], true, rfl, rfl, by rw [List.append_nil]; exact a4⟩⟩
theorem SlG.keep {h h' : Hp} {n z : Nat} {v : Value} {cs : List Value} (a : SlG h v n z cs) (K : Keep (fun _ => False) h h') : SlG h' v n z cs := by
  obtain ⟨a1, oa, za, a2, a3⟩ := a
  refine ⟨a1, oa, za, a2, fun e => ?_⟩
  obtain ⟨o, junk, rw, b1, b2, b3⟩ := a3 e
  exact ⟨o, junk, rw, b1, b2, K.2 _ _ b3 id⟩

theorem lkL_at2 : ∀ {l : List (Option Nat)} {k : Nat} {v : Option Nat} (junk : List Value), l[k]? = some v → ((lkL l ++ junk).drop (k * 2)).take 2 = lkC v
  | [], k, v, _, h => by simp at h
  | y :: l, 0, v, _, h => by simp at h; subst h; simp [lkL, lkC_eq]
  | y :: l, k + 1, v, junk, h => by
    have := lkL_at2 (l := l) (k := k) (v := v) junk (by simpa using h)
    rw [lkL, List.append_assoc, List.drop_append, List.drop_of_length_le (by rw [lkC_len]; omega), List.nil_append, lkC_len, show (k + 1) * 2 - 2 = k * 2 by omega]
    exact this
theorem leaves44 : leaves Try.prog 8 44 = some (2, [(0, .int .i64), (1, .int .i64)]) := by kernel_rfl
theorem guard44 : Try.prog.eqGuardType Try.prog.depth 44 = false := by kernel_rfl
theorem leaves49 : leaves Try.prog 8 49 = some (5, [(0, .int .i64), (1, .int .i64), (2, .int .i64), (3, .int .i64), (4, .string)]) := by kernel_rfl
theorem guard49 : Try.prog.eqGuardType Try.prog.depth 49 = false := by kernel_rfl
theorem aeqT30 (k : Int) (s : ByteArray) : (Asm.aeq .eql 30 #[.int .i64 k, .string s] #[.int .i64 k, .string s] true).holds Try.prog := by
  refine ⟨rfl, rfl, .inl ⟨rfl, ?_⟩⟩
  simp [aggEq, leaves30, guard30, eqOffs, leafEq]
theorem aeqF44 (k n : Int) : (Asm.aeq .neq 44 #[.int .i64 k, .int .i64 n] #[.int .i64 k, .int .i64 n] false).holds Try.prog := by
  refine ⟨rfl, rfl, .inr ⟨rfl, ?_⟩⟩
  simp [aggEq, leaves44, guard44, eqOffs, leafEq]
theorem aeqF49 (k n m f : Int) (s : ByteArray) : (Asm.aeq .neq 49 #[.int .i64 k, .int .i64 n, .int .i64 m, .int .i64 f, .string s] #[.int .i64 k, .int .i64 n, .int .i64 m, .int .i64 f, .string s] false).holds Try.prog := by
  refine ⟨rfl, rfl, .inr ⟨rfl, ?_⟩⟩
  simp [aggEq, leaves49, guard49, eqOffs, leafEq]
theorem stat54 : (Asm.stat (drawN Try.f54 0)).holds Try.prog := show statOk (drawN Try.f54 0) = true by kernel_rfl
theorem stat29 : (Asm.stat (drawN Try.f29 0)).holds Try.prog := show statOk (drawN Try.f29 0) = true by kernel_rfl

section
variable {h : Hp}

theorem sameLinks_loop {l : List (Option Nat)} {oa ob : Option Addr} {za zb : Nat} (hb : l.length ≤ 1000000) (A : l.length ≠ 0 → ∃ o junk rw, oa = some ⟨o, 0, none⟩ ∧ za = 2 ∧ h[o]? = some (.cells (lkL l ++ junk) rw)) (B : l.length ≠ 0 → ∃ o junk rw, ob = some ⟨o, 0, none⟩ ∧ zb = 2 ∧ h[o]? = some (.cells (lkL l ++ junk) rw)) :
    ∀ (j i : Nat) (E : Env) (g : Hp), i + j = l.length → EnvLe [(14, .int .i64 (i : Int)), (13, .int .i64 (Int.ofNat l.length)), (12, .slice oa l.length za), (1, .slice ob l.length zb), (0, .slice oa l.length za)] E → Keep (fun _ => False) h g →
      ∃ E1 g', LRun Try.prog 26 false (loopN Try.f54 0) E g (.exit 0) E1 g' ∧ Keep (fun _ => False) h g' := by
  intro j
  induction j with
  | zero =>
    intro i E g hi hE K
    have e : i = l.length := by omega
    subst e
    obtain ⟨E2, q1, q2⟩ := pvC 0 hE (r30p.gk_out oa ob l.length za zb l.length g) ⟨ltF (by simp), trivial⟩
    exact ⟨E2, g, .last q2 (by simp), K⟩
  | succ j ih =>
    intro i E g hi hE K
    obtain ⟨w, hw⟩ : ∃ w, l[i]? = some w := ⟨_, List.getElem?_eq_getElem (by omega)⟩
    obtain ⟨o, junk, rw1, rfl, rfl, ho⟩ := A (by omega)
    obtain ⟨o', junk', rw2, rfl, rfl, ho'⟩ := B (by omega)
    have ll := lkL_len l
    have ho1 := K.2 _ _ ho id
    have ho2 := K.2 _ _ ho' id
    have a1 := lkL_at2 junk hw
    have a2 := lkL_at2 junk' hw
    rw [lkC_eq] at a1 a2
    have G : ∀ o, (g ++ [AObj.cells [.int .i64 0, .int .i64 0] true] |>.set g.length o)[g.length]? = some o := fun o => get_set_eq (get_new _ _)
    have K1 : Keep (fun _ => False) g ((g ++ [AObj.cells [.int .i64 0, .int .i64 0] true]).set g.length (.cells [.int .i64 (lkK w), .int .i64 (lkN w)] true)) := ((Keep.refl (fun _ => False) g).pushN _).setN (Nat.le_refl _) _
    obtain ⟨E2, q1, q2⟩ := pvC 0 hE (r30p.gk_go o o' l.length (i * 2) g.length i ((i + 1 : Nat) : Int) (lkK w) (lkN w) g)
      ⟨ltT (by simp; omega), offI (q := i) rfl (by omega) (by omega), a_ldn ho1 (by simp; omega) a1, rfl, a_st (get_new _ _) (by simp) rfl, stat54, a_ldn (G _) (by simp) rfl, offI (q := i) rfl (by omega) (by omega), a_ldn (K1.2 _ _ ho2 id) (by simp; omega) a2, aeqF44 _ _, addI rfl (by omega) (by omega), trivial⟩
    obtain ⟨E3, g3, s1, s2⟩ := ih (i + 1) E2 _ (by omega) (.trans (.add (.add (.add (.add (.add (.nil _) rfl) rfl) rfl) rfl) rfl) q1) (K.trans K1)
    exact ⟨E3, g3, .step q2 s1, s2⟩

theorem sameLinks_run {l : List (Option Nat)} {v v' : Value} (hb : l.length ≤ 1000000) (A : SlG h v l.length 2 (lkL l)) (B : SlG h v' l.length 2 (lkL l)) : ∃ h', Run Try.prog 54 [v, v'] h (.bool true) h' ∧ Keep (fun _ => False) h h' := by
  obtain ⟨_, oa, za, rfl, A⟩ := A
  obtain ⟨_, ob, zb, rfl, B⟩ := B
  obtain ⟨E1, g', q1, q2⟩ := sameLinks_loop hb A B l.length 0 [(14, .int .i64 (0 : Nat)), (13, .int .i64 (Int.ofNat l.length)), (12, .slice oa l.length za), (1, .slice ob l.length zb), (0, .slice oa l.length za)] h (by omega) (EnvLe.refl _) (Keep.refl _ _)
  exact ⟨g', pvF 0 Try.func54 (r30p.gk oa ob l.length za zb h g') ⟨neF rfl, a_loop (by kernel_rfl) (.add (.add (.add (.add (.add (.nil _) rfl) rfl) rfl) rfl) rfl) (.nil _) q1, trivial⟩, q2⟩

theorem sameTask_run (w : TkV) {v v' : Value} (hb : w.op.length ≤ 1000000) (A : SlG h v w.op.length 2 (lkL w.op)) (B : SlG h v' w.op.length 2 (lkL w.op)) :
    ∃ h', Run Try.prog 34 [.agg (w.C v).toArray, .agg (w.C v').toArray] h (.bool true) h' ∧ Keep (fun _ => False) h h' := by
  have K0 : Keep (fun _ => False) h (h ++ [AObj.cells (w.C v) true] ++ [AObj.cells (w.C v') true]) := ((Keep.refl (fun _ => False) h).pushN _).pushN _
  obtain ⟨g', r1, K1⟩ := sameLinks_run hb (A.keep K0) (B.keep K0)
  have g2 : (h ++ [AObj.cells (w.C v) true] ++ [AObj.cells (w.C v') true])[h.length]? = some (.cells (w.C v) true) := get_push (get_new _ _)
  have g3 : (h ++ [AObj.cells (w.C v) true] ++ [AObj.cells (w.C v') true])[h.length + 1]? = some (.cells (w.C v') true) := get_new' _ (push_len _ _)
  obtain ⟨_, oa, za, rfl, _⟩ := A
  obtain ⟨_, ob, zb, rfl, _⟩ := B
  obtain ⟨sc, en, lv, fk, ft, op⟩ := w
  have e0 := push_len h (AObj.cells (TkV.C ⟨sc, en, lv, fk, ft, op⟩ (.slice oa op.length za)) true)
  cases en <;> cases lv
  · exact ⟨g', pvF 0 Try.func34 (r13p.st_00 h.length (h.length + 1) sc fk ft oa ob op.length op.length za zb h g') ⟨rfl, e0, a_ld1 g2 rfl, a_ld1 g3 rfl, eqT rfl, a_ld1 g2 rfl, a_ld1 g3 rfl, a_ld1 g2 rfl, a_ld1 g3 rfl, a_ldn g2 (by simp [TkV.C]) rfl, a_ldn g3 (by simp [TkV.C]) rfl, aeqT30 _ _, a_ld1 g2 rfl, a_ld1 g3 rfl, r1, trivial⟩, K0.trans K1⟩
  · exact ⟨g', pvF 0 Try.func34 (r13p.st_01 h.length (h.length + 1) sc fk ft oa ob op.length op.length za zb h g') ⟨rfl, e0, a_ld1 g2 rfl, a_ld1 g3 rfl, eqT rfl, a_ld1 g2 rfl, a_ld1 g3 rfl, a_ld1 g2 rfl, a_ld1 g3 rfl, a_ldn g2 (by simp [TkV.C]) rfl, a_ldn g3 (by simp [TkV.C]) rfl, aeqT30 _ _, a_ld1 g2 rfl, a_ld1 g3 rfl, r1, trivial⟩, K0.trans K1⟩
  · exact ⟨g', pvF 0 Try.func34 (r13p.st_10 h.length (h.length + 1) sc fk ft oa ob op.length op.length za zb h g') ⟨rfl, e0, a_ld1 g2 rfl, a_ld1 g3 rfl, eqT rfl, a_ld1 g2 rfl, a_ld1 g3 rfl, a_ld1 g2 rfl, a_ld1 g3 rfl, a_ldn g2 (by simp [TkV.C]) rfl, a_ldn g3 (by simp [TkV.C]) rfl, aeqT30 _ _, a_ld1 g2 rfl, a_ld1 g3 rfl, r1, trivial⟩, K0.trans K1⟩
  · exact ⟨g', pvF 0 Try.func34 (r13p.st_11 h.length (h.length + 1) sc fk ft oa ob op.length op.length za zb h g') ⟨rfl, e0, a_ld1 g2 rfl, a_ld1 g3 rfl, eqT rfl, a_ld1 g2 rfl, a_ld1 g3 rfl, a_ld1 g2 rfl, a_ld1 g3 rfl, a_ldn g2 (by simp [TkV.C]) rfl, a_ldn g3 (by simp [TkV.C]) rfl, aeqT30 _ _, a_ld1 g2 rfl, a_ld1 g3 rfl, r1, trivial⟩, K0.trans K1⟩

theorem sameScope_loop {l : List Nat} {oa ob : Option Addr} {za zb b3 : Nat} {e0 e1 e2 e4 e5 : Value} (hb : l.length ≤ 1000000) (A : l.length ≠ 0 → ∃ o junk rw, oa = some ⟨o, 0, none⟩ ∧ za = 1 ∧ h[o]? = some (.cells (nmL l ++ junk) rw)) (B : l.length ≠ 0 → ∃ o junk rw, ob = some ⟨o, 0, none⟩ ∧ zb = 1 ∧ h[o]? = some (.cells (nmL l ++ junk) rw))
    (h3 : h[b3]? = some (.cells [e0, e1, e2, .slice ob l.length zb, e4, e5] true)) :
    ∀ (j i : Nat) (E : Env), i + j = l.length → EnvLe [(45, .int .i64 (i : Int)), (44, .int .i64 (Int.ofNat l.length)), (43, .slice oa l.length za), (3, ptr b3)] E →
      ∃ E1, LRun Try.prog 58 false (loopN Try.f35 0) E h (.exit 0) E1 h := by
  intro j
  induction j with
  | zero =>
    intro i E hi hE
    have e : i = l.length := by omega
    subst e
    obtain ⟨E2, q1, q2⟩ := pvC 0 hE (r30p.gs_out b3 l.length za oa l.length h) ⟨ltF (by simp), trivial⟩
    exact ⟨E2, .last q2 (by simp)⟩
  | succ j ih =>
    intro i E hi hE
    obtain ⟨w, hw⟩ : ∃ w, l[i]? = some w := ⟨_, List.getElem?_eq_getElem (by omega)⟩
    obtain ⟨o, junk, rw1, rfl, rfl, ho⟩ := A (by omega)
    obtain ⟨o', junk', rw2, rfl, rfl, ho'⟩ := B (by omega)
    have nm : ∀ junk : List Value, (nmL l ++ junk)[i]? = some (.int .i64 ((w + 1 : Nat) : Int)) := fun junk => by
      rw [List.getElem?_append_left (by rw [nmL_len]; omega), nmL, List.getElem?_map, hw]; rfl
    obtain ⟨E2, q1, q2⟩ := pvC 0 hE (r13p.ss_go b3 o o' l.length i i ((i + 1 : Nat) : Int) ((w + 1 : Nat) : Int) h)
      ⟨ltT (by simp; omega), offI (q := i) rfl (by omega) (by omega), a_ld1 ho (nm _), a_ld1 h3 rfl, offI (q := i) rfl (by omega) (by omega), a_ld1 ho' (nm _), neF rfl, addI rfl (by omega) (by omega), trivial⟩
    obtain ⟨E3, s1⟩ := ih (i + 1) E2 (by omega) (.trans (.add (.add (.add (.add (.nil _) rfl) rfl) rfl) rfl) q1)
    exact ⟨E3, .step q2 s1⟩

theorem sameScope_run (w : ScV) {v v' : Value} (hb : w.tk.length ≤ 1000000) (A : SlG h v w.tk.length 1 (nmL w.tk)) (B : SlG h v' w.tk.length 1 (nmL w.tk)) :
    ∃ h', Run Try.prog 35 [.agg (w.C v).toArray, .agg (w.C v').toArray] h (.bool true) h' ∧ Keep (fun _ => False) h h' := by
  have K0 : Keep (fun _ => False) h (h ++ [AObj.cells (w.C v) true] ++ [AObj.cells (w.C v') true]) := ((Keep.refl (fun _ => False) h).pushN _).pushN _
  have A0 := A.keep K0
  have B0 := B.keep K0
  have g2 : (h ++ [AObj.cells (w.C v) true] ++ [AObj.cells (w.C v') true])[h.length]? = some (.cells (w.C v) true) := get_push (get_new _ _)
  have g3 : (h ++ [AObj.cells (w.C v) true] ++ [AObj.cells (w.C v') true])[h.length + 1]? = some (.cells (w.C v') true) := get_new' _ (push_len _ _)
  obtain ⟨_, oa, za, rfl, _⟩ := A
  obtain ⟨_, ob, zb, rfl, _⟩ := B
  obtain ⟨ow, su, ov, tk, fk, ft⟩ := w
  obtain ⟨_, oa', za', e1, A0⟩ := A0
  obtain ⟨_, ob', zb', e2, B0⟩ := B0
  cases e1; cases e2
  have e0 := push_len h (AObj.cells (ScV.C ⟨ow, su, ov, tk, fk, ft⟩ (.slice oa tk.length za)) true)
  obtain ⟨E1, q1⟩ := sameScope_loop hb A0 B0 g3 tk.length 0 [(45, .int .i64 (0 : Nat)), (44, .int .i64 (Int.ofNat tk.length)), (43, .slice oa tk.length za), (3, ptr (h.length + 1))] (by simp) (EnvLe.refl _)
  cases su <;> cases ov
  · exact ⟨_, pvF 0 Try.func35 (r30p.gs_00 h.length (h.length + 1) tk.length za zb ow fk ft oa ob h _) ⟨rfl, e0, a_ld1 g2 rfl, a_ld1 g3 rfl, neF rfl, a_ld1 g2 rfl, a_ld1 g3 rfl, a_ld1 g2 rfl, a_ld1 g3 rfl, a_ldn g2 (by simp [ScV.C]) rfl, a_ldn g3 (by simp [ScV.C]) rfl, aeqF _ _, a_ld1 g2 rfl, a_ld1 g3 rfl, neF rfl, a_ld1 g2 rfl, a_loop (by kernel_rfl) (.add (.add (.add (.add (.nil _) rfl) rfl) rfl) rfl) (.nil _) q1, trivial⟩, K0⟩
  · exact ⟨_, pvF 0 Try.func35 (r30p.gs_01 h.length (h.length + 1) tk.length za zb ow fk ft oa ob h _) ⟨rfl, e0, a_ld1 g2 rfl, a_ld1 g3 rfl, neF rfl, a_ld1 g2 rfl, a_ld1 g3 rfl, a_ld1 g2 rfl, a_ld1 g3 rfl, a_ldn g2 (by simp [ScV.C]) rfl, a_ldn g3 (by simp [ScV.C]) rfl, aeqF _ _, a_ld1 g2 rfl, a_ld1 g3 rfl, neF rfl, a_ld1 g2 rfl, a_loop (by kernel_rfl) (.add (.add (.add (.add (.nil _) rfl) rfl) rfl) rfl) (.nil _) q1, trivial⟩, K0⟩
  · exact ⟨_, pvF 0 Try.func35 (r30p.gs_10 h.length (h.length + 1) tk.length za zb ow fk ft oa ob h _) ⟨rfl, e0, a_ld1 g2 rfl, a_ld1 g3 rfl, neF rfl, a_ld1 g2 rfl, a_ld1 g3 rfl, a_ld1 g2 rfl, a_ld1 g3 rfl, a_ldn g2 (by simp [ScV.C]) rfl, a_ldn g3 (by simp [ScV.C]) rfl, aeqF _ _, a_ld1 g2 rfl, a_ld1 g3 rfl, neF rfl, a_ld1 g2 rfl, a_loop (by kernel_rfl) (.add (.add (.add (.add (.nil _) rfl) rfl) rfl) rfl) (.nil _) q1, trivial⟩, K0⟩
  · exact ⟨_, pvF 0 Try.func35 (r30p.gs_11 h.length (h.length + 1) tk.length za zb ow fk ft oa ob h _) ⟨rfl, e0, a_ld1 g2 rfl, a_ld1 g3 rfl, neF rfl, a_ld1 g2 rfl, a_ld1 g3 rfl, a_ld1 g2 rfl, a_ld1 g3 rfl, a_ldn g2 (by simp [ScV.C]) rfl, a_ldn g3 (by simp [ScV.C]) rfl, aeqF _ _, a_ld1 g2 rfl, a_ld1 g3 rfl, neF rfl, a_ld1 g2 rfl, a_loop (by kernel_rfl) (.add (.add (.add (.add (.nil _) rfl) rfl) rfl) rfl) (.nil _) q1, trivial⟩, K0⟩

/-! ### Equal rows of effects -/

theorem equalEf_loop {l : List Ef} {oa ob : Option Addr} {za zb : Nat} (hb : l.length ≤ 1000000) (A : l.length ≠ 0 → ∃ o junk rw, oa = some ⟨o, 0, none⟩ ∧ za = 5 ∧ h[o]? = some (.cells (efC l ++ junk) rw)) (B : l.length ≠ 0 → ∃ o junk rw, ob = some ⟨o, 0, none⟩ ∧ zb = 5 ∧ h[o]? = some (.cells (efC l ++ junk) rw)) :
    ∀ (j i : Nat) (E : Env), i + j = l.length → EnvLe [(13, .int .i64 (i : Int)), (12, .int .i64 (Int.ofNat l.length)), (1, .slice ob l.length zb), (0, .slice oa l.length za)] E →
      ∃ E1, LRun Try.prog 26 false (loopN Try.f29 0) E h (.exit 0) E1 h := by
  intro j
  induction j with
  | zero =>
    intro i E hi hE
    have e : i = l.length := by omega
    subst e
    obtain ⟨E2, q1, q2⟩ := pvC 0 hE (r30p.eq_out oa ob l.length za zb l.length h) ⟨ltF (by simp), trivial⟩
    exact ⟨E2, .last q2 (by simp)⟩
  | succ j ih =>
    intro i E hi hE
    obtain ⟨w, hw⟩ : ∃ w, l[i]? = some w := ⟨_, List.getElem?_eq_getElem (by omega)⟩
    obtain ⟨o, junk, rw1, rfl, rfl, ho⟩ := A (by omega)
    obtain ⟨o', junk', rw2, rfl, rfl, ho'⟩ := B (by omega)
    have ll := efC_len l
    have a1 : ∀ junk : List Value, ((efC l ++ junk).drop (i * 5)).take 5 = w.cells := fun junk => by
      rw [List.drop_append_of_le_length (by omega), List.take_append_of_le_length (by simp; omega)]
      exact efC_at hw
    obtain ⟨E2, q1, q2⟩ := pvC 0 hE (r30p.eq_go o o' l.length (i * 5) i ((i + 1 : Nat) : Int) w.kind w.n w.m w.fk w.ft h)
      ⟨ltT (by simp; omega), stat29, offI (q := i) rfl (by omega) (by omega), a_ldn ho (by simp; omega) (a1 _), offI (q := i) rfl (by omega) (by omega), a_ldn ho' (by simp; omega) (a1 _), aeqF49 _ _ _ _ _, addI rfl (by omega) (by omega), trivial⟩
    obtain ⟨E3, s1⟩ := ih (i + 1) E2 (by omega) (.trans (.add (.add (.add (.add (.nil _) rfl) rfl) rfl) rfl) q1)
    exact ⟨E3, .step q2 s1⟩
theorem equalEf_run {l : List Ef} {v v' : Value} (hb : l.length ≤ 1000000) (A : SlG h v l.length 5 (efC l)) (B : SlG h v' l.length 5 (efC l)) : Run Try.prog 29 [v, v'] h (.bool true) h := by
  obtain ⟨_, oa, za, rfl, A⟩ := A
  obtain ⟨_, ob, zb, rfl, B⟩ := B
  obtain ⟨E1, q1⟩ := equalEf_loop hb A B l.length 0 [(13, .int .i64 (0 : Nat)), (12, .int .i64 (Int.ofNat l.length)), (1, .slice ob l.length zb), (0, .slice oa l.length za)] (by omega) (EnvLe.refl _)
  exact pvF 0 Try.func29 (r30p.eq oa ob l.length za zb h h) ⟨neF rfl, a_loop (by kernel_rfl) (.add (.add (.add (.add (.nil _) rfl) rfl) rfl) rfl) (.nil _) q1, trivial⟩
end

/-! ### Two trees alike -/

theorem task_len {t : TS} {c : Nat} (ok : TOk c t) (hc : c ≤ 100000) (n : Int) : (t.task n).1.op.length ≤ 1000000 := by
  unfold TS.task
  split
  · simp [TkV.zero]
  · split
    · rename_i x hx
      have := ok.len _ x hx
      simp only [tkV]; omega
    · simp [TkV.zero]
theorem sco_len {t : TS} {c : Nat} (ok : TOk c t) (hc : c ≤ 100000) (n : Int) : (t.sco n).1.tk.length ≤ 1000000 := by
  unfold TS.sco
  split
  · split
    · rename_i y hy
      have := ok.mlen _ y hy
      simp only [scV]; omega
    · simp [ScV.zero]
  · simp [ScV.zero]

section
variable {h : Hp} {ρ σ : Lay} {t : TS} {c r s : Nat}

theorem alike_run (a : TAt h ρ t) (a' : TAt h σ t) (ok : TOk c t) (hc : c ≤ 100000) (hr : ρ .root = some r) (hs : σ .root = some s) : ∃ h', Run Try.prog 25 [ptr r, ptr s] h (.bool true) h' ∧ Keep (fun _ => False) h h' := by
  have L0 : ∀ (j i : Nat) (E : Env) (g : Hp), i + j = 65 → 1 ≤ i → EnvLe [(5, .int .i64 (i : Int)), (1, ptr s), (0, ptr r)] E → Keep (fun _ => False) h g →
      ∃ E1 g', EnvLe [(1, ptr s), (0, ptr r)] E1 ∧ LRun Try.prog 67 false (loopN Try.f25 0) E g (.exit 0) E1 g' ∧ Keep (fun _ => False) h g' := by
    intro j
    induction j with
    | zero =>
      intro i E g hi h1 hE K
      obtain ⟨E2, q1, q2⟩ := pvC 0 hE (r30p.al0_out r s 0 0 0 0 0 0 none none i 0 0 0 0 false false ⟨#[]⟩ g g g g) ⟨leF (by omega), trivial⟩
      exact ⟨E2, g, .trans (.add (.add (.nil _) rfl) rfl) q1, .last q2 (by simp), K⟩
    | succ j ih =>
      intro i E g hi h1 hE K
      obtain ⟨v1, g1, r1, K1, V1⟩ := task_run (a.grow K) ok hc hr (i : Int)
      obtain ⟨_, oa, za, e1, V1'⟩ := V1.g
      obtain ⟨d0, hd0⟩ : ∃ d0 : List Value, d0 = [.int .i64 0, .bool false, .bool false, .int .i64 0, .string ⟨#[]⟩, .slice none 0 0] := ⟨_, rfl⟩
      have Ka : Keep (fun _ => False) g1 ((g1 ++ [AObj.cells d0 true]).set g1.length (.cells ((t.task i).1.C v1) true)) := ((Keep.refl (fun _ => False) g1).pushN _).setN (Nat.le_refl _) _
      have Da : ((g1 ++ [AObj.cells d0 true]).set g1.length (.cells ((t.task i).1.C v1) true))[g1.length]? = some (.cells ((t.task i).1.C v1) true) := get_set_eq (get_new _ _)
      obtain ⟨v2, g2, r2, K2, V2⟩ := task_run (a'.grow (K.trans (K1.trans Ka))) ok hc hs (i : Int)
      obtain ⟨_, ob, zb, e2, V2'⟩ := V2.g
      have Kb : Keep (fun _ => False) g2 ((g2 ++ [AObj.cells d0 true]).set g2.length (.cells ((t.task i).1.C v2) true)) := ((Keep.refl (fun _ => False) g2).pushN _).setN (Nat.le_refl _) _
      have Db : ((g2 ++ [AObj.cells d0 true]).set g2.length (.cells ((t.task i).1.C v2) true))[g2.length]? = some (.cells ((t.task i).1.C v2) true) := get_set_eq (get_new _ _)
      have Dab := Kb.2 _ _ (K2.2 _ _ Da id) id
      obtain ⟨g3, r3, K3⟩ := sameTask_run (t.task i).1 (task_len ok hc i) ((V1.g.keep Ka).keep (K2.trans Kb)) (V2.g.keep Kb)
      subst e1; subst e2
      obtain ⟨w, e, hw⟩ : ∃ w e, t.task i = (w, e) := ⟨_, _, rfl⟩
      rw [hw] at r1 r2 r3 Da Db Dab
      rw [hw] at V1' V2'
      obtain ⟨E2, q1, q2⟩ := pvC 0 hE (r30p.al0_go r s g1.length g2.length w.op.length za w.op.length zb oa ob i ((i + 1 : Nat) : Int) w.sc w.fk e w.en w.lv w.ft g g1 g2 g3)
        ⟨leT (by omega), by rw [hw] at *; exact r1, rfl, by rw [← hd0]; exact a_st (get_new _ _) (by simp [hd0]) (by rw [hd0]; rfl), by rw [← hd0]; rw [hw] at *; exact r2, rfl, by rw [← hd0]; exact a_st (get_new _ _) (by simp [hd0]) (by rw [hd0]; rfl), neF rfl, by rw [← hd0]; rw [hw] at *; exact a_ldn Dab (by simp [TkV.C]) rfl, by rw [← hd0]; rw [hw] at *; exact a_ldn Db (by simp [TkV.C]) rfl, by rw [← hd0]; rw [hw] at *; exact r3, addI rfl (by omega) (by omega), trivial⟩
      obtain ⟨E3, g5, s1, s2, s3⟩ := ih (i + 1) E2 g3 (by omega) (by omega) (.trans (.add (.add (.add (.nil _) rfl) rfl) rfl) q1) (K.trans (K1.trans (Ka.trans (K2.trans (Kb.trans K3)))))
      exact ⟨E3, g5, s1, .step q2 s2, s3⟩
  have L1 : ∀ (j i : Nat) (E : Env) (g : Hp), i + j = 201 → 1 ≤ i → EnvLe [(10, .int .i64 (i : Int)), (1, ptr s), (0, ptr r)] E → Keep (fun _ => False) h g →
      ∃ E1 g', LRun Try.prog 67 false (loopN Try.f25 1) E g (.exit 2) E1 g' ∧ Keep (fun _ => False) h g' := by
    intro j
    induction j with
    | zero =>
      intro i E g hi h1 hE K
      obtain ⟨E2, q1, q2⟩ := pvC 0 hE (r30p.al1_out r s 0 0 0 0 0 0 none none i 0 0 0 0 false false ⟨#[]⟩ g g g g) ⟨leF (by omega), trivial⟩
      exact ⟨E2, g, .last q2 (by simp), K⟩
    | succ j ih =>
      intro i E g hi h1 hE K
      obtain ⟨v1, g1, r1, K1, V1⟩ := sco_run (a.grow K) ok hc hr (i : Int)
      obtain ⟨_, oa, za, e1, V1'⟩ := V1.g
      obtain ⟨d0, hd0⟩ : ∃ d0 : List Value, d0 = [.int .i64 0, .bool false, .bool false, .slice none 0 0, .int .i64 0, .string ⟨#[]⟩] := ⟨_, rfl⟩
      have Ka : Keep (fun _ => False) g1 ((g1 ++ [AObj.cells d0 true]).set g1.length (.cells ((t.sco i).1.C v1) true)) := ((Keep.refl (fun _ => False) g1).pushN _).setN (Nat.le_refl _) _
      have Da : ((g1 ++ [AObj.cells d0 true]).set g1.length (.cells ((t.sco i).1.C v1) true))[g1.length]? = some (.cells ((t.sco i).1.C v1) true) := get_set_eq (get_new _ _)
      obtain ⟨v2, g2, r2, K2, V2⟩ := sco_run (a'.grow (K.trans (K1.trans Ka))) ok hc hs (i : Int)
      obtain ⟨_, ob, zb, e2, V2'⟩ := V2.g
      have Kb : Keep (fun _ => False) g2 ((g2 ++ [AObj.cells d0 true]).set g2.length (.cells ((t.sco i).1.C v2) true)) := ((Keep.refl (fun _ => False) g2).pushN _).setN (Nat.le_refl _) _
      have Db : ((g2 ++ [AObj.cells d0 true]).set g2.length (.cells ((t.sco i).1.C v2) true))[g2.length]? = some (.cells ((t.sco i).1.C v2) true) := get_set_eq (get_new _ _)
      have Dab := Kb.2 _ _ (K2.2 _ _ Da id) id
      obtain ⟨g3, r3, K3⟩ := sameScope_run (t.sco i).1 (sco_len ok hc i) ((V1.g.keep Ka).keep (K2.trans Kb)) (V2.g.keep Kb)
      subst e1; subst e2
      obtain ⟨w, e, hw⟩ : ∃ w e, t.sco i = (w, e) := ⟨_, _, rfl⟩
      rw [hw] at r1 r2 r3 Da Db Dab
      rw [hw] at V1' V2'
      by_cases ce : e = 0
      · obtain ⟨E2, q1, q2⟩ := pvC 0 hE (r30p.al1_go r s g1.length g2.length w.tk.length za w.tk.length zb oa ob i ((i + 1 : Nat) : Int) w.ow w.fk e w.su w.ov w.ft g g1 g2 g3)
          ⟨leT (by omega), by rw [hw] at *; exact r1, rfl, by rw [← hd0]; exact a_st (get_new _ _) (by simp [hd0]) (by rw [hd0]; rfl), by rw [← hd0]; rw [hw] at *; exact r2, rfl, by rw [← hd0]; exact a_st (get_new _ _) (by simp [hd0]) (by rw [hd0]; rfl), neF rfl, by rw [← hd0]; rw [hw] at *; exact a_ldn Dab (by simp [ScV.C]) rfl, by rw [← hd0]; rw [hw] at *; exact a_ldn Db (by simp [ScV.C]) rfl, by rw [← hd0]; rw [hw] at *; exact r3, neF ce, addI rfl (by omega) (by omega), trivial⟩
        obtain ⟨E3, g5, s2, s3⟩ := ih (i + 1) E2 g3 (by omega) (by omega) (.trans (.add (.add (.add (.nil _) rfl) rfl) rfl) q1) (K.trans (K1.trans (Ka.trans (K2.trans (Kb.trans K3)))))
        exact ⟨E3, g5, .step q2 s2, s3⟩
      · obtain ⟨E2, q1, q2⟩ := pvC 0 hE (r30p.al1_end r s g1.length g2.length w.tk.length za w.tk.length zb oa ob i ((i + 1 : Nat) : Int) w.ow w.fk e w.su w.ov w.ft g g1 g2 g3)
          ⟨leT (by omega), by rw [hw] at *; exact r1, rfl, by rw [← hd0]; exact a_st (get_new _ _) (by simp [hd0]) (by rw [hd0]; rfl), by rw [← hd0]; rw [hw] at *; exact r2, rfl, by rw [← hd0]; exact a_st (get_new _ _) (by simp [hd0]) (by rw [hd0]; rfl), neF rfl, by rw [← hd0]; rw [hw] at *; exact a_ldn Dab (by simp [ScV.C]) rfl, by rw [← hd0]; rw [hw] at *; exact a_ldn Db (by simp [ScV.C]) rfl, by rw [← hd0]; rw [hw] at *; exact r3, neT ce, trivial⟩
        exact ⟨E2, g3, .last q2 (by simp), K.trans (K1.trans (Ka.trans (K2.trans (Kb.trans K3))))⟩
  obtain ⟨E1, g1, a1, a2, a3⟩ := L0 64 1 [(5, .int .i64 (1 : Nat)), (1, ptr s), (0, ptr r)] h (by omega) (by omega) (EnvLe.refl _) (Keep.refl _ _)
  obtain ⟨E2, g2, b2, b3⟩ := L1 200 1 [(10, .int .i64 (1 : Nat)), (1, ptr s), (0, ptr r)] g1 (by omega) (by omega) (EnvLe.refl _) a3
  exact ⟨g2, pvF 0 Try.func25 (r30p.al r s h g1 g2) ⟨a_loop (by kernel_rfl) (.add (.add (.add (.nil _) rfl) rfl) rfl) a1 a2, a_loop (by kernel_rfl) (.add (.add (.add (.nil _) rfl) rfl) rfl) (.nil _) b2, trivial⟩, b3⟩
end

end Go.Proofs.Ytahomnlkkafbjaa.tr

namespace Go.Proofs.Ytahomnlkkafbjaa.tr
open Go Go.Ev
set_option maxRecDepth 100000
set_option linter.unusedVariables false
set_option linter.constructorNameAsVariable false

/-! ### TreeRefuses -/

theorem OpsAt.grow {h g : Hp} {v : Value} {l : List OpV} (a : OpsAt h v l) (K : Keep (fun _ => False) h g) : OpsAt g v l := by
  rcases a with a | ⟨o, rw, e1, e2⟩
  · exact .inl a
  · exact .inr ⟨o, rw, e1, K.2 _ _ e2 id⟩

def Apart (ρ σ : Lay) : Prop := ∀ q, fpT ρ q → ¬ fpT σ q
theorem Apart.symm {ρ σ : Lay} (a : Apart ρ σ) : Apart σ ρ := fun q h k => a q k h
theorem Apart.step {ρ ρ' σ : Lay} {h h' : Hp} {t : TS} (a : Apart ρ σ) (S : Step ρ h ρ' h') (b : TAt h σ t) : Apart ρ' σ := fun q e f => (S.new q e).elim (fun e => a q e f) fun e => b.out e f
theorem TAt.apart {ρ ρ' σ : Lay} {h h' : Hp} {t : TS} (b : TAt h σ t) (a : Apart ρ σ) (S : Step ρ h ρ' h') : TAt h' σ t := b.keep S.keep a
theorem Made.apart {h g : Hp} {ρ σ : Lay} {b : Nat} {t : TS} (m : Made h g σ b) (a : TAt h ρ t) : Apart ρ σ := fun q e f => a.out (m.new q f) e

/-! ### TreeCopies -/

def TS.effL (t : TS) : List OpV → List Ef
  | [] => []
  | o :: l => (t.run o).2 ++ (t.run o).1.effL l
theorem effL_app (l m : List OpV) : ∀ t : TS, t.effL (l ++ m) = t.effL l ++ (t.runL l).effL m := by
  induction l with
  | nil => intro t; rfl
  | cons o l ih => intro t; simp only [List.cons_append, TS.effL, ih, List.append_assoc]; rfl
theorem effL_one (t : TS) (o : OpV) : t.effL [o] = (t.run o).2 := by simp [TS.effL]
theorem run_len (t : TS) (x : OpV) : (t.run x).2.length ≤ 1000 := by rw [← told_run'.2]; exact told_len t x
theorem effL_len : ∀ (l : List OpV) (t : TS), (t.effL l).length ≤ l.length * 1000
  | [], t => by simp [TS.effL]
  | o :: l, t => by
    have := effL_len l (t.run o).1
    have := run_len t o
    simp only [TS.effL, List.length_append, List.length_cons]
    omega

theorem EfV.sl {h : Hp} {lo : Nat} {ρ : Lay} {v : Value} {l : List Ef} (a : EfV h lo ρ v l) : SlG h v l.length 5 (efC l) := by
  rcases a with ⟨rfl, rfl⟩ | ⟨a1, o, a2, a3, _⟩
  · exact ⟨rfl, none, 0, rfl, fun e => absurd rfl e⟩
  · exact ⟨efC_len l, _, _, a2, fun _ => ⟨o, [], true, rfl, rfl, by rw [List.append_nil]; exact a3⟩⟩

end Go.Proofs.Ytahomnlkkafbjaa.tr
