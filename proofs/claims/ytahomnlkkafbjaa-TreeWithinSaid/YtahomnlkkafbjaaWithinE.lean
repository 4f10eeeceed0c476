import Derived.Test.YtahomnlkkafbjaaWithinD
import Derived.Test.YtahomnlkkafbjaaProg
import Derived.KernelRfl
set_option linter.unusedVariables false
namespace Go.Proofs.Ytahomnlkkafbjaa.tr
open Go Go.Ev
set_option maxRecDepth 100000
set_option linter.unusedVariables false
set_option linter.constructorNameAsVariable false

/-! ### Lists of effects, one behind the other -/

theorem Step.setNew {ρ ρ' : Lay} {h h' : Hp} (S : Step ρ h ρ' h') {q : Nat} (hq : h.length ≤ q) (o : AObj) : Step ρ h ρ' (h'.set q o) :=
  ⟨S.keep.trans_new (Keep.set (fp := fun i => i = q) rfl _) fun i hi e => by omega, S.new, S.root⟩

theorem ef_appN {P : Program} {s : SH} {g : Hp} {w : Nat} {l : List Ef} {rw : Bool} (hs : s.den = g) (hw : g[w]? = some (.cells (efC l) rw)) (hn : l ≠ []) (hb : l.length ≤ 1000) : (Asm.appNil s w 0 l.length (l.length - 1) 5 48 (efC l) g.length).holds P := by
  have := efC_len l
  have : l.length ≠ 0 := fun e => hn (List.length_eq_zero_iff.1 e)
  rw [← hs] at hw ⊢
  exact ⟨by omega, ⟨_, cells_of hw, by omega, by rw [List.drop_zero, List.take_of_length_le (by omega)]⟩, efC_ones l, by omega, by omega, rfl⟩
theorem ef_app {P : Program} {s : SH} {g : Hp} {y w : Nat} {l m : List Ef} {rw : Bool} (hs : s.den = g) (hy : g[y]? = some (.cells (efC l) true)) (hw : g[w]? = some (.cells (efC m) rw)) (hn : m ≠ []) (hb : m.length ≤ 1000) (hl : l.length = 1) :
    (Asm.app s y 0 1 w 0 m.length (m.length - 1) 5 48 (efC (l ++ m)) (efC m) g.length).holds P := by
  have := efC_len m
  have := efC_len l
  have : m.length ≠ 0 := fun e => hn (List.length_eq_zero_iff.1 e)
  rw [← hs] at hw hy ⊢
  exact ⟨by omega, ⟨_, cells_of hw, by omega, by rw [List.drop_zero, List.take_of_length_le (by omega)]⟩, efC_ones m, by omega, by omega, ⟨_, own_of hy, by omega, by rw [List.drop_zero, List.take_of_length_le (by omega), efC_app]⟩, rfl⟩

theorem fin_len (t : TS) (s : Nat) : (t.fin s).2.length ≤ 1 := by
  unfold TS.fin
  split
  · simp
  · split
    · simp
    · split <;> simp

theorem blame_tks {t : TS} {s : Nat} {fk : Int} {ft : ByteArray} : (t.blame s fk ft).1.tks = t.tks := by
  unfold TS.blame
  split
  · split <;> rfl
  · rfl
theorem blame_get {t : TS} {s : Nat} {fk : Int} {ft : ByteArray} {y : Sc} (h : t.scs[s]? = some y) : ∃ y', (t.blame s fk ft).1.scs[s]? = some y' ∧ y'.live = y.live ∧ y'.ow = y.ow ∧ y'.su = y.su ∧ y'.ov = y.ov ∧ y'.tks = y.tks := by
  unfold TS.blame
  rw [h]
  simp only
  split
  · exact ⟨_, upS_at h, rfl, rfl, rfl, rfl, rfl⟩
  · exact ⟨_, h, rfl, rfl, rfl, rfl, rfl⟩
theorem blame_len {t : TS} {s : Nat} {fk : Int} {ft : ByteArray} : (t.blame s fk ft).1.scs.length = t.scs.length := by
  unfold TS.blame
  split
  · split
    · exact upS_len
    · rfl
  · rfl

/-! ### Fail -/

def TS.fail (t : TS) (n : Int) (fk : Int) (ft : ByteArray) : TS × List Ef × Int := match t.scope n with
  | (none, e) => (t, [], e)
  | (some s, _) => match t.scs[s]? with
    | none => (t, [], 6)
    | some y => if y.ov then (t, [], 6) else if fk = 1 ∧ faultB fk ft = true then ((t.blame s fk ft).1, if (t.blame s fk ft).2 then [⟨1, n, 0, 0, ⟨#[]⟩⟩] else [], 0) else (t, [], 2)

theorem TOk.fail {t : TS} {c : Nat} {n fk : Int} {ft : ByteArray} (ok : TOk c t) : TOk (c + 1) (t.fail n fk ft).1 := by
  have m := ok.mono (Nat.le_succ c)
  unfold TS.fail
  split
  · exact m
  · split
    · exact m
    · split
      · exact m
      · split
        · exact m.blame
        · exact m

section
variable {h : Hp} {ρ : Lay} {t : TS} {c r : Nat}

theorem fail_run (a : TAt h ρ t) (ok : TOk c t) (hc : c ≤ 100000) (hr : ρ .root = some r) (n fk : Int) (ft : ByteArray) :
    ∃ v h', Run Try.prog 32 [ptr r, .int .i64 n, .agg #[.int .i64 fk, .string ft]] h (.tuple #[v, .int .i64 (t.fail n fk ft).2.2]) h' ∧ TAt h' ρ (t.fail n fk ft).1 ∧ Step ρ h ρ h' ∧ EfV h' h.length ρ v (t.fail n fk ft).2.1 := by
  have a1 := a.push (.cells (fltC fk ft) true)
  have s1 := Step.push ρ h (.cells (fltC fk ft) true)
  have R := scope_run a1 ok hr n
  have nb : ¬ fpT ρ h.length := a.out (Nat.le_refl _)
  have gb : (h ++ [AObj.cells (fltC fk ft) true])[h.length]? = some (.cells (fltC fk ft) true) := get_new _ _
  rcases hq : t.scope n with ⟨k | k, e⟩
  · have e6 := scope_none hq
    subst e6
    rw [hq] at R
    have e' : t.fail n fk ft = (t, [], 6) := by simp only [TS.fail, hq]
    rw [e']
    exact ⟨_, _, pvF 0 Try.func32 (r2p.fl_err r 0 h.length 0 n 6 fk ft h (h ++ [AObj.cells (fltC fk ft) true]) h) ⟨rfl, R, neT (by omega), trivial⟩, a1, s1, .inl ⟨rfl, rfl⟩⟩
  · obtain ⟨rfl, hn, hk⟩ := scope_some hq
    obtain ⟨y, hy⟩ : ∃ y, t.scs[k]? = some y := ⟨_, List.getElem?_eq_getElem hk⟩
    obtain ⟨si, hs⟩ := a.sh.sc k hk
    rw [hq] at R
    simp only [inP, hs, pvv] at R
    have L3 : (Asm.ld1 (.is (h ++ [AObj.cells (fltC fk ft) true])) si 3 (.bool y.ov)).holds Try.prog := a1.ld1 rfl hs (by rw [cont_sc hy]; rfl)
    have Lb : (Asm.ld1 (.is (h ++ [AObj.cells (fltC fk ft) true])) h.length 0 (.int .i64 fk)).holds Try.prog := a_ld1 gb rfl
    cases ho : y.ov with
    | true =>
      rw [ho] at L3
      have e' : t.fail n fk ft = (t, [], 6) := by simp only [TS.fail, hq, hy, ho, if_true]
      rw [e']
      exact ⟨_, _, pvF 0 Try.func32 (r2p.fl_over r si h.length 0 n 0 fk ft h (h ++ [AObj.cells (fltC fk ft) true]) h) ⟨rfl, R, neF rfl, L3, trivial⟩, a1, s1, .inl ⟨rfl, rfl⟩⟩
    | false =>
      rw [ho] at L3
      by_cases c1 : fk = 1
      · have F := fault_run text_run (h ++ [AObj.cells (fltC fk ft) true]) fk ft
        have a2 := a1.push (.cells (fltC fk ft) true)
        have s2 := s1.trans (Step.push ρ _ (.cells (fltC fk ft) true))
        have gb2 : (h ++ [AObj.cells (fltC fk ft) true] ++ [AObj.cells (fltC fk ft) true])[h.length]? = some (.cells (fltC fk ft) true) := get_push gb
        have Ln : ∀ g, g[h.length]? = some (AObj.cells (fltC fk ft) true) → (Asm.ldn (.is g) h.length 0 2 (fltC fk ft)).holds Try.prog := fun g e => a_ldn e (by simp) rfl
        cases hf : faultB fk ft with
        | false =>
          rw [hf] at F
          have e' : t.fail n fk ft = (t, [], 2) := by
            simp only [TS.fail, hq, hy, ho, hf, Bool.false_eq_true, if_false, and_false]
          rw [e']
          exact ⟨_, _, pvF 0 Try.func32 (r2p.fl_bad r si h.length 0 n 0 fk ft h (h ++ [AObj.cells (fltC fk ft) true]) (h ++ [AObj.cells (fltC fk ft) true] ++ [AObj.cells (fltC fk ft) true])) ⟨rfl, R, neF rfl, L3, Lb, neF c1, Ln _ gb, F, trivial⟩, a2, s2, .inl ⟨rfl, rfl⟩⟩
        | true =>
          rw [hf] at F
          have e' : t.fail n fk ft = ((t.blame k fk ft).1, if (t.blame k fk ft).2 then [⟨1, n, 0, 0, ⟨#[]⟩⟩] else [], 0) := by
            simp only [TS.fail, hq, hy, ho, hf, Bool.false_eq_true, if_false]
            rw [if_pos ⟨c1, trivial⟩]
          rw [e']
          obtain ⟨g4, b1, b2, b3⟩ := blame_run a2 hy hs fk ft
          cases hb : (t.blame k fk ft).2 with
          | false =>
            rw [hb] at b1
            exact ⟨_, _, pvF 0 Try.func32 (r2p.fl_no r si h.length 0 n 0 fk ft h (h ++ [AObj.cells (fltC fk ft) true]) (h ++ [AObj.cells (fltC fk ft) true] ++ [AObj.cells (fltC fk ft) true]) g4) ⟨rfl, R, neF rfl, L3, Lb, neF c1, Ln _ gb, F, Ln _ gb2, b1, trivial⟩, b2, s2.trans b3, .inl ⟨rfl, rfl⟩⟩
          | true =>
            rw [hb] at b1
            refine ⟨_, _, pvF 0 Try.func32 (r2p.fl_yes r si h.length g4.length n 0 fk ft h (h ++ [AObj.cells (fltC fk ft) true]) (h ++ [AObj.cells (fltC fk ft) true] ++ [AObj.cells (fltC fk ft) true]) g4) ⟨rfl, R, neF rfl, L3, Lb, neF c1, Ln _ gb, F, Ln _ gb2, b1, rfl, trivial⟩, b2.push _, (s2.trans b3).trans (Step.push _ _ _), .inr ⟨by simp, _, rfl, ?_, (s2.trans b3).len, b2.out (Nat.le_refl _)⟩⟩
            exact get_new _ _
      · have e' : t.fail n fk ft = (t, [], 2) := by
          simp only [TS.fail, hq, hy, ho, c1, Bool.false_eq_true, if_false, false_and]
        rw [e']
        exact ⟨_, _, pvF 0 Try.func32 (r2p.fl_kind r si h.length 0 n 0 fk ft h (h ++ [AObj.cells (fltC fk ft) true]) h) ⟨rfl, R, neF rfl, L3, Lb, neT c1, trivial⟩, a1, s1, .inl ⟨rfl, rfl⟩⟩
end

/-! ### Leave -/

def TS.leave1 (t : TS) (k s : Nat) (fk : Int) (ft : ByteArray) : TS := ((t.blame s fk ft).1.upT k fun x => { x with lv := true }).upT k fun x => { x with fk := fk, ft := ft }
def liveE (s : Nat) (fk : Int) (y : Sc) : List Ef := if fk ≠ 0 ∧ 0 < y.live then [⟨1, ((s + 1 : Nat) : Int), 0, 0, ⟨#[]⟩⟩] else []
def TS.leave (t : TS) (n : Int) (fk : Int) (ft : ByteArray) : TS × List Ef × Int := match t.runs n with
  | (none, e) => (t, [], e)
  | (some k, _) => if faultB fk ft = false then (t, [], 2) else match t.tks[k]? with
    | none => (t, [], 6)
    | some x => match x.lv, x.opn.getLast? with
      | false, some (some s) => match t.scs[s]? with
        | some y => (((t.leave1 k s fk ft).fin s).1, liveE s fk y ++ ((t.leave1 k s fk ft).fin s).2, 0)
        | none => (t, [], 6)
      | _, _ => (t, [], 22)

theorem TOk.setT {t : TS} {c k : Nat} {f : Tk → Tk} (ok : TOk c t) (h : ∀ x, (f x).inn = x.inn) (h2 : ∀ x, (f x).opn = x.opn) : TOk c (t.upT k f) :=
  ok.upT fun x hx => ⟨h x, fun s hs => ok.opn k x s hx (by rw [← h2 x]; exact hs), by rw [h2 x]; exact ok.len k x hx⟩

theorem TOk.leave1 {t : TS} {c k s : Nat} {fk : Int} {ft : ByteArray} (ok : TOk c t) : TOk c (t.leave1 k s fk ft) :=
  TOk.setT (f := fun x => { x with fk := fk, ft := ft }) (TOk.setT (f := fun x => { x with lv := true }) ok.blame (fun _ => rfl) fun _ => rfl) (fun _ => rfl) fun _ => rfl
theorem TOk.leave {t : TS} {c : Nat} {n fk : Int} {ft : ByteArray} (ok : TOk c t) : TOk (c + 1) (t.leave n fk ft).1 := by
  have m := ok.mono (Nat.le_succ c)
  unfold TS.leave
  split
  · exact m
  · split
    · exact m
    · split
      · exact m
      · split
        · split
          · exact m.leave1.fin
          · exact m
        · exact m

theorem agg30 : aggSize Try.prog 30 = some (some 2) := by kernel_rfl
theorem stat31 : (Asm.stat (drawN Try.f31 0)).holds Try.prog := show statOk (drawN Try.f31 0) = true by kernel_rfl
theorem stat30 : (Asm.stat (drawN Try.f30 0)).holds Try.prog := show statOk (drawN Try.f30 0) = true by kernel_rfl

section
variable {h : Hp} {ρ : Lay} {t : TS} {c r : Nat}

/-- What is returned when finish has been called and nothing was said before it. -/
theorem tail0 {g5 g : Hp} {v5 : Value} {l5 : List Ef} (a : TAt g5 ρ t) (S : Step ρ h ρ g5) {lo : Nat} (hlo : h.length ≤ lo) (E : EfV g5 lo ρ v5 l5) (hb : l5.length ≤ 1000) :
    (v5 = .slice none 0 0 ∧ EfV g5 h.length ρ (.slice none 0 0) l5) ∨
    (∃ w, v5 = .slice (some ⟨w, 0, none⟩) l5.length 5 ∧ (Asm.appNil (.is g5) w 0 l5.length (l5.length - 1) 5 48 (efC l5) g5.length).holds Try.prog ∧ TAt (g5 ++ [.cells (efC l5) true]) ρ t ∧ Step ρ h ρ (g5 ++ [.cells (efC l5) true]) ∧ EfV (g5 ++ [.cells (efC l5) true]) h.length ρ (.slice (some ⟨g5.length, 0, none⟩) l5.length 5) l5) := by
  rcases E with ⟨rfl, rfl⟩ | ⟨hn, w, rfl, hw, h1, h2⟩
  · exact .inl ⟨rfl, .inl ⟨rfl, rfl⟩⟩
  · exact .inr ⟨w, rfl, ef_appN rfl hw hn hb, a.push _, S.trans (Step.push _ _ _), .inr ⟨hn, _, rfl, get_new _ _, S.len, a.out (Nat.le_refl _)⟩⟩

/-- The same, when one was said before it. -/
theorem tail1 {g5 : Hp} {v5 : Value} {l5 : List Ef} {y lo : Nat} {e1 : Ef} (a : TAt g5 ρ t) (S : Step ρ h ρ g5) (hy : g5[y]? = some (.cells (efC [e1]) true)) (hyl : h.length ≤ y) (ny : ¬ fpT ρ y) (E : EfV g5 lo ρ v5 l5) (hb : l5.length ≤ 1000) :
    (v5 = .slice none 0 0 ∧ EfV g5 h.length ρ (.slice (some ⟨y, 0, none⟩) 1 5) ([e1] ++ l5)) ∨
    (∃ w, v5 = .slice (some ⟨w, 0, none⟩) l5.length 5 ∧ (Asm.app (.is g5) y 0 1 w 0 l5.length (l5.length - 1) 5 48 (efC ([e1] ++ l5)) (efC l5) g5.length).holds Try.prog ∧ TAt (g5.set y .dead ++ [.cells (efC ([e1] ++ l5)) true]) ρ t ∧
      Step ρ h ρ (g5.set y .dead ++ [.cells (efC ([e1] ++ l5)) true]) ∧ EfV (g5.set y .dead ++ [.cells (efC ([e1] ++ l5)) true]) h.length ρ (.slice (some ⟨g5.length, 0, none⟩) (1 + l5.length) 5) ([e1] ++ l5)) := by
  rcases E with ⟨rfl, rfl⟩ | ⟨hn, w, rfl, hw, h1, h2⟩
  · exact .inl ⟨rfl, .inr ⟨by simp, y, rfl, hy, hyl, ny⟩⟩
  · refine .inr ⟨w, rfl, ef_app rfl hy hw hn hb rfl, (a.setN ny _).push _, (S.setNew hyl _).trans (Step.push _ _ _), .inr ⟨by simp, _, ?_, get_new' _ (by simp), S.len, a.out (Nat.le_refl _)⟩⟩
    simp; omega

theorem leave_run (a : TAt h ρ t) (ok : TOk c t) (hc : c ≤ 100000) (hr : ρ .root = some r) (n fk : Int) (ft : ByteArray) :
    ∃ v h', Run Try.prog 31 [ptr r, .int .i64 n, .agg #[.int .i64 fk, .string ft]] h (.tuple #[v, .int .i64 (t.leave n fk ft).2.2]) h' ∧ TAt h' ρ (t.leave n fk ft).1 ∧ Step ρ h ρ h' ∧ EfV h' h.length ρ v (t.leave n fk ft).2.1 := by
  have a1 := a.push (.cells (fltC fk ft) true)
  have s1 := Step.push ρ h (.cells (fltC fk ft) true)
  have R := runs_run a1 ok hr n
  have nb : ¬ fpT ρ h.length := a.out (Nat.le_refl _)
  have gb : (h ++ [AObj.cells (fltC fk ft) true])[h.length]? = some (.cells (fltC fk ft) true) := get_new _ _
  have Ln : ∀ (s : SH), s.den[h.length]? = some (AObj.cells (fltC fk ft) true) → (Asm.ldn s h.length 0 2 (fltC fk ft)).holds Try.prog := fun g e => a_ldn e (by simp) rfl
  rcases hq : t.runs n with ⟨k | k, e⟩
  · have e6 := runs_none hq
    subst e6
    rw [hq] at R
    have e' : t.leave n fk ft = (t, [], 6) := by simp only [TS.leave, hq]
    rw [e']
    exact ⟨_, _, pvF 0 Try.func31 (r2p.le_err r 0 0 h.length 0 0 n 6 fk 0 0 ft false (.bool true) [] [] [] 0 0 h (h ++ [AObj.cells (fltC fk ft) true]) h h h) ⟨rfl, R, neT (by omega), trivial⟩, a1, s1, .inl ⟨rfl, rfl⟩⟩
  · obtain ⟨rfl, hn, x, hx, he⟩ := runs_some hq
    obtain ⟨i, hi⟩ := a.sh.tk k (get_lt' hx)
    rw [hq] at R
    simp only [tkP, hi, pvv] at R
    have F := fault_run text_run (h ++ [AObj.cells (fltC fk ft) true]) fk ft
    have a2 := a1.push (.cells (fltC fk ft) true)
    have s2 := s1.trans (Step.push ρ _ (.cells (fltC fk ft) true))
    have gb2 : (h ++ [AObj.cells (fltC fk ft) true] ++ [AObj.cells (fltC fk ft) true])[h.length]? = some (.cells (fltC fk ft) true) := get_push gb
    obtain ⟨g3, hg3⟩ : ∃ g3, g3 = h ++ [AObj.cells (fltC fk ft) true] ++ [AObj.cells (fltC fk ft) true] := ⟨_, rfl⟩
    rw [← hg3] at F a2 s2 gb2
    cases hf : faultB fk ft with
    | false =>
      rw [hf] at F
      have e' : t.leave n fk ft = (t, [], 2) := by simp only [TS.leave, hq, hf, if_true]
      rw [e']
      exact ⟨_, _, pvF 0 Try.func31 (r2p.le_bad r i 0 h.length 0 0 n 0 fk 0 0 ft false (.bool true) [] [] [] 0 0 h (h ++ [AObj.cells (fltC fk ft) true]) g3 h h) ⟨rfl, R, neF rfl, Ln _ gb, F, trivial⟩, a2, s2, .inl ⟨rfl, rfl⟩⟩
    | true =>
      rw [hf] at F
      have I := inner_run a2 ok (by omega) hx hi
      have L3 : (Asm.ld1 (.is g3) i 3 (.bool x.lv)).holds Try.prog := a2.ld1 rfl hi (by rw [cont_tk hx]; rfl)
      cases hlv : x.lv with
      | true =>
        have e' : t.leave n fk ft = (t, [], 22) := by simp only [TS.leave, hq, hf, hx, hlv, Bool.true_eq_false, if_false]
        rw [e']
        rw [hlv] at L3
        refine ⟨_, _, ?_, a2, s2, .inl ⟨rfl, rfl⟩⟩
        cases hg : x.opn.getLast? with
        | none =>
          rw [hg] at I
          exact pvF 0 Try.func31 (r2p.le_lv r i 0 h.length 0 0 n 0 fk 0 0 ft false (.bool true) [] [] [] 0 0 h (h ++ [AObj.cells (fltC fk ft) true]) g3 h h (.pointer none) false) ⟨rfl, R, neF rfl, Ln _ gb, F, I, L3, trivial⟩
        | some v =>
          rw [hg] at I
          exact pvF 0 Try.func31 (r2p.le_lv r i 0 h.length 0 0 n 0 fk 0 0 ft false (.bool true) [] [] [] 0 0 h (h ++ [AObj.cells (fltC fk ft) true]) g3 h h (inP ρ v) true) ⟨rfl, R, neF rfl, Ln _ gb, F, I, L3, trivial⟩
      | false =>
        rw [hlv] at L3
        cases hg : x.opn.getLast? with
        | none =>
          rw [hg] at I
          have e' : t.leave n fk ft = (t, [], 22) := by simp only [TS.leave, hq, hf, hx, hlv, hg, Bool.true_eq_false, if_false]
          rw [e']
          exact ⟨_, _, pvF 0 Try.func31 (r2p.le_none r i 0 h.length 0 0 n 0 fk 0 0 ft false (.bool true) [] [] [] 0 0 h (h ++ [AObj.cells (fltC fk ft) true]) g3 h h (.pointer none)) ⟨rfl, R, neF rfl, Ln _ gb, F, I, L3, trivial⟩, a2, s2, .inl ⟨rfl, rfl⟩⟩
        | some v =>
          rw [hg] at I
          cases v with
          | none =>
            have e' : t.leave n fk ft = (t, [], 22) := by simp only [TS.leave, hq, hf, hx, hlv, hg, Bool.true_eq_false, if_false]
            rw [e']
            exact ⟨_, _, pvF 0 Try.func31 (r2p.le_shield r i 0 h.length 0 0 n 0 fk 0 0 ft false (.bool true) [] [] [] 0 0 h (h ++ [AObj.cells (fltC fk ft) true]) g3 h h) ⟨rfl, R, neF rfl, Ln _ gb, F, I, L3, trivial⟩, a2, s2, .inl ⟨rfl, rfl⟩⟩
          | some s =>
            have hsl := ok.opn k x s hx (List.mem_of_getLast? hg)
            obtain ⟨y, hy⟩ : ∃ y, t.scs[s]? = some y := ⟨_, List.getElem?_eq_getElem hsl⟩
            obtain ⟨si, hs⟩ := a.sh.sc s hsl
            simp only [innV, inP, hs, pvv] at I
            have e' : t.leave n fk ft = (((t.leave1 k s fk ft).fin s).1, liveE s fk y ++ ((t.leave1 k s fk ft).fin s).2, 0) := by simp only [TS.leave, hq, hf, hx, hlv, hg, hy, Bool.true_eq_false, if_false]
            rw [e']
            obtain ⟨g4, b1, b2, b3⟩ := blame_run a2 hy hs fk ft
            obtain ⟨y', hy', hl', _⟩ := blame_get (fk := fk) (ft := ft) hy
            have hx1 : (t.blame s fk ft).1.tks[k]? = some x := by rw [blame_tks]; exact hx
            have S4 := s2.trans b3
            have gb4 := b3.get gb2 nb
            have ok1 := ok.leave1 (k := k) (s := s) (fk := fk) (ft := ft)
            have lvl : (t.leave1 k s fk ft).scs.length = t.scs.length := blame_len
            -- what is said first, and the two writes
            have gen : ∀ (g : Hp), TAt g ρ (t.blame s fk ft).1 → Step ρ h ρ g → g[h.length]? = some (.cells (fltC fk ft) true) →
                ∃ c1 c2 v5 g5, (∀ (s : SH), s.den = g → (Asm.st s i 3 [.bool true] c1).holds Try.prog ∧ (Asm.again s 30 (ptr h.length) (.agg #[.int .i64 fk, .string ft])).holds Try.prog ∧ (Asm.ldn s h.length 0 2 (fltC fk ft)).holds Try.prog) ∧ (∀ (s : SH), s.den = g.set i (.cells c1 true) → (Asm.st s i 5 (fltC fk ft) c2).holds Try.prog ∧ (Asm.again s 30 (ptr h.length) (.agg #[.int .i64 fk, .string ft])).holds Try.prog) ∧
                  Run Try.prog 53 [ptr si] ((g.set i (.cells c1 true)).set i (.cells c2 true)) v5 g5 ∧ TAt g5 ρ ((t.leave1 k s fk ft).fin s).1 ∧ Step ρ g ρ g5 ∧ EfV g5 g.length ρ v5 ((t.leave1 k s fk ft).fin s).2 := fun g f1 f2 f3 => by
              obtain ⟨c1, u1, u2⟩ := f1.wTk (d := 3) (l := [.bool true]) (fun x => { x with lv := true }) hi hx1 rfl ⟨[], by simp⟩ (by simp) rfl
              have hx2 := upT_at (f := fun x => { x with lv := true }) hx1
              obtain ⟨c2, w1, w2⟩ := u2.wTk (d := 5) (l := fltC fk ft) (fun x => { x with fk := fk, ft := ft }) hi hx2 rfl ⟨[], by simp⟩ (by simp) rfl
              obtain ⟨v5, g5, q1, q2, q3, q4⟩ := fin_run w2 ok1 (by omega) hs (by show _ < (t.leave1 k s fk ft).scs.length; rw [lvl]; exact hsl)
              have ne : i ≠ h.length := fun e => nb ⟨_, by rw [← e]; exact hi⟩
              refine ⟨c1, c2, v5, g5, fun s e => ⟨u1 _ s e, a_againN agg30 (by rw [e]; exact f3) rfl rfl, Ln _ (by rw [e]; exact f3)⟩, fun s e => ⟨w1 _ s e, a_againN agg30 (by rw [e]; exact get_set_ne f3 ne) rfl rfl⟩, q1, q2, ((Step.set hi _).trans (Step.set hi _)).trans q3, ?_⟩
              rwa [set_len, set_len] at q4
            have hfl := fin_len (t.leave1 k s fk ft) s
            have Lk : (Asm.ld1 (.is g4) h.length 0 (.int .i64 fk)).holds Try.prog := a_ld1 gb4 rfl
            have Ll : (Asm.ld1 (.is g4) si 5 (.int .i64 y.live)).holds Try.prog := b2.ld1 rfl hs (by rw [cont_sc hy', ← hl']; rfl)
            by_cases c0 : fk = 0
            · have el : liveE s fk y = [] := by simp [liveE, c0]
              rw [el, List.nil_append]
              obtain ⟨c1, c2, v5, g5, k1, k2, k3, k4, k5, k6⟩ := gen g4 b2 S4 gb4
              obtain ⟨k11, k12, k13⟩ := k1 (.is g4) rfl
              obtain ⟨k21, k22⟩ := k2 (.set (.is g4) i (.cells c1 true)) rfl
              rcases tail0 (g := g5) k4 (S4.trans k5) S4.len k6 (by omega) with ⟨rfl, z⟩ | ⟨w, rfl, z1, z2, z3, z4⟩
              · exact ⟨_, _, pvF 0 Try.func31 (r2p.le_zn r i si h.length 0 0 n 0 fk 0 0 ft _ (.bool true) c1 c2 [] 0 0 h (h ++ [AObj.cells (fltC fk ft) true]) g3 g4 g5) ⟨rfl, R, neF rfl, Ln _ gb, F, I, L3, Ln _ gb2, b1, Lk, neF c0, stat31, k12, k12, k22, k13, k11, k21, k3, trivial⟩, k4, S4.trans k5, z⟩
              · exact ⟨_, _, pvF 0 Try.func31 (r2p.le_zs r i si h.length 0 0 n 0 fk 0 0 ft _ (.bool true) c1 c2 [] _ g5.length h (h ++ [AObj.cells (fltC fk ft) true]) g3 g4 g5 w _ [] _) ⟨rfl, R, neF rfl, Ln _ gb, F, I, L3, Ln _ gb2, b1, Lk, neF c0, stat31, k12, k12, k22, k13, k11, k21, k3, z1, trivial⟩, z2, z3, z4⟩
            · by_cases cl : 0 < y.live
              · have el : liveE s fk y = [⟨1, ((s + 1 : Nat) : Int), 0, 0, ⟨#[]⟩⟩] := by simp [liveE, c0, cl]
                rw [el]
                obtain ⟨g6, hg6⟩ : ∃ g6, g6 = g4 ++ [AObj.cells [.int .i64 1, .int .i64 ((s + 1 : Nat) : Int), .int .i64 0, .int .i64 0, .string ⟨#[]⟩] true] ++ [.cells (efC [⟨1, ((s + 1 : Nat) : Int), 0, 0, ⟨#[]⟩⟩]) true] := ⟨_, rfl⟩
                have a6 : TAt g6 ρ (t.blame s fk ft).1 := by rw [hg6]; exact (b2.push _).push _
                have S46 : Step ρ g4 ρ g6 := by rw [hg6]; exact (Step.push _ _ _).trans (Step.push _ _ _)
                have gy : g6[g4.length + 1]? = some (.cells (efC [⟨1, ((s + 1 : Nat) : Int), 0, 0, ⟨#[]⟩⟩]) true) := by rw [hg6]; exact get_new' _ (by simp)
                have ny : ¬ fpT ρ (g4.length + 1) := b2.out (by omega)
                obtain ⟨c1, c2, v5, g5, k1, k2, k3, k4, k5, k6⟩ := gen g6 a6 (S4.trans S46) (S46.get gb4 nb)
                obtain ⟨k11, k12, k13⟩ := k1 (.push (.push (.is g4) (.cells [.int .i64 1, .int .i64 ((s + 1 : Nat) : Int), .int .i64 0, .int .i64 0, .string ⟨#[]⟩] true)) (.cells (efC [⟨1, ((s + 1 : Nat) : Int), 0, 0, ⟨#[]⟩⟩]) true)) (by rw [hg6]; rfl)
                obtain ⟨k21, k22⟩ := k2 (.set (.push (.push (.is g4) (.cells [.int .i64 1, .int .i64 ((s + 1 : Nat) : Int), .int .i64 0, .int .i64 0, .string ⟨#[]⟩] true)) (.cells (efC [⟨1, ((s + 1 : Nat) : Int), 0, 0, ⟨#[]⟩⟩]) true)) i (.cells c1 true)) (by rw [hg6]; rfl)
                have Ls : (Asm.ld1 (.is g4) si 0 (.int .i64 ((s + 1 : Nat) : Int))).holds Try.prog := b2.ld1 rfl hs (by rw [cont_sc hy']; rfl)
                have An : (Asm.appNil (.push (.is g4) (.cells [.int .i64 1, .int .i64 ((s + 1 : Nat) : Int), .int .i64 0, .int .i64 0, .string ⟨#[]⟩] true)) g4.length 0 1 0 5 48 (efC [⟨1, ((s + 1 : Nat) : Int), 0, 0, ⟨#[]⟩⟩]) (g4.length + 1)).holds Try.prog := by
                  have := ef_appN (P := Try.prog) (s := .push (.is g4) (.cells [.int .i64 1, .int .i64 ((s + 1 : Nat) : Int), .int .i64 0, .int .i64 0, .string ⟨#[]⟩] true)) (g := g4 ++ [AObj.cells [.int .i64 1, .int .i64 ((s + 1 : Nat) : Int), .int .i64 0, .int .i64 0, .string ⟨#[]⟩] true]) (l := [⟨1, ((s + 1 : Nat) : Int), 0, 0, ⟨#[]⟩⟩]) rfl (get_new _ _) (by simp) (by simp)
                  rw [push_len] at this
                  exact this
                rw [hg6] at k3
                rcases tail1 (h := h) k4 ((S4.trans S46).trans k5) (k5.get gy ny) (by have := S4.len; omega) ny k6 (by omega) with ⟨rfl, z⟩ | ⟨w, rfl, z1, z2, z3, z4⟩
                · exact ⟨_, _, pvF 0 Try.func31 (r2p.le_en r i si h.length g4.length (g4.length + 1) n 0 fk y.live ((s + 1 : Nat) : Int) ft _ (.bool true) c1 c2 _ 0 0 h (h ++ [AObj.cells (fltC fk ft) true]) g3 g4 g5) ⟨rfl, R, neF rfl, Ln _ gb, F, I, L3, Ln _ gb2, b1, Lk, neT c0, Ll, gtT cl, Ls, rfl, An, stat31, k12, k12, k22, k13, k11, k21, k3, trivial⟩, k4, (S4.trans S46).trans k5, z⟩
                · exact ⟨_, _, pvF 0 Try.func31 (r2p.le_es r i si h.length g4.length (g4.length + 1) n 0 fk y.live ((s + 1 : Nat) : Int) ft _ (.bool true) c1 c2 _ _ g5.length h (h ++ [AObj.cells (fltC fk ft) true]) g3 g4 g5 w _ _ _) ⟨rfl, R, neF rfl, Ln _ gb, F, I, L3, Ln _ gb2, b1, Lk, neT c0, Ll, gtT cl, Ls, rfl, An, stat31, k12, k12, k22, k13, k11, k21, k3, z1, trivial⟩, z2, z3, z4⟩
              · have el : liveE s fk y = [] := by simp [liveE, cl]
                rw [el, List.nil_append]
                obtain ⟨c1, c2, v5, g5, k1, k2, k3, k4, k5, k6⟩ := gen g4 b2 S4 gb4
                obtain ⟨k11, k12, k13⟩ := k1 (.is g4) rfl
                obtain ⟨k21, k22⟩ := k2 (.set (.is g4) i (.cells c1 true)) rfl
                rcases tail0 (g := g5) k4 (S4.trans k5) S4.len k6 (by omega) with ⟨rfl, z⟩ | ⟨w, rfl, z1, z2, z3, z4⟩
                · exact ⟨_, _, pvF 0 Try.func31 (r2p.le_nn r i si h.length 0 0 n 0 fk y.live 0 ft _ (.bool true) c1 c2 [] 0 0 h (h ++ [AObj.cells (fltC fk ft) true]) g3 g4 g5) ⟨rfl, R, neF rfl, Ln _ gb, F, I, L3, Ln _ gb2, b1, Lk, neT c0, Ll, gtF (by omega), stat31, k12, k12, k22, k13, k11, k21, k3, trivial⟩, k4, S4.trans k5, z⟩
                · exact ⟨_, _, pvF 0 Try.func31 (r2p.le_ns r i si h.length 0 0 n 0 fk y.live 0 ft _ (.bool true) c1 c2 [] _ g5.length h (h ++ [AObj.cells (fltC fk ft) true]) g3 g4 g5 w _ [] _) ⟨rfl, R, neF rfl, Ln _ gb, F, I, L3, Ln _ gb2, b1, Lk, neT c0, Ll, gtF (by omega), stat31, k12, k12, k22, k13, k11, k21, k3, z1, trivial⟩, z2, z3, z4⟩
end

end Go.Proofs.Ytahomnlkkafbjaa.tr

namespace Go.Proofs.Ytahomnlkkafbjaa.tr
open Go Go.Ev
set_option maxRecDepth 100000
set_option linter.unusedVariables false
set_option linter.constructorNameAsVariable false

/-! ### End -/

def TS.end1 (t : TS) (k : Nat) (fk : Int) (ft : ByteArray) : TS := (t.upT k fun x => { x with en := true }).upT k fun x => { x with fk := fk, ft := ft }
def TS.end2 (t : TS) (k s : Nat) (fk : Int) (ft : ByteArray) : TS := (t.end1 k fk ft).upS s fun y => { y with live := y.live - 1 }
def TS.end3 (t : TS) (k s : Nat) (y : Sc) (fk : Int) (ft : ByteArray) : TS × Bool := if y.su then (t.end2 k s fk ft, false) else (t.end2 k s fk ft).blame s fk ft
def saidE (s : Nat) (b : Bool) : List Ef := if b then [⟨1, ((s + 1 : Nat) : Int), 0, 0, ⟨#[]⟩⟩] else []
def TS.end (t : TS) (n : Int) (fk : Int) (ft : ByteArray) : TS × List Ef × Int := match t.runs n with
  | (none, e) => (t, [], e)
  | (some k, _) => if faultB fk ft = false then (t, [], 2) else match t.tks[k]? with
    | none => (t, [], 6)
    | some x => if x.opn ≠ [] then (t, [], 22) else match x.inn with
      | none => (t.end1 k fk ft, [], 0)
      | some s => match t.scs[s]? with
        | none => (t, [], 6)
        | some y => (((t.end3 k s y fk ft).1.fin s).1, saidE s (t.end3 k s y fk ft).2 ++ ((t.end3 k s y fk ft).1.fin s).2, 0)

theorem TOk.end1 {t : TS} {c k : Nat} {fk : Int} {ft : ByteArray} (ok : TOk c t) : TOk c (t.end1 k fk ft) :=
  TOk.setT (f := fun x => { x with fk := fk, ft := ft }) (TOk.setT (f := fun x => { x with en := true }) ok (fun _ => rfl) fun _ => rfl) (fun _ => rfl) fun _ => rfl
theorem TOk.end2 {t : TS} {c k s : Nat} {fk : Int} {ft : ByteArray} (ok : TOk c t) : TOk (c + 1) (t.end2 k s fk ft) := by
  have m := (ok.end1 (k := k) (fk := fk) (ft := ft)).mono (Nat.le_succ c)
  refine m.upS fun y hy => ?_
  have h1 := (ok.end1 (k := k) (fk := fk) (ft := ft)).live s y hy
  exact ⟨rfl, fun j hj => m.mem s y j hy hj, m.mlen s y hy, by simp only; omega, by simp only; omega⟩
theorem TOk.end3 {t : TS} {c k s : Nat} {y : Sc} {fk : Int} {ft : ByteArray} (ok : TOk c t) : TOk (c + 1) (t.end3 k s y fk ft).1 := by
  unfold TS.end3
  split
  · exact ok.end2
  · exact ok.end2.blame
theorem TOk.end {t : TS} {c : Nat} {n fk : Int} {ft : ByteArray} (ok : TOk c t) : TOk (c + 1) (t.end n fk ft).1 := by
  have m := ok.mono (Nat.le_succ c)
  unfold TS.end
  split
  · exact m
  · split
    · exact m
    · split
      · exact m
      · split
        · exact m
        · split
          · exact m.end1
          · split
            · exact m
            · exact ok.end3.fin

section
variable {h : Hp} {ρ : Lay} {t : TS} {c r : Nat}

theorem end_run (a : TAt h ρ t) (ok : TOk c t) (hc : c ≤ 100000) (hr : ρ .root = some r) (n fk : Int) (ft : ByteArray) :
    ∃ v h', Run Try.prog 30 [ptr r, .int .i64 n, .agg #[.int .i64 fk, .string ft]] h (.tuple #[v, .int .i64 (t.end n fk ft).2.2]) h' ∧ TAt h' ρ (t.end n fk ft).1 ∧ Step ρ h ρ h' ∧ EfV h' h.length ρ v (t.end n fk ft).2.1 := by
  have a1 := a.push (AObj.cells (fltC fk ft) true)
  have s1 := Step.push ρ h (AObj.cells (fltC fk ft) true)
  have R := runs_run a1 ok hr n
  have nb : ¬ fpT ρ h.length := a.out (Nat.le_refl _)
  have gb : (h ++ [AObj.cells (fltC fk ft) true])[h.length]? = some (.cells (fltC fk ft) true) := get_new _ _
  have Ln : ∀ (s : SH), s.den[h.length]? = some (AObj.cells (fltC fk ft) true) → (Asm.ldn s h.length 0 2 (fltC fk ft)).holds Try.prog := fun g e => a_ldn e (by simp) rfl
  rcases hq : t.runs n with ⟨k | k, e⟩
  · have e6 := runs_none hq
    subst e6
    rw [hq] at R
    have e' : t.end n fk ft = (t, [], 6) := by simp only [TS.end, hq]
    rw [e']
    exact ⟨_, _, pvF 0 Try.func30 (r2p.en_err r 0 0 h.length 0 0 n 6 fk 0 0 ft false (.bool true) [] [] [] 0 0 h (h ++ [AObj.cells (fltC fk ft) true]) h h h) ⟨rfl, R, neT (by omega), trivial⟩, a1, s1, .inl ⟨rfl, rfl⟩⟩
  · obtain ⟨rfl, hn, x, hx, he⟩ := runs_some hq
    obtain ⟨i, hi⟩ := a.sh.tk k (get_lt' hx)
    rw [hq] at R
    simp only [tkP, hi, pvv] at R
    have F := fault_run text_run (h ++ [AObj.cells (fltC fk ft) true]) fk ft
    have a2 := a1.push (AObj.cells (fltC fk ft) true)
    have s2 := s1.trans (Step.push ρ _ (AObj.cells (fltC fk ft) true))
    have gb2 : (h ++ [AObj.cells (fltC fk ft) true] ++ [AObj.cells (fltC fk ft) true])[h.length]? = some (.cells (fltC fk ft) true) := get_push gb
    obtain ⟨g3, hg3⟩ : ∃ g3, g3 = h ++ [AObj.cells (fltC fk ft) true] ++ [AObj.cells (fltC fk ft) true] := ⟨_, rfl⟩
    rw [← hg3] at F a2 s2 gb2
    cases hf : faultB fk ft with
    | false =>
      rw [hf] at F
      have e' : t.end n fk ft = (t, [], 2) := by simp only [TS.end, hq, hf, if_true]
      rw [e']
      exact ⟨_, _, pvF 0 Try.func30 (r2p.en_bad r i 0 h.length 0 0 n 0 fk 0 0 ft false (.bool true) [] [] [] 0 0 h (h ++ [AObj.cells (fltC fk ft) true]) g3 h h) ⟨rfl, R, neF rfl, Ln _ gb, F, trivial⟩, a2, s2, .inl ⟨rfl, rfl⟩⟩
    | true =>
      rw [hf] at F
      have hlen := ok.len k x hx
      have Lo : (Asm.ld1 (.is g3) i 2 (slv (ρ (.op k)) x.opn.length)).holds Try.prog := a2.ld1 rfl hi (by rw [cont_tk hx]; rfl)
      by_cases ho : x.opn = []
      · have hl0 : x.opn.length = 0 := by rw [ho]; rfl
        -- the two writes
        obtain ⟨c1, u1, u2⟩ := a2.wTk (d := 4) (l := [.bool true]) (fun x => { x with en := true }) hi hx rfl ⟨[], by simp⟩ (by simp) rfl
        have hx2 := upT_at (f := fun x => { x with en := true }) hx
        obtain ⟨c2, w1, w2⟩ := u2.wTk (d := 5) (l := fltC fk ft) (fun x => { x with fk := fk, ft := ft }) hi hx2 rfl ⟨[], by simp⟩ (by simp) rfl
        have hx3 := upT_at (f := fun x => { x with fk := fk, ft := ft }) hx2
        have ne : i ≠ h.length := fun e => nb ⟨_, by rw [← e]; exact hi⟩
        obtain ⟨g, hg⟩ : ∃ g, g = (g3.set i (.cells c1 true)).set i (.cells c2 true) := ⟨_, rfl⟩
        have U1 : (Asm.st (.is g3) i 4 [.bool true] c1).holds Try.prog := u1 _ _ rfl
        have W1 : (Asm.st (.set (.is g3) i (.cells c1 true)) i 5 (fltC fk ft) c2).holds Try.prog := w1 _ _ rfl
        have k12 : (Asm.again (.is g3) 30 (ptr h.length) (.agg #[.int .i64 fk, .string ft])).holds Try.prog := a_againN agg30 gb2 rfl rfl
        have k22 : (Asm.again (.set (.is g3) i (.cells c1 true)) 30 (ptr h.length) (.agg #[.int .i64 fk, .string ft])).holds Try.prog := a_againN agg30 (get_set_ne gb2 ne) rfl rfl
        have k13 : (Asm.ldn (.is g3) h.length 0 2 (fltC fk ft)).holds Try.prog := Ln _ gb2
        have S5 : Step ρ h ρ ((g3.set i (.cells c1 true)).set i (.cells c2 true)) := (s2.trans (Step.set hi _)).trans (Step.set hi _)
        have Li : (Asm.ld1 (.set (.set (.is g3) i (.cells c1 true)) i (.cells c2 true)) i 1 (inP ρ x.inn)).holds Try.prog := w2.ld1 rfl hi (by rw [cont_tk hx3]; rfl)
        have gb5 : ((g3.set i (.cells c1 true)).set i (.cells c2 true))[h.length]? = some (.cells (fltC fk ft) true) := get_set_ne (get_set_ne gb2 ne) ne
        have hnil : ρ (.op k) = none → slv (ρ (.op k)) x.opn.length = .slice none 0 0 := fun e => by rw [e]; rfl
        cases hin : x.inn with
        | none =>
          have e' : t.end n fk ft = (t.end1 k fk ft, [], 0) := by simp only [TS.end, hq, hf, hx, ho, hin, Bool.true_eq_false, if_false, ne_eq, not_true_eq_false]
          rw [e']
          rw [hin] at Li
          refine ⟨_, _, ?_, w2, S5, .inl ⟨rfl, rfl⟩⟩
          cases hop : ρ (.op k) with
          | none =>
            rw [hop] at Lo
            exact pvF 0 Try.func30 (r2p.en_rootn r i 0 h.length 0 0 n 0 fk 0 0 ft false (.bool true) c1 c2 [] 0 0 h (h ++ [AObj.cells (fltC fk ft) true]) g3 h h 0 0) ⟨rfl, R, neF rfl, Ln _ gb, F, Lo, gtF (by omega), stat30, k12, k12, k22, k13, U1, W1, Li, trivial⟩
          | some oo =>
            rw [hop, hl0] at Lo
            exact pvF 0 Try.func30 (r2p.en_roots r i 0 h.length 0 0 n 0 fk 0 0 ft false (.bool true) c1 c2 [] 0 0 h (h ++ [AObj.cells (fltC fk ft) true]) g3 h h oo 0) ⟨rfl, R, neF rfl, Ln _ gb, F, Lo, gtF (by simp), stat30, k12, k12, k22, k13, U1, W1, Li, trivial⟩
        | some s =>
          have hsl := ok.inn k x s hx hin
          obtain ⟨y, hy⟩ : ∃ y, t.scs[s]? = some y := ⟨_, List.getElem?_eq_getElem hsl⟩
          obtain ⟨si, hs⟩ := a.sh.sc s hsl
          have hlv := ok.live s y hy
          rw [hin] at Li
          simp only [inP, hs, pvv] at Li
          have e' : t.end n fk ft = (((t.end3 k s y fk ft).1.fin s).1, saidE s (t.end3 k s y fk ft).2 ++ ((t.end3 k s y fk ft).1.fin s).2, 0) := by simp only [TS.end, hq, hf, hx, ho, hin, hy, Bool.true_eq_false, if_false, ne_eq, not_true_eq_false]
          rw [e']
          have hy1 : (t.end1 k fk ft).scs[s]? = some y := hy
          obtain ⟨c3, v1, v2⟩ := TAt.wSc (t := t.end1 k fk ft) w2 (d := 5) (l := [.int .i64 (y.live - 1)]) (fun y => { y with live := y.live - 1 }) hs hy1 rfl rfl (by simp) rfl
          have hy2 : (t.end2 k s fk ft).scs[s]? = some { y with live := y.live - 1 } := upS_at (g := fun y => { y with live := y.live - 1 }) hy1
          have v2' : TAt (((g3.set i (.cells c1 true)).set i (.cells c2 true)).set si (.cells c3 true)) ρ (t.end2 k s fk ft) := v2
          have S6 : Step ρ h ρ (((g3.set i (.cells c1 true)).set i (.cells c2 true)).set si (.cells c3 true)) := S5.trans (Step.set hs _)
          have nes : si ≠ h.length := fun e => nb ⟨_, by rw [← e]; exact hs⟩
          have gb6 : (((g3.set i (.cells c1 true)).set i (.cells c2 true)).set si (.cells c3 true))[h.length]? = some (.cells (fltC fk ft) true) := get_set_ne gb5 nes
          have Ll : (Asm.ld1 (.set (.set (.is g3) i (.cells c1 true)) i (.cells c2 true)) si 5 (.int .i64 y.live)).holds Try.prog := TAt.ld1 (t := t.end1 k fk ft) w2 rfl hs (by rw [cont_sc (x := y) hy1]; rfl)
          have Ar : (Asm.arith .sub .i64 y.live 1 (y.live - 1)).holds Try.prog := subI rfl (by omega) (by omega)
          have V1 : (Asm.st (.set (.set (.is g3) i (.cells c1 true)) i (.cells c2 true)) si 5 [.int .i64 (y.live - 1)] c3).holds Try.prog := v1 _ _ rfl
          have Lu : (Asm.ld1 (.set (.set (.set (.is g3) i (.cells c1 true)) i (.cells c2 true)) si (.cells c3 true)) si 2 (.bool y.su)).holds Try.prog := v2'.ld1 rfl hs (by rw [cont_sc hy2]; rfl)
          have Lf : (Asm.ldn (.set (.set (.set (.is g3) i (.cells c1 true)) i (.cells c2 true)) si (.cells c3 true)) h.length 0 2 (fltC fk ft)).holds Try.prog := Ln _ gb6
          have hfl := fin_len (t.end3 k s y fk ft).1 s
          have ok3 := ok.end3 (k := k) (s := s) (y := y) (fk := fk) (ft := ft)
          cases hsu : y.su with
          | true =>
            rw [hsu] at Lu
            have e3 : t.end3 k s y fk ft = (t.end2 k s fk ft, false) := by simp [TS.end3, hsu]
            rw [e3] at ok3 hfl ⊢
            obtain ⟨v5, g5, q1, q2, q3, q4⟩ := fin_run v2' ok3 (by omega) hs (get_lt' hy2)
            rw [show saidE s false = [] from rfl, List.nil_append]
            rcases tail0 (g := g5) q2 (S6.trans q3) S6.len q4 (by simp only at hfl; omega) with ⟨rfl, z⟩ | ⟨w, rfl, z1, z2, z3, z4⟩
            · refine ⟨_, _, ?_, q2, S6.trans q3, z⟩
              cases hop : ρ (.op k) with
              | none =>
                rw [hop] at Lo
                exact pvF 0 Try.func30 (r2p.en_nun r i si h.length 0 0 n 0 fk y.live 0 ft false (.bool true) c1 c2 [] 0 0 h (h ++ [AObj.cells (fltC fk ft) true]) g3 h g5 0 0 (y.live - 1) c3) ⟨rfl, R, neF rfl, Ln _ gb, F, Lo, gtF (by omega), stat30, k12, k12, k22, k13, U1, W1, Li, Ll, Ar, V1, Lu, q1, trivial⟩
              | some oo =>
                rw [hop, hl0] at Lo
                exact pvF 0 Try.func30 (r2p.en_sun r i si h.length 0 0 n 0 fk y.live 0 ft false (.bool true) c1 c2 [] 0 0 h (h ++ [AObj.cells (fltC fk ft) true]) g3 h g5 oo 0 (y.live - 1) c3) ⟨rfl, R, neF rfl, Ln _ gb, F, Lo, gtF (by simp), stat30, k12, k12, k22, k13, U1, W1, Li, Ll, Ar, V1, Lu, q1, trivial⟩
            · refine ⟨_, _, ?_, z2, z3, z4⟩
              cases hop : ρ (.op k) with
              | none =>
                rw [hop] at Lo
                exact pvF 0 Try.func30 (r2p.en_nus r i si h.length 0 0 n 0 fk y.live 0 ft false (.bool true) c1 c2 [] _ g5.length h (h ++ [AObj.cells (fltC fk ft) true]) g3 h g5 0 0 (y.live - 1) c3 w _ [] _) ⟨rfl, R, neF rfl, Ln _ gb, F, Lo, gtF (by omega), stat30, k12, k12, k22, k13, U1, W1, Li, Ll, Ar, V1, Lu, q1, z1, trivial⟩
              | some oo =>
                rw [hop, hl0] at Lo
                exact pvF 0 Try.func30 (r2p.en_sus r i si h.length 0 0 n 0 fk y.live 0 ft false (.bool true) c1 c2 [] _ g5.length h (h ++ [AObj.cells (fltC fk ft) true]) g3 h g5 oo 0 (y.live - 1) c3 w _ [] _) ⟨rfl, R, neF rfl, Ln _ gb, F, Lo, gtF (by simp), stat30, k12, k12, k22, k13, U1, W1, Li, Ll, Ar, V1, Lu, q1, z1, trivial⟩
          | false =>
            rw [hsu] at Lu
            have e3 : t.end3 k s y fk ft = (t.end2 k s fk ft).blame s fk ft := by simp [TS.end3, hsu]
            rw [e3] at ok3 hfl ⊢
            obtain ⟨g4, b1, b2, b3⟩ := blame_run v2' hy2 hs fk ft
            obtain ⟨y', hy', _⟩ := blame_get (fk := fk) (ft := ft) hy2
            have S7 := S6.trans b3
            cases hb : ((t.end2 k s fk ft).blame s fk ft).2 with
            | false =>
              rw [hb] at b1
              obtain ⟨v5, g5, q1, q2, q3, q4⟩ := fin_run b2 ok3 (by omega) hs (get_lt' hy')
              rw [show saidE s false = [] from rfl, List.nil_append]
              rcases tail0 (g := g5) q2 (S7.trans q3) S7.len q4 (by omega) with ⟨rfl, z⟩ | ⟨w, rfl, z1, z2, z3, z4⟩
              · refine ⟨_, _, ?_, q2, S7.trans q3, z⟩
                cases hop : ρ (.op k) with
                | none =>
                  rw [hop] at Lo
                  exact pvF 0 Try.func30 (r2p.en_nkn r i si h.length 0 0 n 0 fk y.live 0 ft false (.bool true) c1 c2 [] 0 0 h (h ++ [AObj.cells (fltC fk ft) true]) g3 g4 g5 0 0 (y.live - 1) c3) ⟨rfl, R, neF rfl, Ln _ gb, F, Lo, gtF (by omega), stat30, k12, k12, k22, k13, U1, W1, Li, Ll, Ar, V1, Lu, Lf, b1, q1, trivial⟩
                | some oo =>
                  rw [hop, hl0] at Lo
                  exact pvF 0 Try.func30 (r2p.en_skn r i si h.length 0 0 n 0 fk y.live 0 ft false (.bool true) c1 c2 [] 0 0 h (h ++ [AObj.cells (fltC fk ft) true]) g3 g4 g5 oo 0 (y.live - 1) c3) ⟨rfl, R, neF rfl, Ln _ gb, F, Lo, gtF (by simp), stat30, k12, k12, k22, k13, U1, W1, Li, Ll, Ar, V1, Lu, Lf, b1, q1, trivial⟩
              · refine ⟨_, _, ?_, z2, z3, z4⟩
                cases hop : ρ (.op k) with
                | none =>
                  rw [hop] at Lo
                  exact pvF 0 Try.func30 (r2p.en_nks r i si h.length 0 0 n 0 fk y.live 0 ft false (.bool true) c1 c2 [] _ g5.length h (h ++ [AObj.cells (fltC fk ft) true]) g3 g4 g5 0 0 (y.live - 1) c3 w _ [] _) ⟨rfl, R, neF rfl, Ln _ gb, F, Lo, gtF (by omega), stat30, k12, k12, k22, k13, U1, W1, Li, Ll, Ar, V1, Lu, Lf, b1, q1, z1, trivial⟩
                | some oo =>
                  rw [hop, hl0] at Lo
                  exact pvF 0 Try.func30 (r2p.en_sks r i si h.length 0 0 n 0 fk y.live 0 ft false (.bool true) c1 c2 [] _ g5.length h (h ++ [AObj.cells (fltC fk ft) true]) g3 g4 g5 oo 0 (y.live - 1) c3 w _ [] _) ⟨rfl, R, neF rfl, Ln _ gb, F, Lo, gtF (by simp), stat30, k12, k12, k22, k13, U1, W1, Li, Ll, Ar, V1, Lu, Lf, b1, q1, z1, trivial⟩
            | true =>
              rw [hb] at b1
              rw [show saidE s true = [⟨1, ((s + 1 : Nat) : Int), 0, 0, ⟨#[]⟩⟩] from rfl]
              have Ls : (Asm.ld1 (.is g4) si 0 (.int .i64 ((s + 1 : Nat) : Int))).holds Try.prog := b2.ld1 rfl hs (by rw [cont_sc hy']; rfl)
              have An : (Asm.appNil (.push (.is g4) (.cells [.int .i64 1, .int .i64 ((s + 1 : Nat) : Int), .int .i64 0, .int .i64 0, .string ⟨#[]⟩] true)) g4.length 0 1 0 5 48 (efC [⟨1, ((s + 1 : Nat) : Int), 0, 0, ⟨#[]⟩⟩]) (g4.length + 1)).holds Try.prog := by
                have := ef_appN (P := Try.prog) (s := .push (.is g4) (.cells [.int .i64 1, .int .i64 ((s + 1 : Nat) : Int), .int .i64 0, .int .i64 0, .string ⟨#[]⟩] true)) (g := g4 ++ [AObj.cells [.int .i64 1, .int .i64 ((s + 1 : Nat) : Int), .int .i64 0, .int .i64 0, .string ⟨#[]⟩] true]) (l := [⟨1, ((s + 1 : Nat) : Int), 0, 0, ⟨#[]⟩⟩]) rfl (get_new _ _) (by simp) (by simp)
                rw [push_len] at this
                exact this
              obtain ⟨g6, hg6⟩ : ∃ g6, g6 = g4 ++ [AObj.cells [.int .i64 1, .int .i64 ((s + 1 : Nat) : Int), .int .i64 0, .int .i64 0, .string ⟨#[]⟩] true] ++ [.cells (efC [⟨1, ((s + 1 : Nat) : Int), 0, 0, ⟨#[]⟩⟩]) true] := ⟨_, rfl⟩
              have a6 : TAt g6 ρ ((t.end2 k s fk ft).blame s fk ft).1 := by rw [hg6]; exact (b2.push _).push _
              have S46 : Step ρ g4 ρ g6 := by rw [hg6]; exact (Step.push _ _ _).trans (Step.push _ _ _)
              have gy : g6[g4.length + 1]? = some (.cells (efC [⟨1, ((s + 1 : Nat) : Int), 0, 0, ⟨#[]⟩⟩]) true) := by rw [hg6]; exact get_new' _ (by simp)
              have ny : ¬ fpT ρ (g4.length + 1) := b2.out (by omega)
              obtain ⟨v5, g5, q1, q2, q3, q4⟩ := fin_run a6 ok3 (by omega) hs (get_lt' hy')
              rw [hg6] at q1
              rcases tail1 (h := h) q2 ((S7.trans S46).trans q3) (q3.get gy ny) (by have := S7.len; omega) ny q4 (by omega) with ⟨rfl, z⟩ | ⟨w, rfl, z1, z2, z3, z4⟩
              · refine ⟨_, _, ?_, q2, (S7.trans S46).trans q3, z⟩
                cases hop : ρ (.op k) with
                | none =>
                  rw [hop] at Lo
                  exact pvF 0 Try.func30 (r2p.en_nbn r i si h.length g4.length (g4.length + 1) n 0 fk y.live ((s + 1 : Nat) : Int) ft false (.bool true) c1 c2 _ 0 0 h (h ++ [AObj.cells (fltC fk ft) true]) g3 g4 g5 0 0 (y.live - 1) c3) ⟨rfl, R, neF rfl, Ln _ gb, F, Lo, gtF (by omega), stat30, k12, k12, k22, k13, U1, W1, Li, Ll, Ar, V1, Lu, Lf, b1, Ls, rfl, An, q1, trivial⟩
                | some oo =>
                  rw [hop, hl0] at Lo
                  exact pvF 0 Try.func30 (r2p.en_sbn r i si h.length g4.length (g4.length + 1) n 0 fk y.live ((s + 1 : Nat) : Int) ft false (.bool true) c1 c2 _ 0 0 h (h ++ [AObj.cells (fltC fk ft) true]) g3 g4 g5 oo 0 (y.live - 1) c3) ⟨rfl, R, neF rfl, Ln _ gb, F, Lo, gtF (by simp), stat30, k12, k12, k22, k13, U1, W1, Li, Ll, Ar, V1, Lu, Lf, b1, Ls, rfl, An, q1, trivial⟩
              · refine ⟨_, _, ?_, z2, z3, z4⟩
                cases hop : ρ (.op k) with
                | none =>
                  rw [hop] at Lo
                  exact pvF 0 Try.func30 (r2p.en_nbs r i si h.length g4.length (g4.length + 1) n 0 fk y.live ((s + 1 : Nat) : Int) ft false (.bool true) c1 c2 _ _ g5.length h (h ++ [AObj.cells (fltC fk ft) true]) g3 g4 g5 0 0 (y.live - 1) c3 w _ _ _) ⟨rfl, R, neF rfl, Ln _ gb, F, Lo, gtF (by omega), stat30, k12, k12, k22, k13, U1, W1, Li, Ll, Ar, V1, Lu, Lf, b1, Ls, rfl, An, q1, z1, trivial⟩
                | some oo =>
                  rw [hop, hl0] at Lo
                  exact pvF 0 Try.func30 (r2p.en_sbs r i si h.length g4.length (g4.length + 1) n 0 fk y.live ((s + 1 : Nat) : Int) ft false (.bool true) c1 c2 _ _ g5.length h (h ++ [AObj.cells (fltC fk ft) true]) g3 g4 g5 oo 0 (y.live - 1) c3 w _ _ _) ⟨rfl, R, neF rfl, Ln _ gb, F, Lo, gtF (by simp), stat30, k12, k12, k22, k13, U1, W1, Li, Ll, Ar, V1, Lu, Lf, b1, Ls, rfl, An, q1, z1, trivial⟩
      · have hl1 : 0 < x.opn.length := List.length_pos_iff.2 ho
        have e' : t.end n fk ft = (t, [], 22) := by simp only [TS.end, hq, hf, hx, ho, Bool.true_eq_false, if_false, ne_eq, not_false_eq_true, if_true]
        rw [e']
        obtain ⟨oo, hop⟩ : ∃ oo, ρ (.op k) = some oo := by
          cases e : ρ (.op k) with
          | none => exact absurd (a.sh.op k x hx e) ho
          | some oo => exact ⟨oo, rfl⟩
        rw [hop] at Lo
        exact ⟨_, _, pvF 0 Try.func30 (r2p.en_open r i 0 h.length 0 0 n 0 fk 0 0 ft false (.bool true) [] [] [] 0 0 h (h ++ [AObj.cells (fltC fk ft) true]) g3 h h oo x.opn.length) ⟨rfl, R, neF rfl, Ln _ gb, F, Lo, gtT (by simp; omega), trivial⟩, a2, s2, .inl ⟨rfl, rfl⟩⟩
end

end Go.Proofs.Ytahomnlkkafbjaa.tr

namespace Go.Proofs.Ytahomnlkkafbjaa.tr
open Go Go.Ev
set_option maxRecDepth 100000
set_option linter.unusedVariables false
set_option linter.constructorNameAsVariable false

/-! ### Backward -/

theorem body67 : Try.f67.body = some (.seq (partC Try.f67 [0]) (.block 0 (.loop (loopN Try.f67 0)))) := by kernel_rfl

theorem backward_run {bb L : Nat} {vals : List Value} {sl : Value} (hn : vals.length ≤ 1000000) (I : Nat → Hp → Prop) (Q : Hp → Prop)
    (hbox : ∀ k g, I k g → g[bb]? = some (.cells [sl] true))
    (hsl : (vals = [] ∧ sl = .slice none 0 0) ∨ ∃ o, sl = .slice (some ⟨o, 0, none⟩) vals.length 1 ∧ ∀ (k : Nat) (g : Hp) (j : Nat) (v : Value), I k g → vals[j]? = some v → ∃ (c : List Value) (rw : Bool), g[o]? = some (.cells c rw) ∧ c[j]? = some v)
    (step : ∀ (k : Nat) v g, vals[k]? = some v → I (k + 1) g → (∃ g', RunR Try.prog L [.int .i64 k, v] g (.bool true) g' ∧ I k g') ∨ (∃ g', RunR Try.prog L [.int .i64 k, v] g (.bool false) g' ∧ Q g'))
    {g0 : Hp} (h0 : I vals.length g0) : ∃ g', Run Try.prog 67 [.func (.yield L) #[] #[], ptr bb] g0 (.tuple #[]) g' ∧ (I 0 g' ∨ Q g') := by
  have loop : ∀ (k : Nat) (E : Env) (g : Hp), k ≤ vals.length → EnvLe [(3, .int .i64 ((k : Int) - 1)), (1, ptr bb), (0, .func (.yield L) #[] #[])] E → I k g →
      ∃ x E1 g', LRun Try.prog 19 false (loopN Try.f67 0) E g x E1 g' ∧ ((x = .exit 0 ∧ I 0 g') ∨ (x = .ret ∧ Q g')) := by
    intro k
    induction k with
    | zero =>
      intro E g hk hE hi
      obtain ⟨E2, q1, q2⟩ := pvC 0 hE (r12p.bk_end bb L (((0 : Nat) : Int) - 1) g) ⟨geF (by omega), trivial⟩
      exact ⟨_, E2, g, .last q2 (by simp), .inl ⟨rfl, hi⟩⟩
    | succ k ih =>
      intro E g hk hE hi
      rw [show ((k + 1 : Nat) : Int) - 1 = (k : Int) by omega] at hE
      obtain ⟨v, hv⟩ : ∃ v, vals[k]? = some v := ⟨_, List.getElem?_eq_getElem (by omega)⟩
      rcases hsl with ⟨e, _⟩ | ⟨o, e, hc⟩
      · rw [e] at hk; simp at hk
      · have hb := hbox _ _ hi
        rw [e] at hb
        obtain ⟨c, rw', g1, g2⟩ := hc _ _ _ _ hi hv
        rcases step k v g hv hi with ⟨g', r1, r2⟩ | ⟨g', r1, r2⟩
        · obtain ⟨E2, q1, q2⟩ := pvC 0 hE (r12p.bk_go bb o vals.length L k k ((k : Int) - 1) v g g') ⟨geT (by omega), a_ld1 hb rfl, offI rfl (by omega) (by omega), a_ld1 g1 g2, r1, subI rfl (by omega) (by omega), trivial⟩
          obtain ⟨x, E3, g3, q3, q4⟩ := ih E2 g' (by omega) ((((EnvLe.nil _).add rfl).add rfl |>.add rfl).trans q1) r2
          exact ⟨x, E3, g3, .step q2 q3, q4⟩
        · obtain ⟨E2, q1, q2⟩ := pvC 0 hE (r12p.bk_stop bb o vals.length L k k 0 v g g') ⟨geT (by omega), a_ld1 hb rfl, offI rfl (by omega) (by omega), a_ld1 g1 g2, r1, trivial⟩
          exact ⟨_, E2, g', .last q2 (by simp), .inr ⟨rfl, r2⟩⟩
  have hr0 : ∃ E1, EnvLe [(3, .int .i64 ((vals.length : Int) - 1)), (1, ptr bb), (0, .func (.yield L) #[] #[])] E1 ∧ CRun Try.prog 19 false (partC Try.f67 [0]) (enterE 0 [.func (.yield L) #[] #[], ptr bb]) g0 .normal E1 g0 := by
    have hb := hbox _ _ h0
    rcases hsl with ⟨e1, e2⟩ | ⟨o, e, _⟩
    · rw [e2] at hb
      obtain ⟨E1, e1', c1⟩ := pvC 0 (EnvLe.refl _) (r12p.bk_r0 bb L 0 none 0 ((vals.length : Int) - 1) g0) ⟨a_ld1 hb rfl, subI (by rw [e1]; rfl) (by omega) (by omega), trivial⟩
      exact ⟨E1, .trans (.add (.add (.add (.nil _) rfl) rfl) rfl) e1', c1⟩
    · rw [e] at hb
      obtain ⟨E1, e1', c1⟩ := pvC 0 (EnvLe.refl _) (r12p.bk_r0 bb L vals.length (some ⟨o, 0, none⟩) 1 ((vals.length : Int) - 1) g0) ⟨a_ld1 hb rfl, subI rfl (by omega) (by omega), trivial⟩
      exact ⟨E1, .trans (.add (.add (.add (.nil _) rfl) rfl) rfl) e1', c1⟩
  obtain ⟨E1, e1, c1⟩ := hr0
  obtain ⟨x, E2, g', hl, hq⟩ := loop vals.length E1 g0 (Nat.le_refl _) e1 h0
  rcases hq with ⟨rfl, hi⟩ | ⟨rfl, hq⟩
  · exact ⟨g', Run.code Try.func67 body67 (.inl rfl) (c1.seq (CRun.block 0 (.of_loop hl))) rfl, .inl hi⟩
  · exact ⟨g', Run.code Try.func67 body67 (.inr rfl) (c1.seq (CRun.blockR 0 (.of_loop hl))) rfl, .inr hq⟩

/-! ### Spawn -/

/-- The innermost scope among open links. -/
def inmost : List (Option Nat) → Option Nat
  | [] => none
  | v :: l => match inmost l with
    | some s => some s
    | none => v

theorem inmost_none : ∀ {l : List (Option Nat)}, (∀ v, v ∈ l → v = none) → inmost l = none
  | [], _ => rfl
  | v :: l, h => by
    rw [inmost, inmost_none fun w hw => h w (List.mem_cons_of_mem _ hw)]
    exact h v (List.mem_cons_self)
theorem inmost_at : ∀ {l : List (Option Nat)} {k s : Nat}, l[k]? = some (some s) → (∀ (j : Nat) v, k + 1 ≤ j → l[j]? = some v → v = none) → inmost l = some s
  | [], k, s, h, _ => by simp at h
  | v :: l, 0, s, h, hn => by
    simp at h
    subst h
    rw [inmost, inmost_none fun w hw => ?_]
    obtain ⟨j, hj⟩ := List.getElem?_of_mem hw
    exact hn (j + 1) w (by omega) (by simpa using hj)
  | v :: l, k + 1, s, h, hn => by
    rw [inmost, inmost_at (l := l) (k := k) (s := s) (by simpa using h) fun j w hj hw => hn (j + 1) w (by omega) (by simpa using hw)]
theorem inmost_mem : ∀ {l : List (Option Nat)} {s : Nat}, inmost l = some s → some s ∈ l
  | [], s, h => by cases h
  | v :: l, s, h => by
    rw [inmost] at h
    cases e : inmost l with
    | none => rw [e] at h; simp only at h; rw [h]; exact List.mem_cons_self
    | some u => rw [e] at h; simp only at h; cases h; exact List.mem_cons_of_mem _ (inmost_mem e)

def TS.spawn (t : TS) (n : Int) : TS × Int × Int := match t.acts n with
  | (none, e) => (t, 0, e)
  | (some k, _) => match t.tks[k]? with
    | none => (t, 0, 6)
    | some x => match inmost x.opn with
      | none => (t, 0, 22)
      | some s => if 64 ≤ t.tks.length then (t, 0, 5) else (t.add (some s), ((t.tks.length + 1 : Nat) : Int), 0)

theorem TOk.spawn {t : TS} {c : Nat} {n : Int} (ok : TOk c t) : TOk (c + 1) (t.spawn n).1 := by
  have m := ok.mono (Nat.le_succ c)
  unfold TS.spawn
  split
  · exact m
  · split
    · exact m
    · rename_i x hx
      split
      · exact m
      · rename_i s hs
        split
        · exact m
        · exact ok.add (inn := some s) (by omega) fun s' e => by cases e; exact ok.opn _ x s hx (inmost_mem hs)

noncomputable def AS22 : Code := partC Try.f22 [1, 1, 1, 0, 1, 0, 0]
noncomputable def BD22 : Code := partC Try.f22 [1, 1, 1, 0, 1, 0, 1]
theorem body22 : Try.f22.body = some (chainT [partC Try.f22 [0], partC Try.f22 [1, 0], partC Try.f22 [1, 1, 0]] (.seq (.seq (partC Try.f22 [1, 1, 1, 0, 0]) (.block 0 (.rangeFunc (.tmp 23) #[24, 25] AS22 BD22))) (partC Try.f22 [1, 1, 1, 1]))) := by kernel_rfl
theorem agg3 : aggSize Try.prog 3 = some none := by kernel_rfl
theorem agg24 : aggSize Try.prog 24 = some none := by kernel_rfl

section
variable {h : Hp} {ρ : Lay} {t : TS} {c r : Nat}

theorem spawn_run (a : TAt h ρ t) (ok : TOk c t) (hc : c ≤ 100000) (hr : ρ .root = some r) (n : Int) :
    ∃ ρ' h', Run Try.prog 22 [ptr r, .int .i64 n] h (.tuple #[.int .i64 (t.spawn n).2.1, .int .i64 (t.spawn n).2.2]) h' ∧ TAt h' ρ' (t.spawn n).1 ∧ Step ρ h ρ' h' := by
  obtain ⟨g3, hg3⟩ : ∃ g3, g3 = h ++ [AObj.cells [ptr r] true] ++ [AObj.cells [.int .i64 0] true] ++ [AObj.cells [.int .i64 0] true] := ⟨_, rfl⟩
  have a3 : TAt g3 ρ t := by rw [hg3]; exact ((a.push _).push _).push _
  have S3 : Step ρ h ρ g3 := by rw [hg3]; exact ((Step.push _ _ _).trans (Step.push _ _ _)).trans (Step.push _ _ _)
  have l3 : g3.length = h.length + 3 := by rw [hg3]; simp
  have b2 : g3[h.length]? = some (.cells [ptr r] true) := by rw [hg3]; exact get_push (get_push (get_new _ _))
  have b4 : g3[h.length + 1]? = some (.cells [.int .i64 0] true) := by rw [hg3]; exact get_push (get_new' _ (by simp))
  have b5 : g3[h.length + 2]? = some (.cells [.int .i64 0] true) := by rw [hg3]; exact get_new' _ (by simp)
  have n2 : ¬ fpT ρ h.length := a.out (by omega)
  have n4 : ¬ fpT ρ (h.length + 1) := a.out (by omega)
  have n5 : ¬ fpT ρ (h.length + 2) := a.out (by omega)
  have R := acts_run a3 ok hr n
  have P1 : (Asm.len (.is h) h.length).holds Try.prog := rfl
  have P2 : (Asm.len (.push (.is h) (.cells [ptr r] true)) (h.length + 1)).holds Try.prog := push_len _ _
  have P3 : (Asm.len (.push (.push (.is h) (.cells [ptr r] true)) (.cells [.int .i64 0] true)) (h.length + 2)).holds Try.prog := by show (h ++ [_] ++ [_]).length = _; simp
  have P4 : (Asm.ld1 (.push (.push (.push (.is h) (.cells [ptr r] true)) (.cells [.int .i64 0] true)) (.cells [.int .i64 0] true)) h.length 0 (ptr r)).holds Try.prog := a_ld1 (by rw [← hg3.symm] at *; exact get_push (get_push (get_new _ _))) rfl
  have R' : ∀ v, Run Try.prog 46 [ptr r, .int .i64 n] g3 v g3 → (Asm.call 46 [ptr r, .int .i64 n] (.push (.push (.push (.is h) (.cells [ptr r] true)) (.cells [.int .i64 0] true)) (.cells [.int .i64 0] true)) v (.is g3)).holds Try.prog := fun v hv => by
    rw [hg3] at hv ⊢
    exact hv
  have two : ∀ (g : Hp) (E : Env) (v e : Value), EnvLe [(4, ptr (h.length + 1)), (5, ptr (h.length + 2))] E → g[h.length + 1]? = some (.cells [v] true) → g[h.length + 2]? = some (.cells [e] true) → evResults Try.prog Try.f22 E g = some (.tuple #[v, e]) := fun g E v e hE h1 h2 =>
    evResults_cells rfl (hE 4 _ rfl) (hE 5 _ rfl) agg3 agg24 h1 h2
  rcases hq : t.acts n with ⟨k | k, e⟩
  · rw [hq] at R
    have e' : t.spawn n = (t, 0, e) := by simp only [TS.spawn, hq]
    have e0 : ¬ e = 0 := by have := acts_none hq; omega
    rw [e']
    obtain ⟨E2, q1, q2⟩ := pvC 0 (EnvLe.refl _) (r12p.sp_err r 0 h.length (h.length + 1) (h.length + 2) n e [.int .i64 e] h g3) ⟨P1, P2, P3, P4, R' _ R, neT e0, a_st b4 (by simp) rfl, a_st (get_set_ne b5 (by omega)) (by simp) rfl, trivial⟩
    refine ⟨ρ, _, Run.code Try.func22 body22 (.inr rfl) (CRunStop q2 (by simp)) (two _ _ _ _ (.trans (.add (.add (.nil _) rfl) rfl) q1) (get_set_ne (get_set_eq b4) (by omega)) (get_set_eq (get_set_ne b5 (by omega)))), (a3.setN n4 _).setN n5 _, (S3.setNew (by omega) _).setNew (by omega) _⟩
  · obtain ⟨rfl, hn, x, hx, he, hl⟩ := acts_some hq
    have hk := get_lt' hx
    obtain ⟨i, hi⟩ := a.sh.tk k hk
    rw [hq] at R
    simp only [tkP, hi, pvv] at R
    have hlen := ok.len k x hx
    have n64 := ok.n64
    obtain ⟨E2, q1, q2⟩ := pvC 0 (EnvLe.refl _) (r12p.sp_pre r i h.length (h.length + 1) (h.length + 2) n 0 [] h g3) ⟨P1, P2, P3, P4, R' _ R, neF rfl, trivial⟩
    have Lo : (Asm.ld1 (.is g3) i 2 (slv (ρ (.op k)) x.opn.length)).holds Try.prog := a3.ld1 rfl hi (by rw [cont_tk hx]; rfl)
    obtain ⟨o, ln, z, hsl⟩ : ∃ o ln z, slv (ρ (.op k)) x.opn.length = .slice o ln z := by cases ρ (.op k) <;> exact ⟨_, _, _, rfl⟩
    rw [hsl] at Lo
    obtain ⟨E3, q3, q4⟩ := pvC 1 (.trans (.add (.add (.add (.add (.nil _) rfl) rfl) rfl) rfl) q1) (r12p.sp_r4 i h.length (h.length + 1) (h.length + 2) (h.length + 3) ln z o g3) ⟨Lo, l3, trivial⟩
    have hE3 : EnvLe [(2, ptr h.length), (4, ptr (h.length + 1)), (5, ptr (h.length + 2))] E3 := .trans (.add (.add (.add (.nil _) rfl) rfl) rfl) q3
    -- the frame of the range
    obtain ⟨g4, hg4⟩ : ∃ g4, g4 = g3 ++ [AObj.cells [.slice o ln z] true] := ⟨_, rfl⟩
    have q4' : CRun Try.prog 37 false (partC Try.f22 [1, 1, 1, 0, 0]) E2 g3 .normal E3 g4 := by rw [hg4]; exact q4
    have l4 : g4.length = h.length + 4 := by rw [hg4]; simp [l3]
    have a4 : TAt g4 ρ t := by rw [hg4]; exact a3.push _
    have S4 : Step ρ h ρ g4 := by rw [hg4]; exact S3.trans (Step.push _ _ _)
    have up4 : ∀ {q : Nat} {ob : AObj}, g3[q]? = some ob → g4[q]? = some ob := fun hq => by rw [hg4]; exact get_push hq
    have b3 : g4[h.length + 3]? = some (.cells [.slice o ln z] true) := by rw [hg4]; exact get_new' _ l3
    obtain ⟨lpR, hR⟩ : ∃ lp : AObj, lp = .loop .ready none E3 37 #[24, 25] AS22 BD22 := ⟨_, rfl⟩
    obtain ⟨lpB, hB⟩ : ∃ lp : AObj, lp = .loop .busy none E3 37 #[24, 25] AS22 BD22 := ⟨_, rfl⟩
    obtain ⟨gb, hgb⟩ : ∃ gb, gb = g4 ++ [lpB] := ⟨_, rfl⟩
    have ab : TAt gb ρ t := by rw [hgb]; exact a4.push _
    have Sb : Step ρ h ρ gb := by rw [hgb]; exact S4.trans (Step.push _ _ _)
    have upb : ∀ {q : Nat} {ob : AObj}, g3[q]? = some ob → gb[q]? = some ob := fun hq => by rw [hgb]; exact get_push (up4 hq)
    have lb : gb.length = h.length + 5 := by rw [hgb]; simp [l4]
    have lpb : gb[h.length + 4]? = some lpB := by rw [hgb]; exact get_new' _ l4
    have setB : (g4 ++ [lpR]).set (h.length + 4) lpB = gb := by rw [hgb, List.set_append_right _ _ (by omega), l4, Nat.sub_self]; rfl
    have setR : gb.set (h.length + 4) lpR = g4 ++ [lpR] := by rw [hgb, List.set_append_right _ _ (by omega), l4, Nat.sub_self]; rfl
    have lpr : (g4 ++ [lpR])[h.length + 4]? = some lpR := get_new' _ l4
    have hop : ∀ v, some v ∈ (x.opn.map some) → True := fun _ _ => trivial
    -- the rounds
    obtain ⟨g5, r1, r2⟩ := backward_run (bb := h.length + 3) (L := h.length + 4) (vals := x.opn.map (inP ρ)) (sl := .slice o ln z) (by simp; omega)
      (fun j g => g = g4 ++ [lpR] ∧ ∀ (m : Nat) v, j ≤ m → x.opn[m]? = some v → v = none)
      (fun g => ∃ s v e ρ', inmost x.opn = some s ∧ g[h.length + 1]? = some (.cells [.int .i64 v] true) ∧ g[h.length + 2]? = some (.cells [.int .i64 e] true) ∧ g[h.length + 4]? = some (.loop .done (some .ret) E3 37 #[24, 25] AS22 BD22) ∧
        TAt g ρ' (t.spawn n).1 ∧ Step ρ h ρ' g ∧ (t.spawn n).2 = (v, e) ∧ ¬ fpT ρ' (h.length + 4))
      (fun j g ⟨e, _⟩ => by rw [e]; exact get_push b3)
      (by
        cases ho : ρ (.op k) with
        | none =>
          left
          rw [ho] at hsl
          cases hsl
          exact ⟨by rw [a.sh.op k x hx ho]; rfl, rfl⟩
        | some oo =>
          right
          rw [ho] at hsl
          cases hsl
          refine ⟨oo, by simp, fun j g m v ⟨e, _⟩ hv => ?_⟩
          obtain ⟨junk, hj⟩ := a4.obj _ _ ho
          rw [cont_op hx] at hj
          exact ⟨_, true, by rw [e]; exact get_push hj, by rw [List.getElem?_append_left (get_lt' hv)]; exact hv⟩)
      (fun j v g hv ⟨eg, hnn⟩ => by
        subst eg
        rw [List.getElem?_map] at hv
        cases hw : x.opn[j]? with
        | none => rw [hw] at hv; cases hv
        | some w =>
          rw [hw] at hv
          simp only [Option.map_some, Option.some.injEq] at hv
          have hlp : (g4 ++ [lpR])[h.length + 4]? = some (.loop .ready none E3 37 #[24, 25] AS22 BD22) := by rw [lpr, hR]
          obtain ⟨E4, u1, u2⟩ := pvC 0 ((hE3.cons 24 (.int .i64 j)).cons 25 v) (r12p.sp_as h.length (h.length + 1) (h.length + 2) j v (g4 ++ [lpR])) trivial
          have u2' : CRun Try.prog 37 true AS22 ((25, v) :: (24, .int .i64 j) :: E3) (g4 ++ [lpR]) .normal E4 (g4 ++ [lpR]) := u2
          have hE4 : EnvLe [(9, v), (2, ptr h.length), (4, ptr (h.length + 1)), (5, ptr (h.length + 2))] E4 := .trans (.add (.add (.add (.add (.nil _) rfl) rfl) rfl) rfl) u1
          cases w with
          | none =>
            left
            have hv' : v = .pointer none := hv.symm
            subst hv'
            obtain ⟨E5, v1, v2⟩ := pvC 0 hE4 (r12p.sp_nil h.length (h.length + 1) (h.length + 2) 0 0 0 0 0 [] [] gb gb) trivial
            refine ⟨g4 ++ [lpR], RunR.go hlp rfl rfl u2' hlp (h4 := gb) (by rw [← hB, setB]; exact v2) (by rw [lpb, hB]) (by rw [← hR, setR]), rfl, fun m y hm hy => ?_⟩
            by_cases e : m = j
            · subst e; rw [hw] at hy; cases hy; rfl
            · exact hnn m y (by omega) hy
          | some s =>
            right
            have him : inmost x.opn = some s := inmost_at hw fun m y hm hy => hnn m y hm hy
            have hsl2 := ok.opn k x s hx (List.mem_of_getElem? hw)
            obtain ⟨si, hsi⟩ := a.sh.sc s hsl2
            simp only [inP, hsi, pvv] at hv
            subst hv
            obtain ⟨to, ht⟩ := a.sh.ts' hk
            have Lr : (Asm.ld1 (.is gb) h.length 0 (ptr r)).holds Try.prog := a_ld1 (upb b2) rfl
            have Lt := ab.hdT hr (P := Try.prog) (s := .is gb) rfl
            rw [ht] at Lt
            by_cases h64 : 64 ≤ t.tks.length
            · have es : t.spawn n = (t, 0, 5) := by simp only [TS.spawn, hq, hx, him, h64, if_true]
              obtain ⟨E5, v1, v2⟩ := pvC 0 hE4 (r12p.sp_full h.length (h.length + 1) (h.length + 2) r si to t.tks.length 0 [.int .i64 0] [.int .i64 5] gb gb) ⟨Lr, Lt, geT (by simp; omega), a_st (upb b4) (by simp) rfl, a_st (get_set_ne (upb b5) (by omega)) (by simp) rfl, trivial⟩
              refine ⟨_, RunR.ret (h4 := (gb.set (h.length + 1) (.cells [.int .i64 0] true)).set (h.length + 2) (.cells [.int .i64 5] true)) hlp rfl rfl u2' hlp (by rw [← hB, setB]; exact v2) (get_set_ne (get_set_ne (by rw [lpb, hB]) (by omega)) (by omega)) rfl, s, 0, 5, ρ, him, ?_, ?_, get_set_eq (get_set_ne (get_set_ne lpb (by omega)) (by omega)), ?_, ?_, by rw [es], a.out (by omega)⟩
              · exact get_set_ne (get_set_ne (get_set_eq (upb b4)) (by omega)) (by omega)
              · exact get_set_ne (get_set_eq (get_set_ne (upb b5) (by omega))) (by omega)
              · rw [es]; exact ((ab.setN n4 _).setN n5 _).setN (a.out (by omega)) _
              · exact ((Sb.setNew (by omega) _).setNew (by omega) _).setNew (by omega) _
            · have es : t.spawn n = (t.add (some s), ((t.tks.length + 1 : Nat) : Int), 0) := by simp only [TS.spawn, hq, hx, him, h64, if_false]
              obtain ⟨ρ', g6, w1, w2, w3⟩ := add_run ab ok hc (by omega) hr (inn := some s) fun s' e => by cases e; exact hsl2
              simp only [inP, hsi, pvv] at w1
              have c4 := w3.get (upb b4) n4
              have c5 := w3.get (upb b5) n5
              have cL := w3.get lpb (a.out (by omega))
              have m4 := w3.out (q := h.length + 1) (by omega) n4
              have m5 := w3.out (q := h.length + 2) (by omega) n5
              have mL := w3.out (q := h.length + 4) (by omega) (a.out (by omega))
              obtain ⟨E5, v1, v2⟩ := pvC 0 hE4 (r12p.sp_ok h.length (h.length + 1) (h.length + 2) r si to t.tks.length ((t.tks.length + 1 : Nat) : Int) [.int .i64 ((t.tks.length + 1 : Nat) : Int)] [.int .i64 0] gb g6) ⟨Lr, Lt, geF (by simp; omega), Lr, w1, a_st c4 (by simp) rfl, a_st (get_set_ne c5 (by omega)) (by simp) rfl, trivial⟩
              refine ⟨_, RunR.ret (h4 := (g6.set (h.length + 1) (.cells [.int .i64 ((t.tks.length + 1 : Nat) : Int)] true)).set (h.length + 2) (.cells [.int .i64 0] true)) hlp rfl rfl u2' hlp (by rw [← hB, setB]; exact v2) (get_set_ne (get_set_ne (by rw [cL, hB]) (by omega)) (by omega)) rfl, s, _, 0, ρ', him, ?_, ?_, get_set_eq (get_set_ne (get_set_ne cL (by omega)) (by omega)), ?_, ?_, by rw [es], mL⟩
              · exact get_set_ne (get_set_ne (get_set_eq c4) (by omega)) (by omega)
              · exact get_set_ne (get_set_eq (get_set_ne c5 (by omega))) (by omega)
              · rw [es]; exact ((w2.setN m4 _).setN m5 _).setN mL _
              · exact (((Sb.trans w3).setNew (by omega) _).setNew (by omega) _).setNew (by omega) _)
      (g0 := g4 ++ [lpR]) ⟨rfl, fun m v hm hv => by have := get_lt' hv; simp at hm; omega⟩
    have hgv : evalO E3 (.tmp 23) = some (.func (.func 67) #[] #[ptr (h.length + 3)]) := q3 23 _ rfl
    have r1' : Run Try.prog 67 ([.func (.yield g4.length) #[] #[]] ++ (#[ptr (h.length + 3)] : Array Value).toList) (g4 ++ [.loop .ready none E3 37 #[24, 25] AS22 BD22]) (.tuple #[]) g5 := by rw [l4, ← hR]; exact r1
    rcases r2 with ⟨rfl, hall⟩ | ⟨s, v, e, ρ', him, c4, c5, cL, w2, w3, es, nL⟩
    · have him : inmost x.opn = none := inmost_none fun v hv => by
        obtain ⟨m, hm⟩ := List.getElem?_of_mem hv
        exact hall m v (by omega) hm
      have es : t.spawn n = (t, 0, 22) := by simp only [TS.spawn, hq, hx, him]
      rw [es]
      have c2 : CRun Try.prog 37 false (.rangeFunc (.tmp 23) #[24, 25] AS22 BD22) E3 g4 .normal E3 ((g4 ++ [lpR]).set g4.length .dead) := CRun.range (pend := none) hgv r1' (by rw [l4, lpr, hR]) rfl
      rw [l4] at c2
      have d4 : ((g4 ++ [lpR]).set (h.length + 4) .dead)[h.length + 1]? = some (.cells [.int .i64 0] true) := get_set_ne (get_push (up4 b4)) (by omega)
      have d5 : ((g4 ++ [lpR]).set (h.length + 4) .dead)[h.length + 2]? = some (.cells [.int .i64 0] true) := get_set_ne (get_push (up4 b5)) (by omega)
      obtain ⟨E6, p1, p2⟩ := pvC 0 (.trans (.add (.add (.nil _) rfl) rfl) hE3) (r12p.sp_post (h.length + 1) (h.length + 2) [.int .i64 0] [.int .i64 22] ((g4 ++ [lpR]).set (h.length + 4) .dead)) ⟨a_st d4 (by simp) rfl, a_st (get_set_ne d5 (by omega)) (by simp) rfl, trivial⟩
      refine ⟨ρ, _, Run.code Try.func22 body22 (.inr rfl) (CRunChain q2 (CRun.seq (CRun.seq q4' (CRun.blockN 0 c2)) p2)) (two _ _ _ _ p1 (get_set_ne (get_set_eq d4) (by omega)) (get_set_eq (get_set_ne d5 (by omega)))), ?_, ?_⟩
      · exact (((a4.push lpR).setN (a.out (by omega)) _).setN n4 _).setN n5 _
      · exact (((S4.trans (Step.push _ _ _)).setNew (by omega) _).setNew (by omega) _).setNew (by omega) _
    · have c2 : CRun Try.prog 37 false (.rangeFunc (.tmp 23) #[24, 25] AS22 BD22) E3 g4 .ret E3 (g5.set g4.length .dead) := CRun.rangeD (pend := some .ret) hgv r1' (by rw [l4]; exact cL) rfl
      rw [l4] at c2
      rw [es]
      refine ⟨ρ', _, Run.code Try.func22 body22 (.inr rfl) (CRunChain q2 (CRun.stop (CRun.seq q4' (CRun.blockR 0 c2)) (by simp))) (two _ _ _ _ (.trans (.add (.add (.nil _) rfl) rfl) hE3) (get_set_ne c4 (by omega)) (get_set_ne c5 (by omega))), w2.setN nL _, w3.setNew (by omega) _⟩
end

end Go.Proofs.Ytahomnlkkafbjaa.tr

namespace Go.Proofs.Ytahomnlkkafbjaa.tr
open Go Go.Ev
set_option maxRecDepth 100000
set_option linter.unusedVariables false
set_option linter.constructorNameAsVariable false

/-! ### Lists that are made -/

/-- A slice of n things of z cells each, that is new from lo on. -/
def SlV (h : Hp) (lo : Nat) (v : Value) (n z : Nat) (cs : List Value) : Prop :=
  (n = 0 ∧ cs = [] ∧ v = .slice none 0 0) ∨ (n ≠ 0 ∧ cs.length = n * z ∧ ∃ o, v = .slice (some ⟨o, 0, none⟩) n z ∧ h[o]? = some (.cells cs true) ∧ lo ≤ o)

theorem SlV.keep {h h' : Hp} {lo n z : Nat} {v : Value} {cs : List Value} {fp : Nat → Prop} (a : SlV h lo v n z cs) (K : Keep fp h h') (hf : ∀ q, fp q → q < lo) : SlV h' lo v n z cs := by
  rcases a with a | ⟨a1, a2, o, a3, a4, a5⟩
  · exact .inl a
  · exact .inr ⟨a1, a2, o, a3, K.2 _ _ a4 fun e => by have := hf _ e; omega, a5⟩
theorem SlV.mono {h : Hp} {lo lo' n z : Nat} {v : Value} {cs : List Value} (a : SlV h lo v n z cs) (hl : lo' ≤ lo) : SlV h lo' v n z cs := by
  rcases a with a | ⟨a1, a2, o, a3, a4, a5⟩
  · exact .inl a
  · exact .inr ⟨a1, a2, o, a3, a4, by omega⟩
theorem SlV.at {h : Hp} {lo n z : Nat} {v : Value} {cs : List Value} (a : SlV h lo v n z cs) (hn : n ≠ 0) : ∃ o, v = .slice (some ⟨o, 0, none⟩) n z ∧ h[o]? = some (.cells cs true) ∧ lo ≤ o := by
  rcases a with ⟨e, _⟩ | ⟨_, _, a⟩
  · exact absurd e hn
  · exact a

theorem a_appGN {P : Program} {s : SH} {d q z b : Nat} {item : List Value} (hi : item.length = z) (ho : item.all Value.oneCell' = true) (hb : b ≤ 1000) (h2 : s.den[d]? = some (.cells item true)) (hq : s.den.length = q) :
    (Asm.appNil s d 0 1 0 z b item q).holds P := ⟨rfl, ⟨_, cells_of h2, by omega, by rw [List.drop_zero, List.take_of_length_le (by omega)]⟩, ho, by omega, by omega, hq⟩
theorem a_appGS {P : Program} {s : SH} {i n d q z b : Nat} {cs item : List Value} (hi : item.length = z) (ho : item.all Value.oneCell' = true) (hb : b ≤ 1000) (hn : n ≤ 1000000) (hl : cs.length = n * z) (h1 : s.den[i]? = some (.cells cs true)) (h2 : s.den[d]? = some (.cells item true)) (hq : s.den.length = q) :
    (Asm.app s i 0 n d 0 1 0 z b (cs ++ item) item q).holds P := by
  have m : (n + 1) * b ≤ 140737488355328 := Nat.le_trans (Nat.mul_le_mul (show n + 1 ≤ 1000001 by omega) hb) (by omega)
  exact ⟨rfl, ⟨_, cells_of h2, by omega, by rw [List.drop_zero, List.take_of_length_le (by omega)]⟩, ho, m, by omega, ⟨_, own_of h1, by omega, by rw [List.drop_zero, List.take_of_length_le (by omega)]⟩, hq⟩

/-! ### Links -/

def lkC : Option Nat → List Value
  | none => [.int .i64 3, .int .i64 0]
  | some s => [.int .i64 2, .int .i64 ((s + 1 : Nat) : Int)]
def lkL : List (Option Nat) → List Value
  | [] => []
  | v :: l => lkC v ++ lkL l
theorem lkC_len (v : Option Nat) : (lkC v).length = 2 := by cases v <;> rfl
theorem lkC_ones (v : Option Nat) : (lkC v).all Value.oneCell' = true := by cases v <;> rfl
theorem lkL_len : ∀ l : List (Option Nat), (lkL l).length = l.length * 2
  | [] => rfl
  | v :: l => by simp [lkL, lkC_len, lkL_len l]; omega
theorem lkL_app : ∀ l m : List (Option Nat), lkL (l ++ m) = lkL l ++ lkL m
  | [], _ => rfl
  | v :: l, m => by simp [lkL, lkL_app l m]
def lkK : Option Nat → Int
  | none => 3
  | some _ => 2
def lkN : Option Nat → Int
  | none => 0
  | some s => ((s + 1 : Nat) : Int)
theorem lkC_eq (v : Option Nat) : lkC v = [.int .i64 (lkK v), .int .i64 (lkN v)] := by cases v <;> rfl

section
variable {h : Hp} {ρ : Lay} {t : TS} {c r : Nat}

theorem link_run (a : TAt h ρ t) (v : Option Nat) (hv : ∀ s, v = some s → s < t.scs.length) : ∃ h', Run Try.prog 40 [inP ρ v] h (.agg #[.int .i64 (lkK v), .int .i64 (lkN v)]) h' ∧ Keep (fun _ => False) h h' := by
  have K : ∀ o o', Keep (fun _ => False) h ((h ++ [o]).set h.length o') := fun o o' => ((Keep.refl _ h).pushN o).setN (Nat.le_refl _) o'
  cases v with
  | none => exact ⟨_, pvF 0 Try.func40 (r2p.li_nil h.length h) ⟨rfl, a_st (get_new _ _) (by simp) rfl, a_ldn (get_set_eq (get_new _ _)) (by simp) rfl, trivial⟩, K _ _⟩
  | some s =>
    have hs := hv s rfl
    obtain ⟨i, hi⟩ := a.sh.sc s hs
    obtain ⟨y, hy⟩ : ∃ y, t.scs[s]? = some y := ⟨_, List.getElem?_eq_getElem hs⟩
    simp only [inP, hi, pvv]
    exact ⟨_, pvF 0 Try.func40 (r2p.li_some h.length i ((s + 1 : Nat) : Int) h) ⟨rfl, (a.push _).ld1 rfl hi (by rw [cont_sc hy]; rfl), a_st (get_new _ _) (by simp) rfl, a_ldn (get_set_eq (get_new _ _)) (by simp) rfl, trivial⟩, K _ _⟩

/-! ### Task -/

theorem stat13 (k : Nat) (hk : k = 0 ∨ k = 1) : (Asm.stat (drawN Try.f13 k)).holds Try.prog := by
  rcases hk with rfl | rfl
  · exact show statOk (drawN Try.f13 0) = true by kernel_rfl
  · exact show statOk (drawN Try.f13 1) = true by kernel_rfl
theorem agg33 : aggSize Try.prog 33 = some none := by kernel_rfl

theorem take_one {α : Type} {l : List α} {k : Nat} {x : α} (h : l[k]? = some x) : l.take (k + 1) = l.take k ++ [x] := by rw [List.take_add_one, h]; rfl

theorem task_loop (a : TAt h ρ t) {kk : Nat} {x : Tk} {oo : Nat} (hx : t.tks[kk]? = some x) (ho : ρ (.op kk) = some oo) (hin : ∀ s, some s ∈ x.opn → s < t.scs.length) (hlen : x.opn.length ≤ 1000000) {e0 e1 e2 e3 e4 : Value} {z4 : List Value} :
    ∀ (j i : Nat) (E : Env) (g : Hp) (v : Value), i + j = x.opn.length → EnvLe [(71, .int .i64 (i : Int)), (70, .int .i64 (Int.ofNat x.opn.length)), (69, .slice (some ⟨oo, 0, none⟩) x.opn.length 1), (7, ptr (h.length + 1)), (4, ptr h.length)] E →
      Keep (fun _ => False) h g → g[h.length]? = some (.cells z4 true) → g[h.length + 1]? = some (.cells [e0, e1, e2, e3, e4, v] true) → SlV g (h.length + 2) v i 2 (lkL (x.opn.take i)) →
      ∃ E1 g' v', EnvLe [(7, ptr (h.length + 1)), (4, ptr h.length)] E1 ∧ LRun Try.prog 84 false (loopN Try.f13 0) E g (.exit 1) E1 g' ∧ Keep (fun _ => False) h g' ∧ g'[h.length]? = some (.cells z4 true) ∧ g'[h.length + 1]? = some (.cells [e0, e1, e2, e3, e4, v'] true) ∧ SlV g' (h.length + 2) v' x.opn.length 2 (lkL x.opn) := by
  intro j
  induction j with
  | zero =>
    intro i E g v hi hE K h4 h7 hv
    have e : i = x.opn.length := by omega
    subst e
    rw [List.take_length] at hv
    obtain ⟨E2, q1, q2⟩ := pvC 0 hE (r13p.tl_out (h.length + 1) h.length oo x.opn.length 0 0 0 0 0 _ 0 0 0 (.bool true) [] [] [] g g) ⟨ltF (by simp), trivial⟩
    exact ⟨E2, g, v, .trans (.add (.add (.nil _) rfl) rfl) q1, .last q2 (by simp), K, h4, h7, hv⟩
  | succ j ih =>
    intro i E g v hi hE K h4 h7 hv
    obtain ⟨w, hw⟩ : ∃ w, x.opn[i]? = some w := ⟨_, List.getElem?_eq_getElem (by omega)⟩
    have ag := a.grow K
    have hgl := K.1
    obtain ⟨g2, r1, K2⟩ := link_run ag w fun s e => hin s (by rw [← e]; exact List.mem_of_getElem? hw)
    have K2l := K2.1
    have g1 : (Asm.cmp .lss (i : Int) (Int.ofNat x.opn.length) true).holds Try.prog := ltT (by simp; omega)
    have g2' : (Asm.off i 0 (i : Int) x.opn.length 1).holds Try.prog := offI (q := i) rfl (by omega) (by omega)
    have g3 : (Asm.ld1 (.is g) oo i (inP ρ w)).holds Try.prog := ag.ld1 rfl ho (by rw [cont_op hx, List.getElem?_map, hw]; rfl)
    have g4 : (Asm.arith .add .i64 (i : Int) 1 ((i + 1 : Nat) : Int)).holds Try.prog := addI rfl (by omega) (by omega)
    have h72 := K2.2 _ _ h7 id
    have h42 := K2.2 _ _ h4 id
    have h7l := get_lt h7
    have vr : veqR v = true := by rcases hv with ⟨_, _, e⟩ | ⟨_, _, o, e, _⟩ <;> rw [e] <;> rfl
    have ga : (Asm.again (.is g) 33 (.pointer (some ⟨h.length + 1, 5, none⟩)) v).holds Try.prog := a_again1 agg33 h7 rfl vr
    have gb : (Asm.again (.is g2) 33 (.pointer (some ⟨h.length + 1, 5, none⟩)) v).holds Try.prog := a_again1 agg33 h72 rfl vr
    have gl : (Asm.ld1 (.is g) (h.length + 1) 5 v).holds Try.prog := a_ld1 h7 rfl
    have hnew : g2[g2.length]? = none := by simp
    rcases hv with ⟨e0', e1', rfl⟩ | ⟨hn, hl, o, rfl, hob, hol⟩
    · subst e0'
      obtain ⟨E2, q1, q2⟩ := pvC 0 hE (r13p.tl_gon (h.length + 1) h.length oo x.opn.length 0 0 g2.length (g2.length + 1) 0 _ ((0 + 1 : Nat) : Int) (lkK w) (lkN w) (inP ρ w) [] (lkC w) [e0, e1, e2, e3, e4, .slice (some ⟨g2.length + 1, 0, none⟩) 1 2] g g2)
        ⟨g1, g2', g3, stat13 1 (.inr rfl), ga, ga, gb, gl, r1, rfl, a_appGN (lkC_len w) (lkC_ones w) (by omega) (by rw [lkC_eq]; exact get_new _ _) (push_len _ _), a_st (get_push (get_push h72)) (by simp) rfl, g4, trivial⟩
      obtain ⟨E3, g5, v', s1, s2, s3⟩ := ih 1 E2 ((g2 ++ [AObj.cells [.int .i64 (lkK w), .int .i64 (lkN w)] true] ++ [AObj.cells (lkC w) true]).set (h.length + 1) (AObj.cells [e0, e1, e2, e3, e4, .slice (some ⟨g2.length + 1, 0, none⟩) 1 2] true)) (.slice (some ⟨g2.length + 1, 0, none⟩) 1 2) (by omega)
        (.trans (.add (.add (.add (.add (.add (.nil _) rfl) rfl) rfl) rfl) rfl) q1) ((((K.trans K2).pushN _).pushN _).setN (by omega) _) (get_set_ne (get_push (get_push h42)) (by omega)) (get_set_eq (get_push (get_push h72)))
        (.inr ⟨by omega, by rw [take_one hw]; simp [lkL_len], g2.length + 1, rfl, by rw [take_one hw]; exact get_set_ne (by simp [lkL]) (by omega), by omega⟩)
      exact ⟨E3, g5, v', s1, .step q2 s2, s3⟩
    · have ho2 := K2.2 _ _ hob id
      have hol2 := get_lt hob
      obtain ⟨E2, q1, q2⟩ := pvC 0 hE (r13p.tl_gos (h.length + 1) h.length oo x.opn.length i o g2.length (g2.length + 1) i _ ((i + 1 : Nat) : Int) (lkK w) (lkN w) (inP ρ w) (lkL (x.opn.take i) ++ lkC w) (lkC w) [e0, e1, e2, e3, e4, .slice (some ⟨g2.length + 1, 0, none⟩) (i + 1) 2] g g2)
        ⟨g1, g2', g3, stat13 1 (.inr rfl), ga, ga, gb, gl, r1, rfl, a_appGS (lkC_len w) (lkC_ones w) (by omega) (by omega) hl (get_push ho2) (by rw [lkC_eq]; exact get_new _ _) (push_len _ _), a_st (get_push (get_set_ne (get_push h72) (by omega))) (by simp) rfl, g4, trivial⟩
      obtain ⟨E3, g5, v', s1, s2, s3⟩ := ih (i + 1) E2 (((g2 ++ [AObj.cells [.int .i64 (lkK w), .int .i64 (lkN w)] true]).set o .dead ++ [AObj.cells (lkL (x.opn.take i) ++ lkC w) true]).set (h.length + 1) (AObj.cells [e0, e1, e2, e3, e4, .slice (some ⟨g2.length + 1, 0, none⟩) (i + 1) 2] true)) (.slice (some ⟨g2.length + 1, 0, none⟩) (i + 1) 2) (by omega)
        (.trans (.add (.add (.add (.add (.add (.nil _) rfl) rfl) rfl) rfl) rfl) q1) (((((K.trans K2).pushN _).setN (by omega) _).pushN _).setN (by omega) _) (get_set_ne (get_push (get_set_ne (get_push h42) (by omega))) (by omega)) (get_set_eq (get_push (get_set_ne (get_push h72) (by omega))))
        (.inr ⟨by omega, by rw [take_one hw, lkL_len, List.length_append, List.length_take, List.length_singleton]; congr 1; omega, g2.length + 1, rfl, by
          rw [take_one hw, lkL_app]
          refine get_set_ne ?_ (by omega)
          rw [show lkL [w] = lkC w by simp [lkL]]
          exact get_new' _ (by simp), by omega⟩)
      exact ⟨E3, g5, v', s1, .step q2 s2, s3⟩

/-- What is said of a task. -/
structure TkV where
  sc : Int
  en : Bool
  lv : Bool
  fk : Int
  ft : ByteArray
  op : List (Option Nat)
def TkV.zero : TkV := ⟨0, false, false, 0, ⟨#[]⟩, []⟩
def tkV (x : Tk) : TkV := ⟨lkN x.inn, x.en, x.lv, if x.en then x.fk else 0, if x.en then x.ft else ⟨#[]⟩, x.opn⟩
def TkV.C (w : TkV) (v : Value) : List Value := [.int .i64 w.sc, .bool w.en, .bool w.lv, .int .i64 w.fk, .string w.ft, v]
def TS.task (t : TS) (n : Int) : TkV × Int := if n < 1 ∨ (t.tks.length : Int) < n then (.zero, 6) else match t.tks[(n - 1).toNat]? with
  | some x => (tkV x, 0)
  | none => (.zero, 6)

theorem task_run (a : TAt h ρ t) (ok : TOk c t) (hc : c ≤ 100000) (hr : ρ .root = some r) (n : Int) :
    ∃ v h', Run Try.prog 13 [ptr r, .int .i64 n] h (.tuple #[.agg ((t.task n).1.C v).toArray, .int .i64 (t.task n).2]) h' ∧ Keep (fun _ => False) h h' ∧ SlV h' (h.length + 2) v (t.task n).1.op.length 2 (lkL (t.task n).1.op) := by
  have n64 := ok.n64
  have Z : ∀ {e : TkV × Int}, e = (.zero, 6) → t.task n = e → ∀ g, Keep (fun _ => False) h g → Run Try.prog 13 [ptr r, .int .i64 n] h (.tuple #[.agg (TkV.zero.C (.slice none 0 0)).toArray, .int .i64 6]) g → ∃ v h', Run Try.prog 13 [ptr r, .int .i64 n] h (.tuple #[.agg ((t.task n).1.C v).toArray, .int .i64 (t.task n).2]) h' ∧ Keep (fun _ => False) h h' ∧ SlV h' (h.length + 2) v (t.task n).1.op.length 2 (lkL (t.task n).1.op) := fun e1 e2 g K R => by
    rw [e2, e1]
    exact ⟨_, g, R, K, .inl ⟨rfl, rfl, rfl⟩⟩
  have K1 : ∀ o, Keep (fun _ => False) h (h ++ [o]) := fun o => (Keep.refl _ h).pushN o
  have st4 : ∀ (s : SH) (l : List Value), s.den[h.length]? = some (.cells [.int .i64 0, .bool false, .bool false, .int .i64 0, .string ⟨#[]⟩, .slice none 0 0] true) → l.length = 6 → (Asm.st s h.length 0 l l).holds Try.prog := fun s l e hl => a_st e (by simp [hl]) (by simp [hl])
  by_cases c1 : n < 1
  · exact Z rfl (by simp [TS.task, c1]) _ ((K1 _).setN (Nat.le_refl _) _) (pvF 0 Try.func13 (r13p.ta_low r h.length 0 0 0 0 0 0 0 0 n 0 0 0 false false ⟨#[]⟩ [] [] [] [] none 0 0 h h) ⟨rfl, ltT c1, st4 _ _ (get_new _ _) rfl, a_ldn (get_set_eq (get_new _ _)) (by simp) rfl, trivial⟩)
  · have T0 := (a.push (.cells [.int .i64 0, .bool false, .bool false, .int .i64 0, .string ⟨#[]⟩, .slice none 0 0] true))
    have hd := T0.hdT hr (P := Try.prog) (s := .push (.is h) (.cells [.int .i64 0, .bool false, .bool false, .int .i64 0, .string ⟨#[]⟩, .slice none 0 0] true)) rfl
    by_cases c2 : (t.tks.length : Int) < n
    · have e : t.task n = (.zero, 6) := by simp [TS.task, c2]
      cases ht : ρ .ts with
      | none =>
        have h0 := a.sh.ts ht
        rw [ht, h0] at hd
        rw [h0] at c2
        exact Z rfl e _ ((K1 _).setN (Nat.le_refl _) _) (pvF 0 Try.func13 (r13p.ta_highn r h.length 0 0 0 0 0 0 0 0 n 0 0 0 false false ⟨#[]⟩ [] [] [] [] none 0 0 h h) ⟨rfl, ltF (by omega), hd, gtT (by simpa using c2), st4 _ _ (get_new _ _) rfl, a_ldn (get_set_eq (get_new _ _)) (by simp) rfl, trivial⟩)
      | some to =>
        rw [ht] at hd
        exact Z rfl e _ ((K1 _).setN (Nat.le_refl _) _) (pvF 0 Try.func13 (r13p.ta_highs r h.length 0 to t.tks.length 0 0 0 0 0 n 0 0 0 false false ⟨#[]⟩ [] [] [] [] none 0 0 h h) ⟨rfl, ltF (by omega), hd, gtT c2, st4 _ _ (get_new _ _) rfl, a_ldn (get_set_eq (get_new _ _)) (by simp) rfl, trivial⟩)
    · have hk : (n - 1).toNat < t.tks.length := by omega
      obtain ⟨k, hkn⟩ : ∃ k, k = (n - 1).toNat := ⟨_, rfl⟩
      obtain ⟨x, hx⟩ : ∃ x, t.tks[(n - 1).toNat]? = some x := ⟨_, List.getElem?_eq_getElem hk⟩
      have e : t.task n = (tkV x, 0) := by simp only [TS.task, c1, c2, or_self, if_false, hx]
      rw [← hkn] at hk hx
      rw [e]
      obtain ⟨to, ht⟩ := a.sh.ts' hk
      obtain ⟨i, hi⟩ := a.sh.tk _ hk
      rw [ht] at hd
      have hlen := ok.len k x hx
      have p1 : (Asm.arith .sub .i64 n 1 (n - 1)).holds Try.prog := subI rfl (by omega) (by omega)
      have p2 : (Asm.off k 0 (n - 1) t.tks.length 1).holds Try.prog := offI (q := k) (by omega) hk (by omega)
      have p3 : ∀ (s : SH), Keep (fun _ => False) h s.den → (Asm.ld1 s to k (ptr i)).holds Try.prog := fun s K => by
        have := (a.grow K).ld1 (P := Try.prog) (s := s) rfl ht (cont_ts hk)
        rwa [hi] at this
      have q1 : (Asm.cmp .lss n 1 false).holds Try.prog := ltF (by omega)
      have q2 : (Asm.cmp .gtr n (Int.ofNat t.tks.length) false).holds Try.prog := gtF (by simp; omega)
      have Len : ∀ (s : SH), Keep (fun _ => False) h s.den → (Asm.ld1 s i 4 (.bool x.en)).holds Try.prog := fun s K => (a.grow K).ld1 rfl hi (by rw [cont_tk hx]; rfl)
      have Llv : ∀ (s : SH), Keep (fun _ => False) h s.den → (Asm.ld1 s i 3 (.bool x.lv)).holds Try.prog := fun s K => (a.grow K).ld1 rfl hi (by rw [cont_tk hx]; rfl)
      have Lin : ∀ (s : SH), Keep (fun _ => False) h s.den → (Asm.ld1 s i 1 (inP ρ x.inn)).holds Try.prog := fun s K => (a.grow K).ld1 rfl hi (by rw [cont_tk hx]; rfl)
      have Lft : ∀ (s : SH), Keep (fun _ => False) h s.den → (Asm.ldn s i 5 2 (fltC x.fk x.ft)).holds Try.prog := fun s K => (a.grow K).ldn rfl hi (by rw [cont_tk hx]; simp [tkC]) (by rw [cont_tk hx]; rfl)
      have Lop : ∀ (s : SH), Keep (fun _ => False) h s.den → (Asm.ld1 s i 2 (slv (ρ (.op k)) x.opn.length)).holds Try.prog := fun s K => (a.grow K).ld1 rfl hi (by rw [cont_tk hx]; rfl)
      have st7 : ∀ (s : SH) (l l' : List Value) (d : Nat) (l2 : List Value), s.den[h.length + 1]? = some (.cells l true) → l'.length + d ≤ l.length → l.take d ++ l' ++ l.drop (d + l'.length) = l2 → (Asm.st s (h.length + 1) d l' l2).holds Try.prog := fun s l l' d l2 e1 e2 e3 => a_st e1 (by omega) e3
      have KA : Keep (fun _ => False) h (h ++ [AObj.cells [.int .i64 0, .bool false, .bool false, .int .i64 0, .string ⟨#[]⟩, .slice none 0 0] true]) := K1 _
      have KB : Keep (fun _ => False) h (h ++ [AObj.cells [.int .i64 0, .bool false, .bool false, .int .i64 0, .string ⟨#[]⟩, .slice none 0 0] true] ++ [AObj.cells [.int .i64 0, .bool false, .bool false, .int .i64 0, .string ⟨#[]⟩, .slice none 0 0] true]) := KA.pushN _
      have B4 : (h ++ [AObj.cells [.int .i64 0, .bool false, .bool false, .int .i64 0, .string ⟨#[]⟩, .slice none 0 0] true] ++ [AObj.cells [.int .i64 0, .bool false, .bool false, .int .i64 0, .string ⟨#[]⟩, .slice none 0 0] true])[h.length]? = some (.cells [.int .i64 0, .bool false, .bool false, .int .i64 0, .string ⟨#[]⟩, .slice none 0 0] true) := get_push (get_new _ _)
      have B7 : (h ++ [AObj.cells [.int .i64 0, .bool false, .bool false, .int .i64 0, .string ⟨#[]⟩, .slice none 0 0] true] ++ [AObj.cells [.int .i64 0, .bool false, .bool false, .int .i64 0, .string ⟨#[]⟩, .slice none 0 0] true])[h.length + 1]? = some (.cells [.int .i64 0, .bool false, .bool false, .int .i64 0, .string ⟨#[]⟩, .slice none 0 0] true) := get_new' _ (push_len _ _)
      have S0 := stat13 0 (.inl rfl)
      have lb7 : (Asm.len (.push (.is h) (.cells [.int .i64 0, .bool false, .bool false, .int .i64 0, .string ⟨#[]⟩, .slice none 0 0] true)) (h.length + 1)).holds Try.prog := push_len _ _
      obtain ⟨gA, hgA⟩ : ∃ gA, gA = h ++ [AObj.cells [.int .i64 0, .bool false, .bool false, .int .i64 0, .string ⟨#[]⟩, .slice none 0 0] true] ++ [AObj.cells [.int .i64 0, .bool false, .bool false, .int .i64 0, .string ⟨#[]⟩, .slice none 0 0] true] := ⟨_, rfl⟩
      cases hinn : x.inn with
      | none =>
        rw [hinn] at Lin
        cases hen : x.en with
        | false =>
          rw [hen] at Len
          cases hop : ρ (.op k) with
          | none =>
            have h0 := a.sh.op k x hx hop
            rw [hop, h0] at Lop
            simp only [tkV, hinn, hen, lkN, if_true, if_false, Bool.false_eq_true, h0]
            have B7_0 := B7
            have B4_0 := B4
            have K_0 := KB
            have K_1 := K_0.setN (show h.length ≤ h.length + 1 by omega) (AObj.cells [.int .i64 0, .bool false, .bool x.lv, .int .i64 0, .string ⟨#[]⟩, .slice none 0 0] true)
            have B7_1 := get_set_eq (x := AObj.cells [.int .i64 0, .bool false, .bool x.lv, .int .i64 0, .string ⟨#[]⟩, .slice none 0 0] true) B7_0
            have B4_1 := get_set_ne (x := AObj.cells [.int .i64 0, .bool false, .bool x.lv, .int .i64 0, .string ⟨#[]⟩, .slice none 0 0] true) B4_0 (show h.length + 1 ≠ h.length by omega)
            exact ⟨.slice none 0 0, _, pvF 0 Try.func13 (r13p.ta_000 r h.length (h.length + 1) to t.tks.length k i 0 0 0 n (n - 1) 0 0 false x.lv ⟨#[]⟩ [.int .i64 0, .bool false, .bool x.lv, .int .i64 0, .string ⟨#[]⟩, .slice none 0 0] [] [] [] none 0 0 h h) ⟨rfl, q1, hd, q2, hd, p1, p2, p3 _ KA, S0, Len _ KA, Llv _ KA, lb7, st7 _ _ _ _ _ B7_0 (by simp) rfl, Lin _ K_1, Len _ K_1, Lop _ K_1, ltF (by omega), a_ldn B7_1 (by simp) rfl, st4 _ _ B4_1 rfl, a_ldn (get_set_eq B4_1) (by simp) rfl, trivial⟩, K_1.setN (Nat.le_refl _) _, .inl ⟨rfl, rfl, rfl⟩⟩
          | some oo =>
            rw [hop] at Lop
            simp only [tkV, hinn, hen, lkN, if_true, if_false, Bool.false_eq_true]
            have B7_0 := B7
            have B4_0 := B4
            have K_0 := KB
            have K_1 := K_0.setN (show h.length ≤ h.length + 1 by omega) (AObj.cells [.int .i64 0, .bool false, .bool x.lv, .int .i64 0, .string ⟨#[]⟩, .slice none 0 0] true)
            have B7_1 := get_set_eq (x := AObj.cells [.int .i64 0, .bool false, .bool x.lv, .int .i64 0, .string ⟨#[]⟩, .slice none 0 0] true) B7_0
            have B4_1 := get_set_ne (x := AObj.cells [.int .i64 0, .bool false, .bool x.lv, .int .i64 0, .string ⟨#[]⟩, .slice none 0 0] true) B4_0 (show h.length + 1 ≠ h.length by omega)
            obtain ⟨E1, g', v', l1, l2, l3, l4, l5, l6⟩ := task_loop a hx hop (fun s hs => ok.opn k x s hx hs) (by omega) x.opn.length 0 [(71, .int .i64 0), (70, .int .i64 (Int.ofNat x.opn.length)), (69, .slice (some ⟨oo, 0, none⟩) x.opn.length 1), (7, ptr (h.length + 1)), (4, ptr h.length)] _ (.slice none 0 0) (by omega) (EnvLe.refl _) K_1 B4_1 B7_1 (.inl ⟨rfl, rfl, rfl⟩)
            obtain ⟨oa, la, za, hv'⟩ : ∃ oa la za, v' = .slice oa la za := by rcases l6 with ⟨_, _, e⟩ | ⟨_, _, o, e, _⟩ <;> exact ⟨_, _, _, e⟩
            subst hv'
            exact ⟨.slice oa la za, _, pvF 0 Try.func13 (r13p.ta_001 r h.length (h.length + 1) to t.tks.length k i 0 oo x.opn.length n (n - 1) 0 0 false x.lv ⟨#[]⟩ [.int .i64 0, .bool false, .bool x.lv, .int .i64 0, .string ⟨#[]⟩, .slice none 0 0] [] [] [] oa la za h g') ⟨rfl, q1, hd, q2, hd, p1, p2, p3 _ KA, S0, Len _ KA, Llv _ KA, lb7, st7 _ _ _ _ _ B7_0 (by simp) rfl, Lin _ K_1, Len _ K_1, Lop _ K_1, a_loop (by kernel_rfl) (.add (.add (.add (.add (.add (.nil _) rfl) rfl) rfl) rfl) rfl) l1 l2, a_ldn l5 (by simp) rfl, st4 _ _ l4 rfl, a_ldn (get_set_eq l4) (by simp) rfl, trivial⟩, l3.setN (Nat.le_refl _) _, l6.keep (Keep.set (fp := fun q => q = h.length) rfl _) (fun q e => by omega)⟩
        | true =>
          rw [hen] at Len
          cases hop : ρ (.op k) with
          | none =>
            have h0 := a.sh.op k x hx hop
            rw [hop, h0] at Lop
            simp only [tkV, hinn, hen, lkN, if_true, if_false, Bool.false_eq_true, h0]
            have B7_0 := B7
            have B4_0 := B4
            have K_0 := KB
            have K_1 := K_0.setN (show h.length ≤ h.length + 1 by omega) (AObj.cells [.int .i64 0, .bool true, .bool x.lv, .int .i64 0, .string ⟨#[]⟩, .slice none 0 0] true)
            have B7_1 := get_set_eq (x := AObj.cells [.int .i64 0, .bool true, .bool x.lv, .int .i64 0, .string ⟨#[]⟩, .slice none 0 0] true) B7_0
            have B4_1 := get_set_ne (x := AObj.cells [.int .i64 0, .bool true, .bool x.lv, .int .i64 0, .string ⟨#[]⟩, .slice none 0 0] true) B4_0 (show h.length + 1 ≠ h.length by omega)
            have K_2 := K_1.setN (show h.length ≤ h.length + 1 by omega) (AObj.cells [.int .i64 0, .bool true, .bool x.lv, .int .i64 x.fk, .string x.ft, .slice none 0 0] true)
            have B7_2 := get_set_eq (x := AObj.cells [.int .i64 0, .bool true, .bool x.lv, .int .i64 x.fk, .string x.ft, .slice none 0 0] true) B7_1
            have B4_2 := get_set_ne (x := AObj.cells [.int .i64 0, .bool true, .bool x.lv, .int .i64 x.fk, .string x.ft, .slice none 0 0] true) B4_1 (show h.length + 1 ≠ h.length by omega)
            exact ⟨.slice none 0 0, _, pvF 0 Try.func13 (r13p.ta_010 r h.length (h.length + 1) to t.tks.length k i 0 0 0 n (n - 1) 0 x.fk true x.lv x.ft [.int .i64 0, .bool true, .bool x.lv, .int .i64 0, .string ⟨#[]⟩, .slice none 0 0] [] [.int .i64 0, .bool true, .bool x.lv, .int .i64 x.fk, .string x.ft, .slice none 0 0] [] none 0 0 h h) ⟨rfl, q1, hd, q2, hd, p1, p2, p3 _ KA, S0, Len _ KA, Llv _ KA, lb7, st7 _ _ _ _ _ B7_0 (by simp) rfl, Lin _ K_1, Len _ K_1, Lft _ K_1, st7 _ _ _ _ _ B7_1 (by simp) rfl, Lop _ K_2, ltF (by omega), a_ldn B7_2 (by simp) rfl, st4 _ _ B4_2 rfl, a_ldn (get_set_eq B4_2) (by simp) rfl, trivial⟩, K_2.setN (Nat.le_refl _) _, .inl ⟨rfl, rfl, rfl⟩⟩
          | some oo =>
            rw [hop] at Lop
            simp only [tkV, hinn, hen, lkN, if_true, if_false, Bool.false_eq_true]
            have B7_0 := B7
            have B4_0 := B4
            have K_0 := KB
            have K_1 := K_0.setN (show h.length ≤ h.length + 1 by omega) (AObj.cells [.int .i64 0, .bool true, .bool x.lv, .int .i64 0, .string ⟨#[]⟩, .slice none 0 0] true)
            have B7_1 := get_set_eq (x := AObj.cells [.int .i64 0, .bool true, .bool x.lv, .int .i64 0, .string ⟨#[]⟩, .slice none 0 0] true) B7_0
            have B4_1 := get_set_ne (x := AObj.cells [.int .i64 0, .bool true, .bool x.lv, .int .i64 0, .string ⟨#[]⟩, .slice none 0 0] true) B4_0 (show h.length + 1 ≠ h.length by omega)
            have K_2 := K_1.setN (show h.length ≤ h.length + 1 by omega) (AObj.cells [.int .i64 0, .bool true, .bool x.lv, .int .i64 x.fk, .string x.ft, .slice none 0 0] true)
            have B7_2 := get_set_eq (x := AObj.cells [.int .i64 0, .bool true, .bool x.lv, .int .i64 x.fk, .string x.ft, .slice none 0 0] true) B7_1
            have B4_2 := get_set_ne (x := AObj.cells [.int .i64 0, .bool true, .bool x.lv, .int .i64 x.fk, .string x.ft, .slice none 0 0] true) B4_1 (show h.length + 1 ≠ h.length by omega)
            obtain ⟨E1, g', v', l1, l2, l3, l4, l5, l6⟩ := task_loop a hx hop (fun s hs => ok.opn k x s hx hs) (by omega) x.opn.length 0 [(71, .int .i64 0), (70, .int .i64 (Int.ofNat x.opn.length)), (69, .slice (some ⟨oo, 0, none⟩) x.opn.length 1), (7, ptr (h.length + 1)), (4, ptr h.length)] _ (.slice none 0 0) (by omega) (EnvLe.refl _) K_2 B4_2 B7_2 (.inl ⟨rfl, rfl, rfl⟩)
            obtain ⟨oa, la, za, hv'⟩ : ∃ oa la za, v' = .slice oa la za := by rcases l6 with ⟨_, _, e⟩ | ⟨_, _, o, e, _⟩ <;> exact ⟨_, _, _, e⟩
            subst hv'
            exact ⟨.slice oa la za, _, pvF 0 Try.func13 (r13p.ta_011 r h.length (h.length + 1) to t.tks.length k i 0 oo x.opn.length n (n - 1) 0 x.fk true x.lv x.ft [.int .i64 0, .bool true, .bool x.lv, .int .i64 0, .string ⟨#[]⟩, .slice none 0 0] [] [.int .i64 0, .bool true, .bool x.lv, .int .i64 x.fk, .string x.ft, .slice none 0 0] [] oa la za h g') ⟨rfl, q1, hd, q2, hd, p1, p2, p3 _ KA, S0, Len _ KA, Llv _ KA, lb7, st7 _ _ _ _ _ B7_0 (by simp) rfl, Lin _ K_1, Len _ K_1, Lft _ K_1, st7 _ _ _ _ _ B7_1 (by simp) rfl, Lop _ K_2, a_loop (by kernel_rfl) (.add (.add (.add (.add (.add (.nil _) rfl) rfl) rfl) rfl) rfl) l1 l2, a_ldn l5 (by simp) rfl, st4 _ _ l4 rfl, a_ldn (get_set_eq l4) (by simp) rfl, trivial⟩, l3.setN (Nat.le_refl _) _, l6.keep (Keep.set (fp := fun q => q = h.length) rfl _) (fun q e => by omega)⟩
      | some s =>
        have hsl := ok.inn k x s hx hinn
        obtain ⟨si, hsi⟩ := a.sh.sc s hsl
        obtain ⟨y, hy⟩ : ∃ y, t.scs[s]? = some y := ⟨_, List.getElem?_eq_getElem hsl⟩
        rw [hinn] at Lin
        simp only [inP, hsi, pvv] at Lin
        have Ls : ∀ (s' : SH), Keep (fun _ => False) h s'.den → (Asm.ld1 s' si 0 (.int .i64 ((s + 1 : Nat) : Int))).holds Try.prog := fun s' K => (a.grow K).ld1 rfl hsi (by rw [cont_sc hy]; rfl)
        cases hen : x.en with
        | false =>
          rw [hen] at Len
          cases hop : ρ (.op k) with
          | none =>
            have h0 := a.sh.op k x hx hop
            rw [hop, h0] at Lop
            simp only [tkV, hinn, hen, lkN, if_true, if_false, Bool.false_eq_true, h0]
            have B7_0 := B7
            have B4_0 := B4
            have K_0 := KB
            have K_1 := K_0.setN (show h.length ≤ h.length + 1 by omega) (AObj.cells [.int .i64 0, .bool false, .bool x.lv, .int .i64 0, .string ⟨#[]⟩, .slice none 0 0] true)
            have B7_1 := get_set_eq (x := AObj.cells [.int .i64 0, .bool false, .bool x.lv, .int .i64 0, .string ⟨#[]⟩, .slice none 0 0] true) B7_0
            have B4_1 := get_set_ne (x := AObj.cells [.int .i64 0, .bool false, .bool x.lv, .int .i64 0, .string ⟨#[]⟩, .slice none 0 0] true) B4_0 (show h.length + 1 ≠ h.length by omega)
            have K_2 := K_1.setN (show h.length ≤ h.length + 1 by omega) (AObj.cells [.int .i64 ((s + 1 : Nat) : Int), .bool false, .bool x.lv, .int .i64 0, .string ⟨#[]⟩, .slice none 0 0] true)
            have B7_2 := get_set_eq (x := AObj.cells [.int .i64 ((s + 1 : Nat) : Int), .bool false, .bool x.lv, .int .i64 0, .string ⟨#[]⟩, .slice none 0 0] true) B7_1
            have B4_2 := get_set_ne (x := AObj.cells [.int .i64 ((s + 1 : Nat) : Int), .bool false, .bool x.lv, .int .i64 0, .string ⟨#[]⟩, .slice none 0 0] true) B4_1 (show h.length + 1 ≠ h.length by omega)
            exact ⟨.slice none 0 0, _, pvF 0 Try.func13 (r13p.ta_100 r h.length (h.length + 1) to t.tks.length k i si 0 0 n (n - 1) ((s + 1 : Nat) : Int) 0 false x.lv ⟨#[]⟩ [.int .i64 0, .bool false, .bool x.lv, .int .i64 0, .string ⟨#[]⟩, .slice none 0 0] [.int .i64 ((s + 1 : Nat) : Int), .bool false, .bool x.lv, .int .i64 0, .string ⟨#[]⟩, .slice none 0 0] [] [] none 0 0 h h) ⟨rfl, q1, hd, q2, hd, p1, p2, p3 _ KA, S0, Len _ KA, Llv _ KA, lb7, st7 _ _ _ _ _ B7_0 (by simp) rfl, Lin _ K_1, Lin _ K_1, Ls _ K_1, st7 _ _ _ _ _ B7_1 (by simp) rfl, Len _ K_2, Lop _ K_2, ltF (by omega), a_ldn B7_2 (by simp) rfl, st4 _ _ B4_2 rfl, a_ldn (get_set_eq B4_2) (by simp) rfl, trivial⟩, K_2.setN (Nat.le_refl _) _, .inl ⟨rfl, rfl, rfl⟩⟩
          | some oo =>
            rw [hop] at Lop
            simp only [tkV, hinn, hen, lkN, if_true, if_false, Bool.false_eq_true]
            have B7_0 := B7
            have B4_0 := B4
            have K_0 := KB
            have K_1 := K_0.setN (show h.length ≤ h.length + 1 by omega) (AObj.cells [.int .i64 0, .bool false, .bool x.lv, .int .i64 0, .string ⟨#[]⟩, .slice none 0 0] true)
            have B7_1 := get_set_eq (x := AObj.cells [.int .i64 0, .bool false, .bool x.lv, .int .i64 0, .string ⟨#[]⟩, .slice none 0 0] true) B7_0
            have B4_1 := get_set_ne (x := AObj.cells [.int .i64 0, .bool false, .bool x.lv, .int .i64 0, .string ⟨#[]⟩, .slice none 0 0] true) B4_0 (show h.length + 1 ≠ h.length by omega)
            have K_2 := K_1.setN (show h.length ≤ h.length + 1 by omega) (AObj.cells [.int .i64 ((s + 1 : Nat) : Int), .bool false, .bool x.lv, .int .i64 0, .string ⟨#[]⟩, .slice none 0 0] true)
            have B7_2 := get_set_eq (x := AObj.cells [.int .i64 ((s + 1 : Nat) : Int), .bool false, .bool x.lv, .int .i64 0, .string ⟨#[]⟩, .slice none 0 0] true) B7_1
            have B4_2 := get_set_ne (x := AObj.cells [.int .i64 ((s + 1 : Nat) : Int), .bool false, .bool x.lv, .int .i64 0, .string ⟨#[]⟩, .slice none 0 0] true) B4_1 (show h.length + 1 ≠ h.length by omega)
            obtain ⟨E1, g', v', l1, l2, l3, l4, l5, l6⟩ := task_loop a hx hop (fun s hs => ok.opn k x s hx hs) (by omega) x.opn.length 0 [(71, .int .i64 0), (70, .int .i64 (Int.ofNat x.opn.length)), (69, .slice (some ⟨oo, 0, none⟩) x.opn.length 1), (7, ptr (h.length + 1)), (4, ptr h.length)] _ (.slice none 0 0) (by omega) (EnvLe.refl _) K_2 B4_2 B7_2 (.inl ⟨rfl, rfl, rfl⟩)
            obtain ⟨oa, la, za, hv'⟩ : ∃ oa la za, v' = .slice oa la za := by rcases l6 with ⟨_, _, e⟩ | ⟨_, _, o, e, _⟩ <;> exact ⟨_, _, _, e⟩
            subst hv'
            exact ⟨.slice oa la za, _, pvF 0 Try.func13 (r13p.ta_101 r h.length (h.length + 1) to t.tks.length k i si oo x.opn.length n (n - 1) ((s + 1 : Nat) : Int) 0 false x.lv ⟨#[]⟩ [.int .i64 0, .bool false, .bool x.lv, .int .i64 0, .string ⟨#[]⟩, .slice none 0 0] [.int .i64 ((s + 1 : Nat) : Int), .bool false, .bool x.lv, .int .i64 0, .string ⟨#[]⟩, .slice none 0 0] [] [] oa la za h g') ⟨rfl, q1, hd, q2, hd, p1, p2, p3 _ KA, S0, Len _ KA, Llv _ KA, lb7, st7 _ _ _ _ _ B7_0 (by simp) rfl, Lin _ K_1, Lin _ K_1, Ls _ K_1, st7 _ _ _ _ _ B7_1 (by simp) rfl, Len _ K_2, Lop _ K_2, a_loop (by kernel_rfl) (.add (.add (.add (.add (.add (.nil _) rfl) rfl) rfl) rfl) rfl) l1 l2, a_ldn l5 (by simp) rfl, st4 _ _ l4 rfl, a_ldn (get_set_eq l4) (by simp) rfl, trivial⟩, l3.setN (Nat.le_refl _) _, l6.keep (Keep.set (fp := fun q => q = h.length) rfl _) (fun q e => by omega)⟩
        | true =>
          rw [hen] at Len
          cases hop : ρ (.op k) with
          | none =>
            have h0 := a.sh.op k x hx hop
            rw [hop, h0] at Lop
            simp only [tkV, hinn, hen, lkN, if_true, if_false, Bool.false_eq_true, h0]
            have B7_0 := B7
            have B4_0 := B4
            have K_0 := KB
            have K_1 := K_0.setN (show h.length ≤ h.length + 1 by omega) (AObj.cells [.int .i64 0, .bool true, .bool x.lv, .int .i64 0, .string ⟨#[]⟩, .slice none 0 0] true)
            have B7_1 := get_set_eq (x := AObj.cells [.int .i64 0, .bool true, .bool x.lv, .int .i64 0, .string ⟨#[]⟩, .slice none 0 0] true) B7_0
            have B4_1 := get_set_ne (x := AObj.cells [.int .i64 0, .bool true, .bool x.lv, .int .i64 0, .string ⟨#[]⟩, .slice none 0 0] true) B4_0 (show h.length + 1 ≠ h.length by omega)
            have K_2 := K_1.setN (show h.length ≤ h.length + 1 by omega) (AObj.cells [.int .i64 ((s + 1 : Nat) : Int), .bool true, .bool x.lv, .int .i64 0, .string ⟨#[]⟩, .slice none 0 0] true)
            have B7_2 := get_set_eq (x := AObj.cells [.int .i64 ((s + 1 : Nat) : Int), .bool true, .bool x.lv, .int .i64 0, .string ⟨#[]⟩, .slice none 0 0] true) B7_1
            have B4_2 := get_set_ne (x := AObj.cells [.int .i64 ((s + 1 : Nat) : Int), .bool true, .bool x.lv, .int .i64 0, .string ⟨#[]⟩, .slice none 0 0] true) B4_1 (show h.length + 1 ≠ h.length by omega)
            have K_3 := K_2.setN (show h.length ≤ h.length + 1 by omega) (AObj.cells [.int .i64 ((s + 1 : Nat) : Int), .bool true, .bool x.lv, .int .i64 x.fk, .string x.ft, .slice none 0 0] true)
            have B7_3 := get_set_eq (x := AObj.cells [.int .i64 ((s + 1 : Nat) : Int), .bool true, .bool x.lv, .int .i64 x.fk, .string x.ft, .slice none 0 0] true) B7_2
            have B4_3 := get_set_ne (x := AObj.cells [.int .i64 ((s + 1 : Nat) : Int), .bool true, .bool x.lv, .int .i64 x.fk, .string x.ft, .slice none 0 0] true) B4_2 (show h.length + 1 ≠ h.length by omega)
            exact ⟨.slice none 0 0, _, pvF 0 Try.func13 (r13p.ta_110 r h.length (h.length + 1) to t.tks.length k i si 0 0 n (n - 1) ((s + 1 : Nat) : Int) x.fk true x.lv x.ft [.int .i64 0, .bool true, .bool x.lv, .int .i64 0, .string ⟨#[]⟩, .slice none 0 0] [.int .i64 ((s + 1 : Nat) : Int), .bool true, .bool x.lv, .int .i64 0, .string ⟨#[]⟩, .slice none 0 0] [.int .i64 ((s + 1 : Nat) : Int), .bool true, .bool x.lv, .int .i64 x.fk, .string x.ft, .slice none 0 0] [] none 0 0 h h) ⟨rfl, q1, hd, q2, hd, p1, p2, p3 _ KA, S0, Len _ KA, Llv _ KA, lb7, st7 _ _ _ _ _ B7_0 (by simp) rfl, Lin _ K_1, Lin _ K_1, Ls _ K_1, st7 _ _ _ _ _ B7_1 (by simp) rfl, Len _ K_2, Lft _ K_2, st7 _ _ _ _ _ B7_2 (by simp) rfl, Lop _ K_3, ltF (by omega), a_ldn B7_3 (by simp) rfl, st4 _ _ B4_3 rfl, a_ldn (get_set_eq B4_3) (by simp) rfl, trivial⟩, K_3.setN (Nat.le_refl _) _, .inl ⟨rfl, rfl, rfl⟩⟩
          | some oo =>
            rw [hop] at Lop
            simp only [tkV, hinn, hen, lkN, if_true, if_false, Bool.false_eq_true]
            have B7_0 := B7
            have B4_0 := B4
            have K_0 := KB
            have K_1 := K_0.setN (show h.length ≤ h.length + 1 by omega) (AObj.cells [.int .i64 0, .bool true, .bool x.lv, .int .i64 0, .string ⟨#[]⟩, .slice none 0 0] true)
            have B7_1 := get_set_eq (x := AObj.cells [.int .i64 0, .bool true, .bool x.lv, .int .i64 0, .string ⟨#[]⟩, .slice none 0 0] true) B7_0
            have B4_1 := get_set_ne (x := AObj.cells [.int .i64 0, .bool true, .bool x.lv, .int .i64 0, .string ⟨#[]⟩, .slice none 0 0] true) B4_0 (show h.length + 1 ≠ h.length by omega)
            have K_2 := K_1.setN (show h.length ≤ h.length + 1 by omega) (AObj.cells [.int .i64 ((s + 1 : Nat) : Int), .bool true, .bool x.lv, .int .i64 0, .string ⟨#[]⟩, .slice none 0 0] true)
            have B7_2 := get_set_eq (x := AObj.cells [.int .i64 ((s + 1 : Nat) : Int), .bool true, .bool x.lv, .int .i64 0, .string ⟨#[]⟩, .slice none 0 0] true) B7_1
            have B4_2 := get_set_ne (x := AObj.cells [.int .i64 ((s + 1 : Nat) : Int), .bool true, .bool x.lv, .int .i64 0, .string ⟨#[]⟩, .slice none 0 0] true) B4_1 (show h.length + 1 ≠ h.length by omega)
            have K_3 := K_2.setN (show h.length ≤ h.length + 1 by omega) (AObj.cells [.int .i64 ((s + 1 : Nat) : Int), .bool true, .bool x.lv, .int .i64 x.fk, .string x.ft, .slice none 0 0] true)
            have B7_3 := get_set_eq (x := AObj.cells [.int .i64 ((s + 1 : Nat) : Int), .bool true, .bool x.lv, .int .i64 x.fk, .string x.ft, .slice none 0 0] true) B7_2
            have B4_3 := get_set_ne (x := AObj.cells [.int .i64 ((s + 1 : Nat) : Int), .bool true, .bool x.lv, .int .i64 x.fk, .string x.ft, .slice none 0 0] true) B4_2 (show h.length + 1 ≠ h.length by omega)
            obtain ⟨E1, g', v', l1, l2, l3, l4, l5, l6⟩ := task_loop a hx hop (fun s hs => ok.opn k x s hx hs) (by omega) x.opn.length 0 [(71, .int .i64 0), (70, .int .i64 (Int.ofNat x.opn.length)), (69, .slice (some ⟨oo, 0, none⟩) x.opn.length 1), (7, ptr (h.length + 1)), (4, ptr h.length)] _ (.slice none 0 0) (by omega) (EnvLe.refl _) K_3 B4_3 B7_3 (.inl ⟨rfl, rfl, rfl⟩)
            obtain ⟨oa, la, za, hv'⟩ : ∃ oa la za, v' = .slice oa la za := by rcases l6 with ⟨_, _, e⟩ | ⟨_, _, o, e, _⟩ <;> exact ⟨_, _, _, e⟩
            subst hv'
            exact ⟨.slice oa la za, _, pvF 0 Try.func13 (r13p.ta_111 r h.length (h.length + 1) to t.tks.length k i si oo x.opn.length n (n - 1) ((s + 1 : Nat) : Int) x.fk true x.lv x.ft [.int .i64 0, .bool true, .bool x.lv, .int .i64 0, .string ⟨#[]⟩, .slice none 0 0] [.int .i64 ((s + 1 : Nat) : Int), .bool true, .bool x.lv, .int .i64 0, .string ⟨#[]⟩, .slice none 0 0] [.int .i64 ((s + 1 : Nat) : Int), .bool true, .bool x.lv, .int .i64 x.fk, .string x.ft, .slice none 0 0] [] oa la za h g') ⟨rfl, q1, hd, q2, hd, p1, p2, p3 _ KA, S0, Len _ KA, Llv _ KA, lb7, st7 _ _ _ _ _ B7_0 (by simp) rfl, Lin _ K_1, Lin _ K_1, Ls _ K_1, st7 _ _ _ _ _ B7_1 (by simp) rfl, Len _ K_2, Lft _ K_2, st7 _ _ _ _ _ B7_2 (by simp) rfl, Lop _ K_3, a_loop (by kernel_rfl) (.add (.add (.add (.add (.add (.nil _) rfl) rfl) rfl) rfl) rfl) l1 l2, a_ldn l5 (by simp) rfl, st4 _ _ l4 rfl, a_ldn (get_set_eq l4) (by simp) rfl, trivial⟩, l3.setN (Nat.le_refl _) _, l6.keep (Keep.set (fp := fun q => q = h.length) rfl _) (fun q e => by omega)⟩
end

end Go.Proofs.Ytahomnlkkafbjaa.tr

namespace Go.Proofs.Ytahomnlkkafbjaa.tr
open Go Go.Ev
set_option maxRecDepth 100000
set_option linter.unusedVariables false
set_option linter.constructorNameAsVariable false

/-! ### Scope -/

def nmL (l : List Nat) : List Value := l.map fun j => .int .i64 ((j + 1 : Nat) : Int)
theorem nmL_len (l : List Nat) : (nmL l).length = l.length := by simp [nmL]

theorem stat14 (k : Nat) (hk : k = 0 ∨ k = 1) : (Asm.stat (drawN Try.f14 k)).holds Try.prog := by
  rcases hk with rfl | rfl
  · exact show statOk (drawN Try.f14 0) = true by kernel_rfl
  · exact show statOk (drawN Try.f14 1) = true by kernel_rfl

section
variable {h : Hp} {ρ : Lay} {t : TS} {c r : Nat}

theorem scope_loop (a : TAt h ρ t) {kk : Nat} {x : Sc} {oo : Nat} (hx : t.scs[kk]? = some x) (ho : ρ (.st kk) = some oo) (hin : ∀ j, j ∈ x.tks → j < t.tks.length) (hlen : x.tks.length ≤ 1000000) {e0 e1 e2 e4 e5 : Value} {z4 : List Value} :
    ∀ (j i : Nat) (E : Env) (g : Hp) (v : Value), i + j = x.tks.length → EnvLe [(46, .int .i64 (i : Int)), (45, .int .i64 (Int.ofNat x.tks.length)), (44, .slice (some ⟨oo, 0, none⟩) x.tks.length 1), (8, ptr (h.length + 1)), (4, ptr h.length)] E →
      Keep (fun _ => False) h g → g[h.length]? = some (.cells z4 true) → g[h.length + 1]? = some (.cells [e0, e1, e2, v, e4, e5] true) → SlV g (h.length + 2) v i 1 (nmL (x.tks.take i)) →
      ∃ E1 g' v', EnvLe [(8, ptr (h.length + 1)), (4, ptr h.length)] E1 ∧ LRun Try.prog 61 false (loopN Try.f14 0) E g (.exit 0) E1 g' ∧ Keep (fun _ => False) h g' ∧ g'[h.length]? = some (.cells z4 true) ∧ g'[h.length + 1]? = some (.cells [e0, e1, e2, v', e4, e5] true) ∧ SlV g' (h.length + 2) v' x.tks.length 1 (nmL x.tks) := by
  intro j
  induction j with
  | zero =>
    intro i E g v hi hE K h4 h7 hv
    have e : i = x.tks.length := by omega
    subst e
    rw [List.take_length] at hv
    obtain ⟨E2, q1, q2⟩ := pvC 0 hE (r13p.sl_out (h.length + 1) h.length oo x.tks.length 0 0 0 0 0 0 _ 0 0 [] [] [] g g) ⟨ltF (by simp), trivial⟩
    exact ⟨E2, g, v, .trans (.add (.add (.nil _) rfl) rfl) q1, .last q2 (by simp), K, h4, h7, hv⟩
  | succ j ih =>
    intro i E g v hi hE K h4 h7 hv
    obtain ⟨w, hw⟩ : ∃ w, x.tks[i]? = some w := ⟨_, List.getElem?_eq_getElem (by omega)⟩
    have ag := a.grow K
    have hgl := K.1
    have hwl := hin w (List.mem_of_getElem? hw)
    obtain ⟨wi, hwi⟩ := a.sh.tk w hwl
    obtain ⟨y, hy⟩ : ∃ y, t.tks[w]? = some y := ⟨_, List.getElem?_eq_getElem hwl⟩
    have h7l := get_lt h7
    have g1 : (Asm.cmp .lss (i : Int) (Int.ofNat x.tks.length) true).holds Try.prog := ltT (by simp; omega)
    have g2' : (Asm.off i 0 (i : Int) x.tks.length 1).holds Try.prog := offI (q := i) rfl (by omega) (by omega)
    have g3 : (Asm.ld1 (.is g) oo i (ptr wi)).holds Try.prog := by
      have := ag.ld1 (P := Try.prog) (s := .is g) rfl ho (d := i) (v := pvv (ρ (.tk w))) (by rw [cont_st hx, List.getElem?_map, hw]; rfl)
      rwa [hwi] at this
    have g4 : (Asm.arith .add .i64 (i : Int) 1 ((i + 1 : Nat) : Int)).holds Try.prog := addI rfl (by omega) (by omega)
    have gk : (Asm.ld1 (.is g) wi 0 (.int .i64 ((w + 1 : Nat) : Int))).holds Try.prog := ag.ld1 rfl hwi (by rw [cont_tk hy]; rfl)
    have gl : (Asm.ld1 (.is g) (h.length + 1) 3 v).holds Try.prog := a_ld1 h7 rfl
    rcases hv with ⟨e0', e1', rfl⟩ | ⟨hn, hl, o, rfl, hob, hol⟩
    · subst e0'
      obtain ⟨E2, q1, q2⟩ := pvC 0 hE (r13p.sl_gon (h.length + 1) h.length oo x.tks.length 0 wi 0 g.length (g.length + 1) 0 _ ((0 + 1 : Nat) : Int) ((w + 1 : Nat) : Int) [] [.int .i64 ((w + 1 : Nat) : Int)] [e0, e1, e2, .slice (some ⟨g.length + 1, 0, none⟩) 1 1, e4, e5] g g)
        ⟨g1, g2', g3, stat14 1 (.inr rfl), gl, gk, rfl, a_appGN rfl rfl (by omega) (get_new _ _) (push_len _ _), a_st (get_push (get_push h7)) (by simp) rfl, g4, trivial⟩
      obtain ⟨E3, g5, v', s1, s2, s3⟩ := ih 1 E2 ((g ++ [AObj.cells [.int .i64 ((w + 1 : Nat) : Int)] true] ++ [AObj.cells [.int .i64 ((w + 1 : Nat) : Int)] true]).set (h.length + 1) (AObj.cells [e0, e1, e2, .slice (some ⟨g.length + 1, 0, none⟩) 1 1, e4, e5] true)) (.slice (some ⟨g.length + 1, 0, none⟩) 1 1) (by omega)
        (.trans (.add (.add (.add (.add (.add (.nil _) rfl) rfl) rfl) rfl) rfl) q1) (((K.pushN _).pushN _).setN (by omega) _) (get_set_ne (get_push (get_push h4)) (by omega)) (get_set_eq (get_push (get_push h7)))
        (.inr ⟨by omega, by rw [take_one hw]; simp [nmL], g.length + 1, rfl, by rw [take_one hw]; exact get_set_ne (by simp [nmL]) (by omega), by omega⟩)
      exact ⟨E3, g5, v', s1, .step q2 s2, s3⟩
    · have hol2 := get_lt hob
      obtain ⟨E2, q1, q2⟩ := pvC 0 hE (r13p.sl_gos (h.length + 1) h.length oo x.tks.length i wi o g.length (g.length + 1) i _ ((i + 1 : Nat) : Int) ((w + 1 : Nat) : Int) (nmL (x.tks.take i) ++ [.int .i64 ((w + 1 : Nat) : Int)]) [.int .i64 ((w + 1 : Nat) : Int)] [e0, e1, e2, .slice (some ⟨g.length + 1, 0, none⟩) (i + 1) 1, e4, e5] g g)
        ⟨g1, g2', g3, stat14 1 (.inr rfl), gl, gk, rfl, a_appGS (b := 8) (z := 1) rfl rfl (by omega) (by omega) hl (get_push hob) (get_new _ _) (push_len _ _), a_st (get_push (get_set_ne (get_push h7) (by omega))) (by simp) rfl, g4, trivial⟩
      obtain ⟨E3, g5, v', s1, s2, s3⟩ := ih (i + 1) E2 (((g ++ [AObj.cells [.int .i64 ((w + 1 : Nat) : Int)] true]).set o .dead ++ [AObj.cells (nmL (x.tks.take i) ++ [.int .i64 ((w + 1 : Nat) : Int)]) true]).set (h.length + 1) (AObj.cells [e0, e1, e2, .slice (some ⟨g.length + 1, 0, none⟩) (i + 1) 1, e4, e5] true)) (.slice (some ⟨g.length + 1, 0, none⟩) (i + 1) 1) (by omega)
        (.trans (.add (.add (.add (.add (.add (.nil _) rfl) rfl) rfl) rfl) rfl) q1) ((((K.pushN _).setN (by omega) _).pushN _).setN (by omega) _) (get_set_ne (get_push (get_set_ne (get_push h4) (by omega))) (by omega)) (get_set_eq (get_push (get_set_ne (get_push h7) (by omega))))
        (.inr ⟨by omega, by rw [nmL_len, List.length_take]; omega, g.length + 1, rfl, by
          rw [take_one hw]
          refine get_set_ne ?_ (by omega)
          rw [show nmL (x.tks.take i ++ [w]) = nmL (x.tks.take i) ++ [.int .i64 ((w + 1 : Nat) : Int)] by simp [nmL]]
          exact get_new' _ (by simp), by omega⟩)
      exact ⟨E3, g5, v', s1, .step q2 s2, s3⟩

/-- What is said of a scope. -/
structure ScV where
  ow : Int
  su : Bool
  ov : Bool
  tk : List Nat
  fk : Int
  ft : ByteArray
def ScV.zero : ScV := ⟨0, false, false, [], 0, ⟨#[]⟩⟩
def scV (x : Sc) : ScV := ⟨((x.ow + 1 : Nat) : Int), x.su, x.ov, x.tks, x.fk, x.ft⟩
def ScV.C (w : ScV) (v : Value) : List Value := [.int .i64 w.ow, .bool w.su, .bool w.ov, v, .int .i64 w.fk, .string w.ft]
def TS.sco (t : TS) (n : Int) : ScV × Int := match t.scope n with
  | (some s, _) => match t.scs[s]? with
    | some y => (scV y, 0)
    | none => (.zero, 6)
  | (none, _) => (.zero, 6)

theorem sco_run (a : TAt h ρ t) (ok : TOk c t) (hc : c ≤ 100000) (hr : ρ .root = some r) (n : Int) :
    ∃ v h', Run Try.prog 14 [ptr r, .int .i64 n] h (.tuple #[.agg ((t.sco n).1.C v).toArray, .int .i64 (t.sco n).2]) h' ∧ Keep (fun _ => False) h h' ∧ SlV h' (h.length + 2) v (t.sco n).1.tk.length 1 (nmL (t.sco n).1.tk) := by
  obtain ⟨g1, hg1⟩ : ∃ g1, g1 = h ++ [AObj.cells [.int .i64 0, .bool false, .bool false, .slice none 0 0, .int .i64 0, .string ⟨#[]⟩] true] := ⟨_, rfl⟩
  have K1 : Keep (fun _ => False) h g1 := by rw [hg1]; exact (Keep.refl (fun _ => False) h).pushN _
  have B4 : g1[h.length]? = some (.cells [.int .i64 0, .bool false, .bool false, .slice none 0 0, .int .i64 0, .string ⟨#[]⟩] true) := by rw [hg1]; exact get_new _ _
  have l1 : g1.length = h.length + 1 := by rw [hg1]; simp
  have R := scope_run (a.grow K1) ok hr n
  have R' : ∀ v, Run Try.prog 41 [ptr r, .int .i64 n] g1 v g1 → (Asm.call 41 [ptr r, .int .i64 n] (.push (.is h) (.cells [.int .i64 0, .bool false, .bool false, .slice none 0 0, .int .i64 0, .string ⟨#[]⟩] true)) v (.is g1)).holds Try.prog := fun v hv => by rw [hg1] at hv ⊢; exact hv
  have st4 : ∀ (s : SH) (l : List Value), s.den[h.length]? = some (.cells [.int .i64 0, .bool false, .bool false, .slice none 0 0, .int .i64 0, .string ⟨#[]⟩] true) → l.length = 6 → (Asm.st s h.length 0 l l).holds Try.prog := fun s l e hl => a_st e (by simp [hl]) (by simp [hl])
  rcases hq : t.scope n with ⟨k | k, e⟩
  · have e6 := scope_none hq
    subst e6
    rw [hq] at R
    have e' : t.sco n = (.zero, 6) := by simp only [TS.sco, hq]
    rw [e']
    exact ⟨.slice none 0 0, _, pvF 0 Try.func14 (r13p.sc_err r h.length 0 0 0 0 0 n 6 0 0 false false ⟨#[]⟩ [] [] none 0 0 h g1 h) ⟨rfl, R' _ R, neT (by omega), st4 _ _ B4 rfl, a_ldn (get_set_eq B4) (by simp) rfl, trivial⟩, K1.setN (Nat.le_refl _) _, .inl ⟨rfl, rfl, rfl⟩⟩
  · obtain ⟨rfl, hn, hk⟩ := scope_some hq
    obtain ⟨y, hy⟩ : ∃ y, t.scs[k]? = some y := ⟨_, List.getElem?_eq_getElem hk⟩
    obtain ⟨si, hs⟩ := a.sh.sc k hk
    have how := ok.ow k y hy
    obtain ⟨i, hi⟩ := a.sh.tk _ how
    obtain ⟨x, hx⟩ : ∃ x, t.tks[y.ow]? = some x := ⟨_, List.getElem?_eq_getElem how⟩
    rw [hq] at R
    simp only [inP, hs, pvv] at R
    have e' : t.sco n = (scV y, 0) := by simp only [TS.sco, hq, hy]
    rw [e']
    have hml := ok.mlen k y hy
    have ag := a.grow K1
    have c8 : ∀ v, (Asm.st (.push (.is g1) (.cells [.int .i64 0, .bool false, .bool false, .slice none 0 0, .int .i64 0, .string ⟨#[]⟩] true)) (h.length + 1) 0 [.int .i64 ((y.ow + 1 : Nat) : Int), .bool y.su, .bool y.ov, v, .int .i64 y.fk, .string y.ft] [.int .i64 ((y.ow + 1 : Nat) : Int), .bool y.su, .bool y.ov, v, .int .i64 y.fk, .string y.ft]).holds Try.prog := fun v => a_st (get_new' _ l1) (by simp) rfl
    have q1 : (Asm.ld1 (.is g1) si 1 (ptr i)).holds Try.prog := ag.ld1 rfl hs (by rw [cont_sc hy, scC, hi]; rfl)
    have q2 : (Asm.ld1 (.is g1) i 0 (.int .i64 ((y.ow + 1 : Nat) : Int))).holds Try.prog := ag.ld1 rfl hi (by rw [cont_tk hx]; rfl)
    have q3 : (Asm.ld1 (.is g1) si 2 (.bool y.su)).holds Try.prog := ag.ld1 rfl hs (by rw [cont_sc hy]; rfl)
    have q4 : (Asm.ld1 (.is g1) si 3 (.bool y.ov)).holds Try.prog := ag.ld1 rfl hs (by rw [cont_sc hy]; rfl)
    have q5 : (Asm.ldn (.is g1) si 6 2 (fltC y.fk y.ft)).holds Try.prog := ag.ldn rfl hs (by rw [cont_sc hy]; simp [scC]) (by rw [cont_sc hy]; rfl)
    obtain ⟨g2, hg2⟩ : ∃ g2, g2 = (g1 ++ [AObj.cells [.int .i64 0, .bool false, .bool false, .slice none 0 0, .int .i64 0, .string ⟨#[]⟩] true]).set (h.length + 1) (.cells [.int .i64 ((y.ow + 1 : Nat) : Int), .bool y.su, .bool y.ov, .slice none 0 0, .int .i64 y.fk, .string y.ft] true) := ⟨_, rfl⟩
    have K2 : Keep (fun _ => False) h g2 := by rw [hg2]; exact (K1.pushN _).setN (by omega) _
    have B8 : g2[h.length + 1]? = some (.cells [.int .i64 ((y.ow + 1 : Nat) : Int), .bool y.su, .bool y.ov, .slice none 0 0, .int .i64 y.fk, .string y.ft] true) := by rw [hg2]; exact get_set_eq (get_new' _ l1)
    have B42 : g2[h.length]? = some (.cells [.int .i64 0, .bool false, .bool false, .slice none 0 0, .int .i64 0, .string ⟨#[]⟩] true) := by rw [hg2]; exact get_set_ne (get_push B4) (by omega)
    have q6 : (Asm.ld1 (.set (.push (.is g1) (.cells [.int .i64 0, .bool false, .bool false, .slice none 0 0, .int .i64 0, .string ⟨#[]⟩] true)) (h.length + 1) (.cells [.int .i64 ((y.ow + 1 : Nat) : Int), .bool y.su, .bool y.ov, .slice none 0 0, .int .i64 y.fk, .string y.ft] true)) si 4 (slv (ρ (.st k)) y.tks.length)).holds Try.prog := (a.grow K2).ld1 (by rw [hg2]; rfl) hs (by rw [cont_sc hy]; rfl)
    cases hst : ρ (.st k) with
    | none =>
      have h0 := a.sh.st k y hy hst
      rw [hst, h0] at q6
      simp only [scV, h0]
      refine ⟨.slice none 0 0, _, pvF 0 Try.func14 (r13p.sc_0 r h.length (h.length + 1) si i 0 0 n 0 ((y.ow + 1 : Nat) : Int) y.fk y.su y.ov y.ft [.int .i64 ((y.ow + 1 : Nat) : Int), .bool y.su, .bool y.ov, .slice none 0 0, .int .i64 y.fk, .string y.ft] [] none 0 0 h g1 h) ⟨rfl, R' _ R, neF rfl, stat14 0 (.inl rfl), q1, q2, q3, q4, q5, l1, c8 _, q6, ltF (by omega),
        a_ldn (get_set_eq (get_new' _ l1)) (by simp) rfl, st4 _ _ (get_set_ne (get_push B4) (by omega)) rfl, a_ldn (get_set_eq (get_set_ne (get_push B4) (by omega))) (by simp) rfl, trivial⟩, ((K1.pushN _).setN (by omega) _).setN (Nat.le_refl _) _, .inl ⟨rfl, rfl, rfl⟩⟩
    | some oo =>
      rw [hst] at q6
      obtain ⟨E1, g', v', m1, m2, m3, m4, m5, m6⟩ := scope_loop a hy hst (fun j hj => ok.mem k y j hy hj) (by omega) y.tks.length 0 [(46, .int .i64 0), (45, .int .i64 (Int.ofNat y.tks.length)), (44, .slice (some ⟨oo, 0, none⟩) y.tks.length 1), (8, ptr (h.length + 1)), (4, ptr h.length)] g2 (.slice none 0 0) (by omega) (EnvLe.refl _) K2 B42 B8 (.inl ⟨rfl, rfl, rfl⟩)
      obtain ⟨oa, la, za, hv'⟩ : ∃ oa la za, v' = .slice oa la za := by rcases m6 with ⟨_, _, e⟩ | ⟨_, _, o, e, _⟩ <;> exact ⟨_, _, _, e⟩
      subst hv'
      rw [hg2] at m2
      exact ⟨.slice oa la za, _, pvF 0 Try.func14 (r13p.sc_1 r h.length (h.length + 1) si i oo y.tks.length n 0 ((y.ow + 1 : Nat) : Int) y.fk y.su y.ov y.ft [.int .i64 ((y.ow + 1 : Nat) : Int), .bool y.su, .bool y.ov, .slice none 0 0, .int .i64 y.fk, .string y.ft] [] oa la za h g1 g') ⟨rfl, R' _ R, neF rfl, stat14 0 (.inl rfl), q1, q2, q3, q4, q5, l1, c8 _, q6,
        a_loop (by kernel_rfl) (.add (.add (.add (.add (.add (.nil _) rfl) rfl) rfl) rfl) rfl) m1 m2, a_ldn m5 (by simp) rfl, st4 _ _ m4 rfl, a_ldn (get_set_eq m4) (by simp) rfl, trivial⟩, m3.setN (Nat.le_refl _) _, m6.keep (Keep.set (fp := fun q => q = h.length) rfl _) (fun q e => by omega)⟩
end

end Go.Proofs.Ytahomnlkkafbjaa.tr

namespace Go.Proofs.Ytahomnlkkafbjaa.tr
open Go Go.Ev
set_option maxRecDepth 100000
set_option linter.unusedVariables false
set_option linter.constructorNameAsVariable false

theorem awake_run (h : Hp) : Run Try.prog 12 [] h (.bool true) h := Run.of_ev (k := 60) (by kernel_rfl)

/-! ### Calls -/

structure OpV where
  k : Int
  n : Int
  y : Bool
  fk : Int
  ft : ByteArray
def OpV.cells (o : OpV) : List Value := [.int .i64 o.k, .int .i64 o.n, .bool o.y, .int .i64 o.fk, .string o.ft]
def opC : List OpV → List Value
  | [] => []
  | o :: l => o.cells ++ opC l
theorem opC_len : ∀ l : List OpV, (opC l).length = l.length * 5
  | [] => rfl
  | o :: l => by simp [opC, OpV.cells, opC_len l]; omega
theorem opC_at : ∀ {l : List OpV} {k : Nat} {o : OpV}, l[k]? = some o → ((opC l).drop (k * 5)).take 5 = o.cells
  | [], k, o, h => by simp at h
  | x :: l, 0, o, h => by
    simp at h; subst h
    simp [opC, OpV.cells]
  | x :: l, k + 1, o, h => by
    have := opC_at (l := l) (k := k) (o := o) (by simpa using h)
    rw [opC, List.drop_append, List.drop_of_length_le (by simp [OpV.cells]; omega), show (k + 1) * 5 - x.cells.length = k * 5 by simp [OpV.cells]; omega, List.nil_append]
    exact this

def TS.run (t : TS) (o : OpV) : TS × List Ef :=
  if o.k = 0 then ((t.open o.n o.y).1, []) else if o.k = 1 then ((t.spawn o.n).1, []) else if o.k = 2 then ((t.end o.n o.fk o.ft).1, (t.end o.n o.fk o.ft).2.1) else
  if o.k = 3 then ((t.leave o.n o.fk o.ft).1, (t.leave o.n o.fk o.ft).2.1) else if o.k = 4 then ((t.shield o.n).1, []) else if o.k = 5 then ((t.unveil o.n).1, []) else
  if o.k = 6 then ((t.fail o.n o.fk o.ft).1, (t.fail o.n o.fk o.ft).2.1) else if o.k = 7 then (t.root.1, []) else (t, [])

theorem TOk.run {t : TS} {c : Nat} {o : OpV} (ok : TOk c t) : TOk (c + 1) (t.run o).1 := by
  unfold TS.run
  repeat' split
  · exact ok.open
  · exact ok.spawn
  · exact ok.end
  · exact ok.leave
  · exact ok.shield
  · exact ok.unveil
  · exact ok.fail
  · exact ok.root
  · exact ok.mono (Nat.le_succ c)

section
variable {h : Hp} {ρ : Lay} {t : TS} {c r : Nat}

theorem run_run (a : TAt h ρ t) (ok : TOk c t) (hc : c ≤ 100000) (hr : ρ .root = some r) (o : OpV) :
    ∃ v ρ' h', Run Try.prog 16 [ptr r, .agg o.cells.toArray] h v h' ∧ TAt h' ρ' (t.run o).1 ∧ Step ρ h ρ' h' ∧ EfV h' (h.length + 1) ρ' v (t.run o).2 := by
  obtain ⟨k, n, y, fk, ft⟩ := o
  have a1 := a.push (AObj.cells (OpV.cells ⟨k, n, y, fk, ft⟩) true)
  have s1 := Step.push ρ h (AObj.cells (OpV.cells ⟨k, n, y, fk, ft⟩) true)
  have gb : (h ++ [AObj.cells (OpV.cells ⟨k, n, y, fk, ft⟩) true])[h.length]? = some (.cells (OpV.cells ⟨k, n, y, fk, ft⟩) true) := get_new _ _
  have L0 : (Asm.ld1 (.push (.is h) (.cells (OpV.cells ⟨k, n, y, fk, ft⟩) true)) h.length 0 (.int .i64 k)).holds Try.prog := a_ld1 gb rfl
  have L1 : (Asm.ld1 (.push (.is h) (.cells (OpV.cells ⟨k, n, y, fk, ft⟩) true)) h.length 1 (.int .i64 n)).holds Try.prog := a_ld1 gb rfl
  have L2 : (Asm.ld1 (.push (.is h) (.cells (OpV.cells ⟨k, n, y, fk, ft⟩) true)) h.length 2 (.bool y)).holds Try.prog := a_ld1 gb rfl
  have L3 : (Asm.ldn (.push (.is h) (.cells (OpV.cells ⟨k, n, y, fk, ft⟩) true)) h.length 3 2 [.int .i64 fk, .string ft]).holds Try.prog := a_ldn gb (by simp [OpV.cells]) rfl
  have nil : ∀ h' ρ', EfV h' (h.length + 1) ρ' (.slice none 0 0) [] := fun _ _ => .inl ⟨rfl, rfl⟩
  have ll : (h ++ [AObj.cells (OpV.cells ⟨k, n, y, fk, ft⟩) true]).length = h.length + 1 := push_len _ _
  by_cases c0 : k = 0
  · obtain ⟨ρ', h', r1, r2, r3⟩ := open_run a1 ok hc hr n y
    rw [show t.run ⟨k, n, y, fk, ft⟩ = ((t.open n y).1, []) by simp [TS.run, c0]]
    exact ⟨_, ρ', h', by subst c0; exact pvF 0 Try.func16 (r15p.rn_0 r h.length 0 n fk _ _ y ft (.bool true) h h') ⟨rfl, L0, eqT rfl, L1, L2, r1, trivial⟩, r2, s1.trans r3, nil _ _⟩
  by_cases c1 : k = 1
  · obtain ⟨ρ', h', r1, r2, r3⟩ := spawn_run a1 ok hc hr n
    rw [show t.run ⟨k, n, y, fk, ft⟩ = ((t.spawn n).1, []) by simp [TS.run, c0, c1]]
    exact ⟨_, ρ', h', pvF 0 Try.func16 (r15p.rn_1 r h.length k n fk _ _ y ft (.bool true) h h') ⟨rfl, L0, eqF c0, eqT c1, L1, r1, trivial⟩, r2, s1.trans r3, nil _ _⟩
  by_cases c2 : k = 2
  · obtain ⟨v, h', r1, r2, r3, r4⟩ := end_run a1 ok hc hr n fk ft
    rw [show t.run ⟨k, n, y, fk, ft⟩ = ((t.end n fk ft).1, (t.end n fk ft).2.1) by simp [TS.run, c0, c1, c2]]
    rw [ll] at r4
    exact ⟨_, ρ, h', pvF 0 Try.func16 (r15p.rn_2 r h.length k n fk 0 _ y ft v h h') ⟨rfl, L0, eqF c0, eqF c1, eqT c2, L1, L3, r1, trivial⟩, r2, s1.trans r3, r4⟩
  by_cases c3 : k = 3
  · obtain ⟨v, h', r1, r2, r3, r4⟩ := leave_run a1 ok hc hr n fk ft
    rw [show t.run ⟨k, n, y, fk, ft⟩ = ((t.leave n fk ft).1, (t.leave n fk ft).2.1) by simp [TS.run, c0, c1, c2, c3]]
    rw [ll] at r4
    exact ⟨_, ρ, h', pvF 0 Try.func16 (r15p.rn_3 r h.length k n fk 0 _ y ft v h h') ⟨rfl, L0, eqF c0, eqF c1, eqF c2, eqT c3, L1, L3, r1, trivial⟩, r2, s1.trans r3, r4⟩
  by_cases c4 : k = 4
  · obtain ⟨ρ', h', r1, r2, r3⟩ := shield_run a1 ok hc hr n
    rw [show t.run ⟨k, n, y, fk, ft⟩ = ((t.shield n).1, []) by simp [TS.run, c0, c1, c2, c3, c4]]
    exact ⟨_, ρ', h', pvF 0 Try.func16 (r15p.rn_4 r h.length k n fk 0 _ y ft (.bool true) h h') ⟨rfl, L0, eqF c0, eqF c1, eqF c2, eqF c3, eqT c4, L1, r1, trivial⟩, r2, s1.trans r3, nil _ _⟩
  by_cases c5 : k = 5
  · obtain ⟨ρ', h', r1, r2, r3⟩ := unveil_run a1 ok hc hr n
    rw [show t.run ⟨k, n, y, fk, ft⟩ = ((t.unveil n).1, []) by simp [TS.run, c0, c1, c2, c3, c4, c5]]
    exact ⟨_, ρ', h', pvF 0 Try.func16 (r15p.rn_5 r h.length k n fk 0 _ y ft (.bool true) h h') ⟨rfl, L0, eqF c0, eqF c1, eqF c2, eqF c3, eqF c4, eqT c5, L1, r1, trivial⟩, r2, s1.trans r3, nil _ _⟩
  by_cases c6 : k = 6
  · obtain ⟨v, h', r1, r2, r3, r4⟩ := fail_run a1 ok hc hr n fk ft
    rw [show t.run ⟨k, n, y, fk, ft⟩ = ((t.fail n fk ft).1, (t.fail n fk ft).2.1) by simp [TS.run, c0, c1, c2, c3, c4, c5, c6]]
    rw [ll] at r4
    exact ⟨_, ρ, h', pvF 0 Try.func16 (r15p.rn_6 r h.length k n fk 0 _ y ft v h h') ⟨rfl, L0, eqF c0, eqF c1, eqF c2, eqF c3, eqF c4, eqF c5, eqT c6, L1, L3, r1, trivial⟩, r2, s1.trans r3, r4⟩
  by_cases c7 : k = 7
  · obtain ⟨ρ', h', r1, r2, r3⟩ := root_run a1 ok hc hr
    rw [show t.run ⟨k, n, y, fk, ft⟩ = (t.root.1, []) by simp [TS.run, c0, c1, c2, c3, c4, c5, c6, c7]]
    exact ⟨_, ρ', h', pvF 0 Try.func16 (r15p.rn_7 r h.length k n fk _ _ y ft (.bool true) h h') ⟨rfl, L0, eqF c0, eqF c1, eqF c2, eqF c3, eqF c4, eqF c5, eqF c6, eqT c7, r1, trivial⟩, r2, s1.trans r3, nil _ _⟩
  · simp only [TS.run, c0, c1, c2, c3, c4, c5, c6, c7, if_false]
    exact ⟨_, ρ, _, pvF 0 Try.func16 (r15p.rn_8 r h.length k n fk 0 0 y ft (.bool true) h h) ⟨rfl, L0, eqF c0, eqF c1, eqF c2, eqF c3, eqF c4, eqF c5, eqF c6, eqF c7, trivial⟩, a1, s1, nil _ _⟩

/-- 'told': the effects, and whether there was no error. -/
def TS.told (t : TS) (o : OpV) : TS × List Ef × Bool :=
  if o.k = 2 then ((t.end o.n o.fk o.ft).1, (t.end o.n o.fk o.ft).2.1, decide ((t.end o.n o.fk o.ft).2.2 = 0)) else
  if o.k = 3 then ((t.leave o.n o.fk o.ft).1, (t.leave o.n o.fk o.ft).2.1, decide ((t.leave o.n o.fk o.ft).2.2 = 0)) else
  if o.k = 6 then ((t.fail o.n o.fk o.ft).1, (t.fail o.n o.fk o.ft).2.1, decide ((t.fail o.n o.fk o.ft).2.2 = 0)) else ((t.run o).1, (t.run o).2, true)
theorem told_run' {t : TS} {o : OpV} : (t.told o).1 = (t.run o).1 ∧ (t.told o).2.1 = (t.run o).2 := by
  unfold TS.told
  by_cases c2 : o.k = 2
  · simp [TS.run, c2]
  · by_cases c3 : o.k = 3
    · simp [TS.run, c3]
    · by_cases c6 : o.k = 6
      · simp [TS.run, c6]
      · simp [c2, c3, c6]

end

end Go.Proofs.Ytahomnlkkafbjaa.tr

namespace Go.Proofs.Ytahomnlkkafbjaa.tr
open Go Go.Ev
set_option maxRecDepth 100000
set_option linter.unusedVariables false
set_option linter.constructorNameAsVariable false

/-! ### made -/

def TS.runL (t : TS) (l : List OpV) : TS := l.foldl (fun t o => (t.run o).1) t
theorem runL_app (t : TS) (l m : List OpV) : t.runL (l ++ m) = (t.runL l).runL m := List.foldl_append
theorem TOk.runL {c : Nat} : ∀ {l : List OpV} {t : TS}, TOk c t → TOk (c + l.length) (t.runL l) := by
  intro l
  induction l generalizing c with
  | nil => intro t ok; exact ok
  | cons o l ih =>
    intro t ok
    have := ih ok.run (t := (t.run o).1)
    rw [List.length_cons, show c + (l.length + 1) = c + 1 + l.length by omega]
    exact this

/-- The calls that a law is given. -/
def OpsAt (h : Hp) (v : Value) (l : List OpV) : Prop := (l = [] ∧ v = .slice none 0 0) ∨ ∃ o rw, v = .slice (some ⟨o, 0, none⟩) l.length 5 ∧ h[o]? = some (.cells (opC l) rw)

theorem Made.step {h g g' : Hp} {ρ ρ' : Lay} {b : Nat} (m : Made h g ρ b) (s : Step ρ g ρ' g') : Made h g' ρ' b :=
  ⟨m.keep.trans_new s.keep fun q hq e => by have := m.new q e; omega, s.root.trans m.root, fun q e => (s.new q e).elim (m.new q) fun e => Nat.le_trans m.keep.1 e⟩
theorem Made.grow {h g g' : Hp} {ρ : Lay} {b : Nat} (m : Made h g ρ b) (K : Keep (fun _ => False) g g') : Made h g' ρ b := m.step (Step.grow K)
/-- What was there before the tree. -/
theorem Made.get {h g : Hp} {ρ : Lay} {b : Nat} (m : Made h g ρ b) {q : Nat} {o : AObj} (hq : h[q]? = some o) : g[q]? = some o := m.keep.2 q o hq id
theorem Made.from {h0 h g : Hp} {ρ : Lay} {b : Nat} (K : Keep (fun _ => False) h0 h) (m : Made h g ρ b) : Made h0 g ρ b :=
  ⟨K.trans m.keep, m.root, fun q e => Nat.le_trans K.1 (m.new q e)⟩

theorem made_loop {h : Hp} {b o n p : Nat} {rw : Bool} {l : List OpV} (hn : n ≤ 64) (hp : p ≤ l.length) (hp2 : p ≤ 1000) (ho : h[o]? = some (.cells (opC l) rw)) :
    ∀ (j i : Nat) (E : Env) (g : Hp) (ρ : Lay), i + j = p → EnvLe [(22, .int .i64 (i : Int)), (21, .int .i64 (Int.ofNat p)), (20, .slice (some ⟨o, 0, none⟩) p 5), (5, ptr b)] E → TAt g ρ ((TS.roots n).runL (l.take i)) → Made h g ρ b →
    ∃ E1 g' ρ', EnvLe [(5, ptr b)] E1 ∧ LRun Try.prog 31 false (loopN Try.f18 0) E g (.exit 0) E1 g' ∧ TAt g' ρ' ((TS.roots n).runL (l.take p)) ∧ Made h g' ρ' b := by
  intro j
  induction j with
  | zero =>
    intro i E g ρ hi hE a m
    have e : i = p := by omega
    subst e
    obtain ⟨E2, q1, q2⟩ := pvC 0 hE (r15p.ml_out b o i 0 0 i 0 0 0 0 false ⟨#[]⟩ (.bool true) g g) ⟨ltF (by simp), trivial⟩
    exact ⟨E2, g, ρ, .trans (.add (.nil _) rfl) q1, .last q2 (by simp), a, m⟩
  | succ j ih =>
    intro i E g ρ hi hE a m
    obtain ⟨x, hx⟩ : ∃ x, l[i]? = some x := ⟨_, List.getElem?_eq_getElem (by omega)⟩
    have hog := m.get ho
    have hat := opC_at hx
    have hlen := opC_len l
    have hnew : ((g ++ [AObj.cells [.int .i64 0, .int .i64 0, .bool false, .int .i64 0, .string ⟨#[]⟩] true]).set g.length (.cells x.cells true))[g.length]? = some (.cells x.cells true) := get_set_eq (get_new _ _)
    have K : Keep (fun _ => False) g ((g ++ [AObj.cells [.int .i64 0, .int .i64 0, .bool false, .int .i64 0, .string ⟨#[]⟩] true]).set g.length (.cells x.cells true)) := ((Keep.refl (fun _ => False) g).pushN _).setN (Nat.le_refl _) _
    have ok : TOk (n + (l.take i).length) ((TS.roots n).runL (l.take i)) := (roots_ok n hn).runL
    have hti : (l.take i).length ≤ i := by simp; omega
    obtain ⟨v, ρ', g2, r1, r2, r3, _⟩ := run_run (a.grow K) ok (by omega) m.root x
    obtain ⟨E2, q1, q2⟩ := pvC 0 hE (r15p.ml_go b o p (i * 5) g.length i ((i + 1 : Nat) : Int) x.k x.n x.fk x.y x.ft v g g2)
      ⟨ltT (by simp; omega), offI (q := i) rfl (by omega) (by omega), a_ldn hog (by omega) hat, rfl, a_st (get_new _ _) (by simp) rfl, a_ldn hnew (by simp [OpV.cells]) rfl, r1, addI rfl (by omega) (by omega), trivial⟩
    obtain ⟨E3, g3, ρ3, s1, s2, s3, s4⟩ := ih (i + 1) E2 g2 ρ' (by omega) (.trans (.add (.add (.add (.add (.nil _) rfl) rfl) rfl) rfl) q1) (by rw [take_one hx, runL_app]; exact r2) ((m.grow K).step r3)
    exact ⟨E3, g3, ρ3, s1, .step q2 s2, s3, s4⟩

theorem made_run {h : Hp} {l : List OpV} {vl : Value} (n : Int) (hv : OpsAt h vl l) :
    ((n < 1 ∨ 64 < n) ∧ Run Try.prog 18 [.int .i64 n, vl] h (.pointer none) h) ∨
    (1 ≤ n ∧ n ≤ 64 ∧ ∃ b ρ h', Run Try.prog 18 [.int .i64 n, vl] h (ptr b) h' ∧ TAt h' ρ ((TS.roots n.toNat).runL (l.take 60)) ∧ Made h h' ρ b) := by
  by_cases hn : n < 1 ∨ 64 < n
  · left
    refine ⟨hn, ?_⟩
    have r1 := new_low h hn
    rcases hv with ⟨_, rfl⟩ | ⟨o, rw, rfl, ho⟩
    · exact pvF 0 Try.func18 (r15p.ma_err 0 0 0 0 n 2 h h h) ⟨r1, neT (by omega), trivial⟩
    · exact pvF 0 Try.func18 (r15p.ma_errs 0 o l.length 0 n 2 h h h) ⟨r1, neT (by omega), trivial⟩
  · right
    obtain ⟨m, hm⟩ : ∃ m : Nat, n = m := ⟨n.toNat, by omega⟩
    subst hm
    obtain ⟨b, ρ, h1, r1, r2, r3⟩ := new_run h (n := m) (by omega) (by omega)
    rw [Int.toNat_natCast]
    refine ⟨by omega, by omega, b, ?_⟩
    rcases hv with ⟨rfl, rfl⟩ | ⟨o, rw, rfl, ho⟩
    · exact ⟨ρ, h1, pvF 0 Try.func18 (r15p.ma_nil b 0 0 0 m 0 h h1 h) ⟨r1, neF rfl, by simp [Asm.holds], ltF (by omega), trivial⟩, r2, r3⟩
    · obtain ⟨E1, g', ρ', q1, q2, q3, q4⟩ := made_loop (b := b) (n := m) (p := min l.length 60) (by omega) (by omega) (by omega) ho (min l.length 60) 0 [(22, .int .i64 0), (21, .int .i64 (Int.ofNat (min l.length 60))), (20, .slice (some ⟨o, 0, none⟩) (min l.length 60) 5), (5, ptr b)] h1 ρ (by omega) (EnvLe.refl _) r2 r3
      have e : l.take (min l.length 60) = l.take 60 := by
        by_cases c : l.length ≤ 60
        · rw [Nat.min_eq_left c, List.take_length, List.take_of_length_le c]
        · rw [Nat.min_eq_right (by omega)]
      rw [e] at q3
      exact ⟨ρ', g', pvF 0 Try.func18 (r15p.ma_some b o l.length (min l.length 60) m 0 h h1 g') ⟨r1, neF rfl, .inr ⟨rfl, by simp only [Int.ofNat_eq_natCast]; split <;> omega⟩, a_cut (by omega), a_loop (by kernel_rfl) (.add (.add (.add (.add (.nil _) rfl) rfl) rfl) rfl) q1 q2, trivial⟩, q3, q4⟩

end Go.Proofs.Ytahomnlkkafbjaa.tr

namespace Go.Proofs.Ytahomnlkkafbjaa.tr
open Go Go.Ev
set_option maxRecDepth 100000
set_option linter.unusedVariables false
set_option linter.constructorNameAsVariable false

/-! ### Arrays of faults -/

structure Ft where
  k : Int
  t : ByteArray
def Ft.cells (f : Ft) : List Value := [.int .i64 f.k, .string f.t]
def ftL (l : List Ft) : List Value := (l.map Ft.cells).flatten
def Ft.zero : Ft := ⟨0, ⟨#[]⟩⟩

end Go.Proofs.Ytahomnlkkafbjaa.tr

namespace Go.Proofs.Ytahomnlkkafbjaa.tr
open Go Go.Ev
set_option linter.unusedVariables false
set_option linter.constructorNameAsVariable false

/-! ### TreeFirst: the plain law -/

structure FI (first block : List Ft) (t : TS) : Prop where
  lf : first.length = 201
  lb : block.length = 201
  hf : ∀ (s : Nat) y, t.scs[s]? = some y → first[s + 1]? = some ⟨y.fk, y.ft⟩
  hb : ∀ (k : Nat) x s, t.tks[k]? = some x → x.lv = true → x.opn.getLast? = some (some s) → block[s + 1]? = some ⟨x.fk, x.ft⟩
  ho : ∀ (k : Nat) x s y, t.tks[k]? = some x → some s ∈ x.opn → t.scs[s]? = some y → y.ow = k
  hz : ∀ s, t.scs.length ≤ s → s < 200 → first[s + 1]? = some Ft.zero

/-- What the law asks of an effect. -/
def goodE (first block : List Ft) (e : Ef) : Prop := e.kind = 3 → ∃ m : Nat, e.m = m ∧ 1 ≤ m ∧ m ≤ 200 ∧ ∃ w bk, first[m]? = some w ∧ block[m]? = some bk ∧ (⟨e.fk, e.ft⟩ : Ft) = if w.k = 0 ∧ bk.k = 2 then bk else w

section
variable {first block : List Ft} {t : TS} {c k : Nat}

theorem upT_inv {f : Tk → Tk} {j : Nat} {z : Tk} (h : (t.upT k f).tks[j]? = some z) : ∃ x, t.tks[j]? = some x ∧ ((k = j ∧ z = f x) ∨ (k ≠ j ∧ z = x)) := by
  rw [upT_get] at h
  cases e : t.tks[j]? with
  | none => rw [e] at h; cases h
  | some x =>
    rw [e] at h
    simp only [Option.map_some, Option.some.injEq] at h
    split at h
    · rename_i e'; exact ⟨x, rfl, .inl ⟨e', h.symm⟩⟩
    · rename_i e'; exact ⟨x, rfl, .inr ⟨e', h.symm⟩⟩
theorem upS_inv {f : Sc → Sc} {j : Nat} {z : Sc} (h : (t.upS k f).scs[j]? = some z) : ∃ x, t.scs[j]? = some x ∧ ((k = j ∧ z = f x) ∨ (k ≠ j ∧ z = x)) := by
  rw [upS_get] at h
  cases e : t.scs[j]? with
  | none => rw [e] at h; cases h
  | some x =>
    rw [e] at h
    simp only [Option.map_some, Option.some.injEq] at h
    split at h
    · rename_i e'; exact ⟨x, rfl, .inl ⟨e', h.symm⟩⟩
    · rename_i e'; exact ⟨x, rfl, .inr ⟨e', h.symm⟩⟩

theorem FI.newT (I : FI first block t) (inn : Option Nat) : FI first block (t.newT inn) := by
  refine ⟨I.lf, I.lb, I.hf, fun j x s hx hl hg => ?_, fun j x s y hx hs hy => ?_, I.hz⟩
  · rcases newT_get hx with hx | ⟨_, rfl⟩
    · exact I.hb j x s hx hl hg
    · cases hl
  · rcases newT_get hx with hx | ⟨_, rfl⟩
    · exact I.ho j x s y hx hs hy
    · cases hs
theorem FI.newS (I : FI first block t) (ok : TOk c t) (hn : t.scs.length < 200) (su : Bool) : FI first block (t.newS k su) := by
  refine ⟨I.lf, I.lb, fun s y hy => ?_, I.hb, fun j x s y hx hs hy => ?_, fun s hs h2 => ?_⟩
  · rcases newS_get hy with hy | ⟨rfl, rfl⟩
    · exact I.hf s y hy
    · exact I.hz _ (Nat.le_refl _) hn
  · rcases newS_get hy with hy | ⟨rfl, rfl⟩
    · exact I.ho j x s y hx hs hy
    · have := ok.opn j x _ hx hs; omega
  · rw [newS_len] at hs
    exact I.hz s (by omega) h2
/-- A scope turned, its fault and its owner kept. -/
theorem FI.upS (I : FI first block t) {f : Sc → Sc} (h1 : ∀ y, (f y).fk = y.fk) (h2 : ∀ y, (f y).ft = y.ft) (h3 : ∀ y, (f y).ow = y.ow) : FI first block (t.upS k f) := by
  refine ⟨I.lf, I.lb, fun s y hy => ?_, I.hb, fun j x s y hx hs hy => ?_, fun s hs => I.hz s (by rw [upS_len] at hs; exact hs)⟩
  · obtain ⟨z, hz, ⟨_, rfl⟩ | ⟨_, rfl⟩⟩ := upS_inv hy
    · rw [h1, h2]; exact I.hf s z hz
    · exact I.hf s y hz
  · obtain ⟨z, hz, ⟨_, rfl⟩ | ⟨_, rfl⟩⟩ := upS_inv hy
    · rw [h3]; exact I.ho j x s z hx hs hz
    · exact I.ho j x s y hx hs hz
/-- A task turned: what it is after must be as is asked. -/
theorem FI.upT (I : FI first block t) {f : Tk → Tk} (hb : ∀ x s, t.tks[k]? = some x → (f x).lv = true → (f x).opn.getLast? = some (some s) → block[s + 1]? = some ⟨(f x).fk, (f x).ft⟩)
    (ho : ∀ x s y, t.tks[k]? = some x → some s ∈ (f x).opn → t.scs[s]? = some y → y.ow = k) : FI first block (t.upT k f) := by
  refine ⟨I.lf, I.lb, I.hf, fun j x s hx hl hg => ?_, fun j x s y hx hs hy => ?_, I.hz⟩
  · obtain ⟨z, hz, ⟨rfl, rfl⟩ | ⟨_, rfl⟩⟩ := upT_inv hx
    · exact hb z s hz hl hg
    · exact I.hb j x s hz hl hg
  · obtain ⟨z, hz, ⟨rfl, rfl⟩ | ⟨_, rfl⟩⟩ := upT_inv hx
    · exact ho z s y hz hs hy
    · exact I.ho j x s y hz hs hy

theorem FI.add (I : FI first block t) (inn : Option Nat) : FI first block (t.add inn) := by
  cases inn with
  | none => exact I.newT none
  | some s => exact FI.upS (f := fun x => { x with live := x.live + 1 }) (FI.upS (f := fun x => { x with tks := x.tks ++ [t.tks.length] }) (I.newT (some s)) (fun _ => rfl) (fun _ => rfl) fun _ => rfl) (fun _ => rfl) (fun _ => rfl) fun _ => rfl
theorem FI.root (I : FI first block t) : FI first block t.root.1 := by
  unfold TS.root
  split
  · exact I
  · exact I.add none
theorem FI.spawn (I : FI first block t) (n : Int) : FI first block (t.spawn n).1 := by
  unfold TS.spawn
  split
  · exact I
  · split
    · exact I
    · split
      · exact I
      · rename_i s hs
        split
        · exact I
        · exact I.add (some s)
theorem FI.open (I : FI first block t) (ok : TOk c t) (n : Int) (su : Bool) : FI first block (t.open n su).1 := by
  unfold TS.open
  split
  · exact I
  · rename_i k e hq
    split
    · exact I
    · obtain ⟨_, _, x, hx, _, hl⟩ := acts_some hq
      refine (I.newS ok (by omega) su).upT (fun z s hz hl' _ => ?_) fun z s y hz hs hy => ?_
      · have hz' : t.tks[k]? = some z := hz
        rw [hx] at hz'; cases hz'
        rw [hl] at hl'; cases hl'
      · have hz' : t.tks[k]? = some z := hz
        rcases List.mem_append.1 hs with hs | hs
        · rcases newS_get hy with hy | ⟨rfl, rfl⟩
          · exact I.ho k z s y hz' hs hy
          · rfl
        · simp at hs
          subst hs
          rw [newS_new] at hy; cases hy; rfl
theorem FI.shield (I : FI first block t) (n : Int) : FI first block (t.shield n).1 := by
  unfold TS.shield
  split
  · exact I
  · rename_i k e hq
    obtain ⟨_, _, x, hx, _, hl⟩ := acts_some hq
    rw [hx]
    simp only
    split
    · exact I
    · refine I.upT (fun z s hz hl' _ => ?_) fun z s y hz hs hy => ?_
      · rw [hx] at hz; cases hz
        rw [hl] at hl'; cases hl'
      · rcases List.mem_append.1 hs with hs | hs
        · exact I.ho k z s y hz hs hy
        · simp at hs
theorem FI.unveil (I : FI first block t) (n : Int) : FI first block (t.unveil n).1 := by
  unfold TS.unveil
  split
  · exact I
  · rename_i k e hq
    obtain ⟨_, _, x, hx, _, hl⟩ := acts_some hq
    rw [hx]
    simp only
    split
    · refine I.upT (fun z s hz hl' _ => ?_) fun z s y hz hs hy => ?_
      · rw [hx] at hz; cases hz
        rw [hl] at hl'; cases hl'
      · exact I.ho k z s y hz (List.dropLast_subset _ hs) hy
    · exact I

theorem FI.fin (I : FI first block t) (ok : TOk c t) (s : Nat) : FI first block (t.fin s).1 ∧ ∀ e, e ∈ (t.fin s).2 → goodE first block e := by
  have nil : ∀ e, e ∈ ([] : List Ef) → goodE first block e := fun e h => by cases h
  unfold TS.fin
  split
  · exact ⟨I, nil⟩
  · rename_i y hy
    split
    · exact ⟨I, nil⟩
    · rename_i x hx
      split
      · rename_i hB
        simp only [finB, Bool.and_eq_true, decide_eq_true_eq] at hB
        obtain ⟨⟨hl, hg⟩, _⟩ := hB
        refine ⟨?_, fun e he hk => ?_⟩
        · have I1 := I.upS (k := s) (f := fun y => { y with ov := true }) (fun _ => rfl) (fun _ => rfl) fun _ => rfl
          have hx1 : (t.upS s fun y => { y with ov := true }).tks[y.ow]? = some x := hx
          -- all three turns of the task at once
          have key : FI first block (((t.upS s fun y => { y with ov := true }).upT y.ow fun x => { x with opn := x.opn.dropLast, lv := false, fk := 0, ft := ⟨#[]⟩ })) := I1.upT (fun z s' hz hl' _ => by cases hl') fun z s' y' hz hs hy' => I1.ho y.ow z s' y' hz (List.dropLast_subset _ hs) hy'
          have e3 : t.fin0 s y.ow = ((t.upS s fun y => { y with ov := true }).upT y.ow fun x => { x with opn := x.opn.dropLast, lv := false, fk := 0, ft := ⟨#[]⟩ }) := by
            simp only [TS.fin0, TS.upT, TS.upS, List.modify_modify_eq]
            rfl
          rw [e3]
          exact key
        · have hs := get_lt' hy
          have n200 := ok.n200
          simp only [List.mem_singleton] at he
          subst he
          refine ⟨s + 1, rfl, by omega, by omega, _, _, I.hf s y hy, I.hb _ x s hx hl hg, ?_⟩
          simp only [finF]
          split <;> rfl
      · exact ⟨I, nil⟩

/-- A fault that a scope gets. -/
def gotF (first : List Ft) (got : Int) (fk : Int) (ft : ByteArray) : List Ft := if 0 < got ∧ fk = 1 ∧ (first[got.toNat]?.getD Ft.zero).k = 0 then first.set got.toNat ⟨fk, ft⟩ else first

theorem FI.blame (I : FI first block t) (ok : TOk c t) {s : Nat} {y : Sc} (hy : t.scs[s]? = some y) (fk : Int) (ft : ByteArray) : FI (gotF first ((s + 1 : Nat) : Int) fk ft) block (t.blame s fk ft).1 := by
  have hs := get_lt' hy
  have n200 := ok.n200
  have hfy := I.hf s y hy
  have e1 : (first[(((s + 1 : Nat) : Int)).toNat]?.getD Ft.zero).k = y.fk := by rw [Int.toNat_natCast, hfy]; rfl
  unfold gotF
  rw [e1, Int.toNat_natCast]
  unfold TS.blame
  rw [hy]
  simp only
  by_cases hc : fk = 1 ∧ y.fk = 0
  · rw [if_pos ⟨by omega, hc⟩, if_pos (by simp [blameB, hc])]
    refine ⟨by rw [List.length_set]; exact I.lf, I.lb, fun s' y' hy' => ?_, I.hb, fun j x s' y' hx hs' hy' => ?_, fun s' hs' h2 => ?_⟩
    · obtain ⟨z, hz, ⟨rfl, rfl⟩ | ⟨hn, rfl⟩⟩ := upS_inv hy'
      · rw [List.getElem?_set_self (by rw [I.lf]; omega)]
      · rw [List.getElem?_set_ne (by omega)]; exact I.hf s' y' hz
    · obtain ⟨z, hz, ⟨rfl, rfl⟩ | ⟨hn, rfl⟩⟩ := upS_inv hy'
      · exact I.ho j x s z hx hs' hz
      · exact I.ho j x s' y' hx hs' hz
    · rw [upS_len] at hs'
      rw [List.getElem?_set_ne (by omega)]; exact I.hz s' hs' h2
  · rw [if_neg fun e => hc e.2, if_neg (by simp [blameB]; intro a b; exact hc ⟨a, b⟩)]
    exact I
end

end Go.Proofs.Ytahomnlkkafbjaa.tr

namespace Go.Proofs.Ytahomnlkkafbjaa.tr
open Go Go.Ev
set_option linter.unusedVariables false
set_option linter.constructorNameAsVariable false

/-! ### How a tree hangs together -/

def TS.rn (t : TS) (j : Nat) : Bool := match t.tks[j]? with
  | some x => !x.en
  | none => false
theorem rn_of {t : TS} {j : Nat} {x : Tk} (h : t.tks[j]? = some x) : t.rn j = !x.en := by simp only [TS.rn, h]

/-- e: a scope that is about to be left. -/
structure WI (e : Option Nat) (t : TS) : Prop where
  ow1 : ∀ (k : Nat) x s y, t.tks[k]? = some x → some s ∈ x.opn → t.scs[s]? = some y → y.ow = k
  nd : ∀ (k : Nat) x, t.tks[k]? = some x → (x.opn.filterMap id).Nodup
  mem : ∀ (s : Nat) y j, t.scs[s]? = some y → (j ∈ y.tks ↔ ∃ x, t.tks[j]? = some x ∧ x.inn = some s)
  mnd : ∀ (s : Nat) y, t.scs[s]? = some y → y.tks.Nodup
  lv : ∀ (k : Nat) x, t.tks[k]? = some x → x.lv = true → x.en = false ∧ ∃ s y, x.opn.getLast? = some (some s) ∧ t.scs[s]? = some y ∧ (0 < y.live ∨ e = some s)
  en : ∀ (k : Nat) x, t.tks[k]? = some x → x.en = true → x.opn = []
  live : ∀ (s : Nat) y, t.scs[s]? = some y → y.live = ((y.tks.countP t.rn : Nat) : Int)
  ov : ∀ (s : Nat) y x, t.scs[s]? = some y → t.tks[y.ow]? = some x → (y.ov = false ↔ some s ∈ x.opn)
  ov2 : ∀ (s : Nat) y, t.scs[s]? = some y → y.ov = true → y.live = 0
  up : ∀ (j : Nat) x s y, t.tks[j]? = some x → x.inn = some s → t.scs[s]? = some y → y.ow < j

section
variable {e e' : Option Nat} {t : TS} {c k : Nat}

theorem WI.upT (W : WI e t) {x : Tk} (hx : t.tks[k]? = some x) {f : Tk → Tk} (h1 : (f x).inn = x.inn) (h2 : (f x).en = x.en) (ho : ∀ s y, some s ∈ (f x).opn → t.scs[s]? = some y → y.ow = k) (hn : ((f x).opn.filterMap id).Nodup)
    (hl : (f x).lv = true → (f x).en = false ∧ ∃ s y, (f x).opn.getLast? = some (some s) ∧ t.scs[s]? = some y ∧ (0 < y.live ∨ e' = some s)) (hen : (f x).en = true → (f x).opn = [])
    (hov : ∀ s y, t.scs[s]? = some y → y.ow = k → (y.ov = false ↔ some s ∈ (f x).opn)) (he : ∀ s, e = some s → e' = some s) : WI e' (t.upT k f) := by
  have rn : ∀ j, (t.upT k f).rn j = t.rn j := fun j => by
    simp only [TS.rn]
    rw [upT_get]
    cases hj : t.tks[j]? with
    | none => rfl
    | some z =>
      simp only [Option.map_some]
      split
      · rename_i ek; subst ek; rw [hx] at hj; cases hj; rw [h2]
      · rfl
  have rn' : (t.upT k f).rn = t.rn := funext rn
  refine ⟨fun j z s y hz hs hy => ?_, fun j z hz => ?_, fun s y j hy => ?_, W.mnd, fun j z hz hlv => ?_, fun j z hz hen' => ?_, fun s y hy => ?_, fun s y z hy hz => ?_, W.ov2, fun j z s y hz hi hy => ?_⟩
  · obtain ⟨w, hw, ⟨rfl, rfl⟩ | ⟨_, rfl⟩⟩ := upT_inv hz
    · rw [hx] at hw; cases hw; exact ho s y hs hy
    · exact W.ow1 j z s y hw hs hy
  · obtain ⟨w, hw, ⟨rfl, rfl⟩ | ⟨_, rfl⟩⟩ := upT_inv hz
    · rw [hx] at hw; cases hw; exact hn
    · exact W.nd j z hw
  · rw [W.mem s y j hy, upT_get]
    constructor
    · rintro ⟨z, hz, hi⟩
      rw [hz]
      refine ⟨_, rfl, ?_⟩
      split
      · rename_i ek; subst ek; rw [hx] at hz; cases hz; rw [h1]; exact hi
      · exact hi
    · rintro ⟨z, hz, hi⟩
      cases hj : t.tks[j]? with
      | none => rw [hj] at hz; cases hz
      | some w =>
        rw [hj] at hz
        simp only [Option.map_eq_map, Option.map_some, Option.some.injEq] at hz
        refine ⟨w, rfl, ?_⟩
        split at hz
        · rename_i ek; subst ek; rw [hx] at hj; cases hj; rw [← h1, hz]; exact hi
        · rw [hz]; exact hi
  · obtain ⟨w, hw, ⟨rfl, rfl⟩ | ⟨_, rfl⟩⟩ := upT_inv hz
    · rw [hx] at hw; cases hw; exact hl hlv
    · obtain ⟨a, s, y, b, c, d⟩ := W.lv j z hw hlv
      exact ⟨a, s, y, b, c, d.imp id (he s)⟩
  · obtain ⟨w, hw, ⟨rfl, rfl⟩ | ⟨_, rfl⟩⟩ := upT_inv hz
    · rw [hx] at hw; cases hw; exact hen hen'
    · exact W.en j z hw hen'
  · rw [rn']; exact W.live s y hy
  · obtain ⟨w, hw, ⟨ek, rfl⟩ | ⟨_, rfl⟩⟩ := upT_inv hz
    · have hw' := hw
      rw [← ek, hx] at hw'; cases hw'; exact hov s y hy ek.symm
    · exact W.ov s y z hy hw
  · obtain ⟨w, hw, ⟨rfl, rfl⟩ | ⟨_, rfl⟩⟩ := upT_inv hz
    · rw [hx] at hw; cases hw; exact W.up _ _ s y hx (by rw [← h1]; exact hi) hy
    · exact W.up j z s y hw hi hy

/-- A scope's fault turned. -/
theorem WI.irrS (W : WI e t) {f : Sc → Sc} (h1 : ∀ y, (f y).ow = y.ow) (h2 : ∀ y, (f y).ov = y.ov) (h3 : ∀ y, (f y).tks = y.tks) (h4 : ∀ y, (f y).live = y.live) : WI e (t.upS k f) := by
  refine ⟨fun j z s y hz hs hy => ?_, W.nd, fun s y j hy => ?_, fun s y hy => ?_, fun j z hz hlv => ?_, W.en, fun s y hy => ?_, fun s y z hy hz => ?_, fun s y hy => ?_, fun j z s y hz hi hy => ?_⟩
  · obtain ⟨w, hw, ⟨rfl, rfl⟩ | ⟨_, rfl⟩⟩ := upS_inv hy
    · rw [h1]; exact W.ow1 j z _ w hz hs hw
    · exact W.ow1 j z s y hz hs hw
  · obtain ⟨w, hw, ⟨rfl, rfl⟩ | ⟨_, rfl⟩⟩ := upS_inv hy
    · rw [h3]; exact W.mem _ w j hw
    · exact W.mem s y j hw
  · obtain ⟨w, hw, ⟨rfl, rfl⟩ | ⟨_, rfl⟩⟩ := upS_inv hy
    · rw [h3]; exact W.mnd _ w hw
    · exact W.mnd s y hw
  · obtain ⟨a, s, y, b, c, d⟩ := W.lv j z hz hlv
    refine ⟨a, s, if k = s then f y else y, b, by rw [upS_get, c]; rfl, ?_⟩
    split
    · rw [h4]; exact d
    · exact d
  · obtain ⟨w, hw, ⟨rfl, rfl⟩ | ⟨_, rfl⟩⟩ := upS_inv hy
    · rw [h3, h4]; exact W.live _ w hw
    · exact W.live s y hw
  · obtain ⟨w, hw, ⟨rfl, rfl⟩ | ⟨_, rfl⟩⟩ := upS_inv hy
    · rw [h1] at hz; rw [h2]; exact W.ov _ w z hw hz
    · exact W.ov s y z hw hz
  · obtain ⟨w, hw, ⟨rfl, rfl⟩ | ⟨_, rfl⟩⟩ := upS_inv hy
    · rw [h2, h4]; exact W.ov2 _ w hw
    · exact W.ov2 s y hw
  · obtain ⟨w, hw, ⟨rfl, rfl⟩ | ⟨_, rfl⟩⟩ := upS_inv hy
    · rw [h1]; exact W.up j z _ w hz hi hw
    · exact W.up j z s y hz hi hw

theorem countP_same {l : List Nat} {p q : Nat → Bool} (h : ∀ j, j ∈ l → p j = q j) : l.countP p = l.countP q := List.countP_congr fun j hj => by rw [h j hj]
theorem countP_drop {l : List Nat} {p q : Nat → Bool} {k : Nat} (hn : l.Nodup) (hk : k ∈ l) (hp : p k = true) (hq : q k = false) (h : ∀ j, j ≠ k → p j = q j) : l.countP p = l.countP q + 1 := by
  induction l with
  | nil => cases hk
  | cons a l ih =>
    rw [List.nodup_cons] at hn
    rcases List.mem_cons.1 hk with rfl | hk
    · rw [List.countP_cons, List.countP_cons, hp, hq, countP_same (l := l) (p := p) (q := q) fun j hj => h j fun e => hn.1 (by rw [← e]; exact hj)]
      simp
    · have := ih hn.2 hk
      rw [List.countP_cons, List.countP_cons, this, h a fun e => hn.1 (by rw [e]; exact hk)]
      omega

theorem newT_rn {inn : Option Nat} {j : Nat} (h : j < t.tks.length) : (t.newT inn).rn j = t.rn j := by
  simp only [TS.rn, TS.newT, List.getElem?_append_left h]

theorem WI.newT (W : WI e t) (ok : TOk c t) : WI e (t.newT none) := by
  refine ⟨fun j z s y hz hs hy => ?_, fun j z hz => ?_, fun s y j hy => ?_, W.mnd, fun j z hz hlv => ?_, fun j z hz hen => ?_, fun s y hy => ?_, fun s y z hy hz => ?_, W.ov2, fun j z s y hz hi hy => ?_⟩
  · rcases newT_get hz with hz | ⟨_, rfl⟩
    · exact W.ow1 j z s y hz hs hy
    · cases hs
  · rcases newT_get hz with hz | ⟨_, rfl⟩
    · exact W.nd j z hz
    · exact List.nodup_nil
  · rw [W.mem s y j hy]
    constructor
    · rintro ⟨x, hx, hi⟩; exact ⟨x, newT_old hx, hi⟩
    · rintro ⟨x, hx, hi⟩
      rcases newT_get hx with hx | ⟨_, rfl⟩
      · exact ⟨x, hx, hi⟩
      · cases hi
  · rcases newT_get hz with hz | ⟨_, rfl⟩
    · exact W.lv j z hz hlv
    · cases hlv
  · rcases newT_get hz with hz | ⟨_, rfl⟩
    · exact W.en j z hz hen
    · cases hen
  · rw [countP_same fun j hj => newT_rn (ok.mem s y j hy hj)]; exact W.live s y hy
  · have := ok.ow s y hy
    rcases newT_get hz with hz | ⟨e1, _⟩
    · exact W.ov s y z hy hz
    · omega
  · rcases newT_get hz with hz | ⟨_, rfl⟩
    · exact W.up j z s y hz hi hy
    · cases hi

/-- A task spawned in a scope that is open. -/
theorem WI.add (W : WI e t) (ok : TOk c t) {s0 : Nat} {y0 : Sc} (hy0 : t.scs[s0]? = some y0) (hov : y0.ov = false) (hl : y0.ow < t.tks.length) : WI e (t.add (some s0)) := by
  have eq : t.add (some s0) = ⟨t.tks ++ [Tk0 (some s0)], t.scs.modify s0 fun x => { x with tks := x.tks ++ [t.tks.length], live := x.live + 1 }⟩ := by
    simp only [TS.add, TS.newT, TS.upS, List.modify_modify_eq]
    rfl
  have es := congrArg TS.scs eq
  have et := congrArg TS.tks eq
  simp only at es et
  have hinv : ∀ (s : Nat) y, (t.add (some s0)).scs[s]? = some y → ∃ w, t.scs[s]? = some w ∧ ((s = s0 ∧ y = { w with tks := w.tks ++ [t.tks.length], live := w.live + 1 }) ∨ (s ≠ s0 ∧ y = w)) := fun s y hy => by
    rw [es, List.getElem?_modify] at hy
    cases hw : t.scs[s]? with
    | none => rw [hw] at hy; cases hy
    | some w =>
      rw [hw] at hy
      simp only [Option.map_eq_map, Option.map_some, Option.some.injEq] at hy
      refine ⟨w, rfl, ?_⟩
      split at hy
      · rename_i ek; exact .inl ⟨ek.symm, hy.symm⟩
      · rename_i ek; exact .inr ⟨fun e => ek e.symm, hy.symm⟩
  have hget : ∀ (j : Nat) z, (t.add (some s0)).tks[j]? = some z → (t.tks[j]? = some z) ∨ (j = t.tks.length ∧ z = Tk0 (some s0)) := fun j z hz => by
    rw [eq] at hz; exact newT_get (t := t) hz
  have hold : ∀ {j : Nat} {z}, t.tks[j]? = some z → (t.add (some s0)).tks[j]? = some z := fun hz => by rw [eq]; exact newT_old (t := t) hz
  have hnew : (t.add (some s0)).tks[t.tks.length]? = some (Tk0 (some s0)) := by rw [eq]; exact newT_new (t := t)
  have hrn : ∀ j, j < t.tks.length → (t.add (some s0)).rn j = t.rn j := fun j hj => by rw [eq]; exact newT_rn (t := t) hj
  have hrnn : (t.add (some s0)).rn t.tks.length = true := by rw [rn_of hnew]; rfl
  have hcnt : ∀ (s : Nat) w, t.scs[s]? = some w → w.tks.countP (t.add (some s0)).rn = w.tks.countP t.rn := fun s w hw => countP_same fun j hj => hrn j (ok.mem s w j hw hj)
  refine ⟨fun j z s y hz hs hy => ?_, fun j z hz => ?_, fun s y j hy => ?_, fun s y hy => ?_, fun j z hz hlv => ?_, fun j z hz hen => ?_, fun s y hy => ?_, fun s y z hy hz => ?_, fun s y hy ho => ?_, fun j z s y hz hi hy => ?_⟩
  · obtain ⟨w, hw, h⟩ := hinv s y hy
    have how : y.ow = w.ow := by rcases h with ⟨_, rfl⟩ | ⟨_, rfl⟩ <;> rfl
    rw [how]
    rcases hget j z hz with hz | ⟨_, rfl⟩
    · exact W.ow1 j z s w hz hs hw
    · cases hs
  · rcases hget j z hz with hz | ⟨_, rfl⟩
    · exact W.nd j z hz
    · exact List.nodup_nil
  · obtain ⟨w, hw, h⟩ := hinv s y hy
    have hm := W.mem s w j hw
    rcases h with ⟨rfl, rfl⟩ | ⟨hne, rfl⟩
    · simp only [List.mem_append, List.mem_singleton]
      constructor
      · rintro (h | rfl)
        · obtain ⟨x, hx, hi⟩ := hm.1 h; exact ⟨x, hold hx, hi⟩
        · exact ⟨_, hnew, rfl⟩
      · rintro ⟨x, hx, hi⟩
        rcases hget j x hx with hx | ⟨e1, _⟩
        · exact .inl (hm.2 ⟨x, hx, hi⟩)
        · exact .inr e1
    · rw [hm]
      constructor
      · rintro ⟨x, hx, hi⟩; exact ⟨x, hold hx, hi⟩
      · rintro ⟨x, hx, hi⟩
        rcases hget j x hx with hx | ⟨e1, rfl⟩
        · exact ⟨x, hx, hi⟩
        · simp only [Tk0, Option.some.injEq] at hi; exact absurd hi.symm hne
  · obtain ⟨w, hw, ⟨rfl, rfl⟩ | ⟨hne, rfl⟩⟩ := hinv s y hy
    · rw [List.nodup_append]
      refine ⟨W.mnd _ w hw, by simp, fun a ha b hb e => ?_⟩
      simp only [List.mem_singleton] at hb
      have := ok.mem _ w a hw ha
      omega
    · exact W.mnd s y hw
  · rcases hget j z hz with hz | ⟨_, rfl⟩
    · obtain ⟨a, s, y, b, c, d⟩ := W.lv j z hz hlv
      refine ⟨a, s, if s0 = s then { y with tks := y.tks ++ [t.tks.length], live := y.live + 1 } else y, b, by rw [es, List.getElem?_modify, c]; rfl, ?_⟩
      rcases d with d | d
      · left; split
        · simp only; omega
        · exact d
      · exact .inr d
    · cases hlv
  · rcases hget j z hz with hz | ⟨_, rfl⟩
    · exact W.en j z hz hen
    · cases hen
  · obtain ⟨w, hw, ⟨rfl, rfl⟩ | ⟨hne, rfl⟩⟩ := hinv s y hy
    · simp only [List.countP_append, List.countP_cons, List.countP_nil, hrnn, hcnt _ w hw, if_true]
      have := W.live _ w hw
      omega
    · rw [hcnt s y hw]; exact W.live s y hw
  · obtain ⟨w, hw, h⟩ := hinv s y hy
    have hwl := ok.ow s w hw
    have e1 : y.ow = w.ow ∧ y.ov = w.ov := by rcases h with ⟨_, rfl⟩ | ⟨_, rfl⟩ <;> exact ⟨rfl, rfl⟩
    rw [e1.1] at hz
    rw [e1.2]
    rcases hget _ z hz with hz | ⟨e2, _⟩
    · exact W.ov s w z hw hz
    · omega
  · obtain ⟨w, hw, ⟨rfl, rfl⟩ | ⟨hne, rfl⟩⟩ := hinv s y hy
    · rw [hy0] at hw; cases hw
      simp only at ho
      rw [hov] at ho; cases ho
    · exact W.ov2 s y hw ho
  · obtain ⟨w, hw, h⟩ := hinv s y hy
    have e1 : y.ow = w.ow := by rcases h with ⟨_, rfl⟩ | ⟨_, rfl⟩ <;> rfl
    rw [e1]
    rcases hget j z hz with hz | ⟨rfl, rfl⟩
    · exact W.up j z s w hz hi hw
    · simp only [Tk0, Option.some.injEq] at hi
      subst hi
      rw [hy0] at hw; cases hw; exact hl

/-- A scope opened. -/
theorem WI.openF (W : WI e t) (ok : TOk c t) {x : Tk} (hx : t.tks[k]? = some x) (h1 : x.lv = false) (h2 : x.en = false) (su : Bool) : WI e (t.openF k su) := by
  have hold : ∀ {s : Nat} {y}, t.scs[s]? = some y → (t.newS k su).scs[s]? = some y := fun h => newS_old h
  have rn : (t.openF k su).rn = t.rn := funext fun j => by
    simp only [TS.rn, TS.openF]
    rw [upT_get]
    show (match Option.map _ (t.tks[j]?) with | some (x : Tk) => !x.en | none => false) = _
    cases hj : t.tks[j]? with
    | none => rfl
    | some z => simp only [Option.map_some]; split <;> rfl
  have inv : ∀ {j : Nat} {z : Tk}, (t.openF k su).tks[j]? = some z → ∃ w, t.tks[j]? = some w ∧ ((j = k ∧ z = { w with opn := w.opn ++ [some t.scs.length] }) ∨ (j ≠ k ∧ z = w)) := fun hz => by
    obtain ⟨w, hw, ⟨e1, e2⟩ | ⟨e1, e2⟩⟩ := upT_inv (t := t.newS k su) hz
    · exact ⟨w, hw, .inl ⟨e1.symm, e2⟩⟩
    · exact ⟨w, hw, .inr ⟨fun e => e1 e.symm, e2⟩⟩
  have get : ∀ {j : Nat} {w : Tk}, t.tks[j]? = some w → (t.openF k su).tks[j]? = some (if k = j then { w with opn := w.opn ++ [some t.scs.length] } else w) := fun hw => by
    show (TS.upT (t.newS k su) k _).tks[_]? = _
    rw [upT_get]
    show Option.map _ (t.tks[_]?) = _
    rw [hw]; rfl
  have nin : ∀ (j : Nat) w, t.tks[j]? = some w → some t.scs.length ∉ w.opn := fun j w hw hm => by have := ok.opn j w _ hw hm; omega
  refine ⟨fun j z s y hz hs hy => ?_, fun j z hz => ?_, fun s y j hy => ?_, fun s y hy => ?_, fun j z hz hlv => ?_, fun j z hz hen => ?_, fun s y hy => ?_, fun s y z hy hz => ?_, fun s y hy ho => ?_, fun j z s y hz hi hy => ?_⟩
  · obtain ⟨w, hw, ⟨rfl, rfl⟩ | ⟨hne, rfl⟩⟩ := inv hz
    · rcases List.mem_append.1 hs with hs | hs
      · rcases newS_get hy with hy | ⟨rfl, rfl⟩
        · exact W.ow1 j w s y hw hs hy
        · rfl
      · simp only [List.mem_singleton, Option.some.injEq] at hs
        subst hs
        have : y = Sc0 j su := by
          have := newS_new (t := t) (k := j) (su := su)
          have hy' : (t.newS j su).scs[t.scs.length]? = some y := hy
          rw [this] at hy'; cases hy'; rfl
        rw [this]; rfl
    · rcases newS_get hy with hy | ⟨rfl, rfl⟩
      · exact W.ow1 j z s y hw hs hy
      · exact absurd hs (nin j z hw)
  · obtain ⟨w, hw, ⟨rfl, rfl⟩ | ⟨hne, rfl⟩⟩ := inv hz
    · simp only [List.filterMap_append]
      rw [List.nodup_append]
      refine ⟨W.nd j w hw, by simp, fun a ha b hb e => ?_⟩
      simp only [List.filterMap_cons, List.filterMap_nil, id] at hb
      simp only [List.mem_singleton] at hb
      subst hb; subst e
      obtain ⟨v, hv, hv2⟩ := List.mem_filterMap.1 ha
      simp only [id] at hv2
      subst hv2
      exact nin j w hw hv
    · exact W.nd j z hw
  · rcases newS_get hy with hy | ⟨rfl, rfl⟩
    · rw [W.mem s y j hy]
      constructor
      · rintro ⟨z, hz, hi⟩
        refine ⟨_, get hz, ?_⟩
        split <;> exact hi
      · rintro ⟨z, hz, hi⟩
        obtain ⟨w, hw, ⟨rfl, rfl⟩ | ⟨hne, rfl⟩⟩ := inv hz
        · exact ⟨w, hw, hi⟩
        · exact ⟨z, hw, hi⟩
    · simp only [Sc0, List.not_mem_nil, false_iff]
      rintro ⟨z, hz, hi⟩
      obtain ⟨w, hw, ⟨rfl, rfl⟩ | ⟨hne, rfl⟩⟩ := inv hz
      · have := ok.inn j w _ hw hi; omega
      · have := ok.inn j z _ hw hi; omega
  · rcases newS_get hy with hy | ⟨rfl, rfl⟩
    · exact W.mnd s y hy
    · exact List.nodup_nil
  · obtain ⟨w, hw, ⟨rfl, rfl⟩ | ⟨hne, rfl⟩⟩ := inv hz
    · rw [hx] at hw; cases hw
      simp only at hlv
      rw [h1] at hlv; cases hlv
    · obtain ⟨a, s, y, b, c, d⟩ := W.lv j z hw hlv
      exact ⟨a, s, y, b, hold c, d⟩
  · obtain ⟨w, hw, ⟨rfl, rfl⟩ | ⟨hne, rfl⟩⟩ := inv hz
    · rw [hx] at hw; cases hw
      simp only at hen
      rw [h2] at hen; cases hen
    · exact W.en j z hw hen
  · rw [rn]
    rcases newS_get hy with hy | ⟨rfl, rfl⟩
    · exact W.live s y hy
    · rfl
  · rcases newS_get hy with hy | ⟨rfl, rfl⟩
    · have hsl := get_lt' hy
      obtain ⟨w, hw, ⟨e1, rfl⟩ | ⟨hne, rfl⟩⟩ := inv hz
      · rw [W.ov s y w hy hw]
        simp only [List.mem_append, List.mem_singleton, Option.some.injEq]
        constructor
        · exact .inl
        · rintro (h | h)
          · exact h
          · omega
      · exact W.ov s y z hy hw
    · obtain ⟨w, hw, ⟨e1, rfl⟩ | ⟨hne, rfl⟩⟩ := inv hz
      · simp [Sc0]
      · exact absurd rfl hne
  · rcases newS_get hy with hy | ⟨rfl, rfl⟩
    · exact W.ov2 s y hy ho
    · cases ho
  · obtain ⟨w, hw, h⟩ := inv hz
    have hi' : w.inn = some s := by rcases h with ⟨_, rfl⟩ | ⟨_, rfl⟩ <;> exact hi
    rcases newS_get hy with hy | ⟨rfl, rfl⟩
    · exact W.up j w s y hw hi' hy
    · have := ok.inn j w _ hw hi'; omega

/-- A scope that its owner leaves and in which none runs is over. -/
theorem WI.fin0 {s : Nat} (W : WI (some s) t) {x : Tk} {y : Sc} (hy : t.scs[s]? = some y) (hx : t.tks[y.ow]? = some x) (hg : x.opn.getLast? = some (some s)) (hl : y.live ≤ 0) : WI none (t.fin0 s y.ow) := by
  have eq : t.fin0 s y.ow = ⟨t.tks.modify y.ow fun x => { x with opn := x.opn.dropLast, lv := false, fk := 0, ft := ⟨#[]⟩ }, t.scs.modify s fun y => { y with ov := true }⟩ := by
    simp only [TS.fin0, TS.upT, TS.upS, List.modify_modify_eq]
    rfl
  have es := congrArg TS.scs eq
  have et := congrArg TS.tks eq
  simp only at es et
  generalize hk : y.ow = k at *
  have invT : ∀ {j : Nat} {z : Tk}, (t.fin0 s k).tks[j]? = some z → ∃ w, t.tks[j]? = some w ∧ ((j = k ∧ z = { w with opn := w.opn.dropLast, lv := false, fk := 0, ft := ⟨#[]⟩ }) ∨ (j ≠ k ∧ z = w)) := fun {j z} hz => by
    rw [et, List.getElem?_modify] at hz
    cases hw : t.tks[j]? with
    | none => rw [hw] at hz; cases hz
    | some w =>
      rw [hw] at hz
      simp only [Option.map_eq_map, Option.map_some, Option.some.injEq] at hz
      refine ⟨w, rfl, ?_⟩
      split at hz
      · rename_i ek; exact .inl ⟨ek.symm, hz.symm⟩
      · rename_i ek; exact .inr ⟨fun e => ek e.symm, hz.symm⟩
  have invS : ∀ {j : Nat} {z : Sc}, (t.fin0 s k).scs[j]? = some z → ∃ w, t.scs[j]? = some w ∧ ((j = s ∧ z = { w with ov := true }) ∨ (j ≠ s ∧ z = w)) := fun {j z} hz => by
    rw [es, List.getElem?_modify] at hz
    cases hw : t.scs[j]? with
    | none => rw [hw] at hz; cases hz
    | some w =>
      rw [hw] at hz
      simp only [Option.map_eq_map, Option.map_some, Option.some.injEq] at hz
      refine ⟨w, rfl, ?_⟩
      split at hz
      · rename_i ek; exact .inl ⟨ek.symm, hz.symm⟩
      · rename_i ek; exact .inr ⟨fun e => ek e.symm, hz.symm⟩
  have getT : ∀ {j : Nat} {w : Tk}, t.tks[j]? = some w → ∃ z, (t.fin0 s k).tks[j]? = some z ∧ z.inn = w.inn ∧ z.en = w.en := fun {j w} hw => by
    rw [et, List.getElem?_modify, hw]
    refine ⟨_, rfl, ?_⟩
    simp only
    split <;> exact ⟨rfl, rfl⟩
  have same : ∀ {j : Nat} {z w : Sc}, ((j = s ∧ z = { w with ov := true }) ∨ (j ≠ s ∧ z = w)) → z.ow = w.ow ∧ z.tks = w.tks ∧ z.live = w.live := fun h => by rcases h with ⟨_, rfl⟩ | ⟨_, rfl⟩ <;> exact ⟨rfl, rfl, rfl⟩
  have rn : (t.fin0 s k).rn = t.rn := funext fun j => by
    cases hj : t.tks[j]? with
    | none =>
      have : (t.fin0 s k).tks[j]? = none := by rw [et, List.getElem?_modify, hj]; rfl
      simp only [TS.rn, this, hj]
    | some w =>
      obtain ⟨z, hz, _, h2⟩ := getT hj
      rw [rn_of hj, rn_of hz, h2]
  have spl : x.opn = x.opn.dropLast ++ [some s] := by
    have hne : x.opn ≠ [] := fun e => by rw [e] at hg; cases hg
    have := List.dropLast_concat_getLast hne
    rw [List.getLast?_eq_some_getLast hne] at hg
    simp only [Option.some.injEq] at hg
    rw [hg] at this
    exact this.symm
  have ndx := W.nd k x hx
  rw [spl, List.filterMap_append, List.nodup_append] at ndx
  have notin : some s ∉ x.opn.dropLast := fun h => ndx.2.2 s (List.mem_filterMap.2 ⟨some s, h, rfl⟩) s (by simp) rfl
  refine ⟨fun j z s' y' hz hs hy' => ?_, fun j z hz => ?_, fun s' y' j hy' => ?_, fun s' y' hy' => ?_, fun j z hz hlv => ?_, fun j z hz hen => ?_, fun s' y' hy' => ?_, fun s' y' z hy' hz => ?_, fun s' y' hy' ho => ?_, fun j z s' y' hz hi hy' => ?_⟩
  · obtain ⟨w', hw', h'⟩ := invS hy'
    rw [(same h').1]
    obtain ⟨w, hw, ⟨rfl, rfl⟩ | ⟨hne, rfl⟩⟩ := invT hz
    · exact W.ow1 j w s' w' hw (List.dropLast_subset _ hs) hw'
    · exact W.ow1 j z s' w' hw hs hw'
  · obtain ⟨w, hw, ⟨rfl, rfl⟩ | ⟨hne, rfl⟩⟩ := invT hz
    · rw [hx] at hw; cases hw; exact ndx.1
    · exact W.nd j z hw
  · obtain ⟨w', hw', h'⟩ := invS hy'
    rw [(same h').2.1, W.mem s' w' j hw']
    constructor
    · rintro ⟨w, hw, hi⟩
      obtain ⟨z, hz, h1, _⟩ := getT hw
      exact ⟨z, hz, by rw [h1]; exact hi⟩
    · rintro ⟨z, hz, hi⟩
      obtain ⟨w, hw, h⟩ := invT hz
      exact ⟨w, hw, by rcases h with ⟨_, rfl⟩ | ⟨_, rfl⟩ <;> exact hi⟩
  · obtain ⟨w', hw', h'⟩ := invS hy'
    rw [(same h').2.1]; exact W.mnd s' w' hw'
  · obtain ⟨w, hw, ⟨rfl, rfl⟩ | ⟨hne, rfl⟩⟩ := invT hz
    · cases hlv
    · obtain ⟨a, s', y', b, c, d⟩ := W.lv j z hw hlv
      have hns : s' ≠ s := fun e1 => by
        subst e1
        have := W.ow1 j z s' y' hw (List.mem_of_getLast? b) c
        rw [hy] at c; cases c
        exact hne (by rw [← this, hk])
      refine ⟨a, s', y', b, by rw [es, List.getElem?_modify, c]; simp only [if_neg (Ne.symm hns)]; rfl, .inl ?_⟩
      rcases d with d | d
      · exact d
      · cases d; exact absurd rfl hns
  · obtain ⟨w, hw, ⟨rfl, rfl⟩ | ⟨hne, rfl⟩⟩ := invT hz
    · have := W.en j w hw hen
      simp only [this, List.dropLast_nil]
    · exact W.en j z hw hen
  · obtain ⟨w', hw', h'⟩ := invS hy'
    rw [(same h').2.1, (same h').2.2, rn]; exact W.live s' w' hw'
  · obtain ⟨w', hw', h'⟩ := invS hy'
    rw [(same h').1] at hz
    obtain ⟨w, hw, hh⟩ := invT hz
    have old := W.ov s' w' w hw' hw
    rcases h' with ⟨rfl, rfl⟩ | ⟨hns, rfl⟩
    · rw [hy] at hw'; cases hw'
      rcases hh with ⟨e1, rfl⟩ | ⟨hne, rfl⟩
      · rw [e1] at hw; rw [hx] at hw; cases hw
        simp only [Bool.true_eq_false, false_iff]
        exact notin
      · exact absurd hk hne
    · rcases hh with ⟨e1, rfl⟩ | ⟨hne, rfl⟩
      · rw [old]
        rw [e1, hx] at hw; cases hw
        constructor
        · intro h
          rw [spl] at h
          rcases List.mem_append.1 h with h | h
          · exact h
          · simp only [List.mem_singleton, Option.some.injEq] at h; exact absurd h hns
        · exact fun h => List.dropLast_subset _ h
      · exact old
  · obtain ⟨w', hw', h'⟩ := invS hy'
    rw [(same h').2.2]
    rcases h' with ⟨rfl, rfl⟩ | ⟨hns, rfl⟩
    · rw [hy] at hw'; cases hw'
      have := W.live s' y hy
      omega
    · exact W.ov2 s' y' hw' ho
  · obtain ⟨w', hw', h'⟩ := invS hy'
    rw [(same h').1]
    obtain ⟨w, hw, h⟩ := invT hz
    exact W.up j w s' w' hw (by rcases h with ⟨_, rfl⟩ | ⟨_, rfl⟩ <;> exact hi) hw'

theorem WI.fin {s : Nat} (W : WI (some s) t) (ok : TOk c t) : WI none (t.fin s).1 := by
  unfold TS.fin
  cases hy : t.scs[s]? with
  | none =>
    refine ⟨W.ow1, W.nd, W.mem, W.mnd, fun j z hz hlv => ?_, W.en, W.live, W.ov, W.ov2, W.up⟩
    obtain ⟨a, s', y', b, c, d⟩ := W.lv j z hz hlv
    refine ⟨a, s', y', b, c, ?_⟩
    rcases d with d | d
    · exact .inl d
    · cases d; rw [hy] at c; cases c
  | some y =>
    obtain ⟨x, hx⟩ : ∃ x, t.tks[y.ow]? = some x := ⟨_, List.getElem?_eq_getElem (ok.ow s y hy)⟩
    simp only [hx]
    split
    · rename_i hB
      simp only [finB, Bool.and_eq_true, decide_eq_true_eq] at hB
      exact W.fin0 hy hx hB.1.2 hB.2
    · rename_i hB
      refine ⟨W.ow1, W.nd, W.mem, W.mnd, fun j z hz hlv => ?_, W.en, W.live, W.ov, W.ov2, W.up⟩
      obtain ⟨a, s', y', b, c, d⟩ := W.lv j z hz hlv
      refine ⟨a, s', y', b, c, ?_⟩
      rcases d with d | d
      · exact .inl d
      · cases d
        rw [hy] at c; cases c
        have := W.ow1 j z s y hz (List.mem_of_getLast? b) hy
        subst this
        rw [hx] at hz; cases hz
        simp only [finB, hlv, b, Bool.true_and, decide_true, decide_eq_true_eq] at hB
        exact .inl (by omega)

/-- A task that ends. -/
theorem WI.end2 (W : WI none t) (ok : TOk c t) {x : Tk} (hx : t.tks[k]? = some x) (h1 : x.en = false) (h2 : x.opn = []) {s : Nat} (hi : x.inn = some s) (fk : Int) (ft : ByteArray) : WI (some s) (t.end2 k s fk ft) := by
  have eq : t.end2 k s fk ft = ⟨t.tks.modify k fun x => { x with en := true, fk := fk, ft := ft }, t.scs.modify s fun y => { y with live := y.live - 1 }⟩ := by
    simp only [TS.end2, TS.end1, TS.upT, TS.upS, List.modify_modify_eq]
    rfl
  have es := congrArg TS.scs eq
  have et := congrArg TS.tks eq
  simp only at es et
  have hlv0 : x.lv = false := by
    cases h : x.lv with
    | false => rfl
    | true =>
      obtain ⟨_, s', y', b, _⟩ := W.lv k x hx h
      rw [h2] at b; cases b
  have invT : ∀ {j : Nat} {z : Tk}, (t.end2 k s fk ft).tks[j]? = some z → ∃ w, t.tks[j]? = some w ∧ ((j = k ∧ z = { w with en := true, fk := fk, ft := ft }) ∨ (j ≠ k ∧ z = w)) := fun {j z} hz => by
    rw [et, List.getElem?_modify] at hz
    cases hw : t.tks[j]? with
    | none => rw [hw] at hz; cases hz
    | some w =>
      rw [hw] at hz
      simp only [Option.map_eq_map, Option.map_some, Option.some.injEq] at hz
      refine ⟨w, rfl, ?_⟩
      split at hz
      · rename_i ek; exact .inl ⟨ek.symm, hz.symm⟩
      · rename_i ek; exact .inr ⟨fun e => ek e.symm, hz.symm⟩
  have invS : ∀ {j : Nat} {z : Sc}, (t.end2 k s fk ft).scs[j]? = some z → ∃ w, t.scs[j]? = some w ∧ ((j = s ∧ z = { w with live := w.live - 1 }) ∨ (j ≠ s ∧ z = w)) := fun {j z} hz => by
    rw [es, List.getElem?_modify] at hz
    cases hw : t.scs[j]? with
    | none => rw [hw] at hz; cases hz
    | some w =>
      rw [hw] at hz
      simp only [Option.map_eq_map, Option.map_some, Option.some.injEq] at hz
      refine ⟨w, rfl, ?_⟩
      split at hz
      · rename_i ek; exact .inl ⟨ek.symm, hz.symm⟩
      · rename_i ek; exact .inr ⟨fun e => ek e.symm, hz.symm⟩
  have getT : ∀ {j : Nat} {w : Tk}, t.tks[j]? = some w → ∃ z, (t.end2 k s fk ft).tks[j]? = some z ∧ z.inn = w.inn := fun {j w} hw => by
    rw [et, List.getElem?_modify, hw]
    refine ⟨_, rfl, ?_⟩
    simp only
    split <;> rfl
  have same : ∀ {j : Nat} {z w : Sc}, ((j = s ∧ z = { w with live := w.live - 1 }) ∨ (j ≠ s ∧ z = w)) → z.ow = w.ow ∧ z.tks = w.tks ∧ z.ov = w.ov := fun h => by rcases h with ⟨_, rfl⟩ | ⟨_, rfl⟩ <;> exact ⟨rfl, rfl, rfl⟩
  have sameT : ∀ {j : Nat} {z w : Tk}, ((j = k ∧ z = { w with en := true, fk := fk, ft := ft }) ∨ (j ≠ k ∧ z = w)) → z.opn = w.opn ∧ z.inn = w.inn ∧ z.lv = w.lv := fun h => by rcases h with ⟨_, rfl⟩ | ⟨_, rfl⟩ <;> exact ⟨rfl, rfl, rfl⟩
  have rnk : (t.end2 k s fk ft).rn k = false := by
    have : (t.end2 k s fk ft).tks[k]? = some { x with en := true, fk := fk, ft := ft } := by rw [et, List.getElem?_modify, hx]; simp only [if_true]; rfl
    rw [rn_of this]; rfl
  have rno : ∀ j, j ≠ k → t.rn j = (t.end2 k s fk ft).rn j := fun j hj => by
    simp only [TS.rn, et, List.getElem?_modify, if_neg (Ne.symm hj)]
    cases t.tks[j]? <;> rfl
  have rnt : t.rn k = true := by rw [rn_of hx, h1]; rfl
  have hsl := ok.inn k x s hx hi
  obtain ⟨y, hy⟩ : ∃ y, t.scs[s]? = some y := ⟨_, List.getElem?_eq_getElem hsl⟩
  have kin : k ∈ y.tks := (W.mem s y k hy).2 ⟨x, hx, hi⟩
  have cnt := countP_drop (W.mnd s y hy) kin rnt rnk rno
  refine ⟨fun j z s' y' hz hs hy' => ?_, fun j z hz => ?_, fun s' y' j hy' => ?_, fun s' y' hy' => ?_, fun j z hz hlv => ?_, fun j z hz hen => ?_, fun s' y' hy' => ?_, fun s' y' z hy' hz => ?_, fun s' y' hy' ho => ?_, fun j z s' y' hz hi' hy' => ?_⟩
  · obtain ⟨w', hw', h'⟩ := invS hy'
    obtain ⟨w, hw, h⟩ := invT hz
    rw [(same h').1]
    rw [(sameT h).1] at hs
    exact W.ow1 j w s' w' hw hs hw'
  · obtain ⟨w, hw, h⟩ := invT hz
    rw [(sameT h).1]; exact W.nd j w hw
  · obtain ⟨w', hw', h'⟩ := invS hy'
    rw [(same h').2.1, W.mem s' w' j hw']
    constructor
    · rintro ⟨w, hw, hi⟩
      obtain ⟨z, hz, h1⟩ := getT hw
      exact ⟨z, hz, by rw [h1]; exact hi⟩
    · rintro ⟨z, hz, hi⟩
      obtain ⟨w, hw, h⟩ := invT hz
      exact ⟨w, hw, by rw [← (sameT h).2.1]; exact hi⟩
  · obtain ⟨w', hw', h'⟩ := invS hy'
    rw [(same h').2.1]; exact W.mnd s' w' hw'
  · obtain ⟨w, hw, h⟩ := invT hz
    rw [(sameT h).2.2] at hlv
    obtain ⟨a, s', y', b, c, d⟩ := W.lv j w hw hlv
    have hjk : j ≠ k := fun e1 => by subst e1; rw [hx] at hw; cases hw; rw [hlv0] at hlv; cases hlv
    have hzw : z = w := by rcases h with ⟨e1, _⟩ | ⟨_, e1⟩
                           · exact absurd e1 hjk
                           · exact e1
    subst hzw
    by_cases e1 : s' = s
    · subst e1
      rw [hy] at c; cases c
      exact ⟨a, s', _, b, by rw [es, List.getElem?_modify, hy]; simp only [if_true]; rfl, .inr rfl⟩
    · refine ⟨a, s', y', b, by rw [es, List.getElem?_modify, c]; simp only [if_neg (Ne.symm e1)]; rfl, .inl ?_⟩
      rcases d with d | d
      · exact d
      · cases d
  · obtain ⟨w, hw, h⟩ := invT hz
    rw [(sameT h).1]
    rcases h with ⟨rfl, rfl⟩ | ⟨hne, rfl⟩
    · rw [hx] at hw; cases hw; exact h2
    · exact W.en j z hw hen
  · obtain ⟨w', hw', h'⟩ := invS hy'
    have old := W.live s' w' hw'
    rcases h' with ⟨rfl, rfl⟩ | ⟨hns, rfl⟩
    · rw [hy] at hw'; cases hw'
      simp only
      omega
    · rw [← countP_same fun j hj => rno j fun e1 => ?_]
      · exact old
      · subst e1
        obtain ⟨v, hv, hvi⟩ := (W.mem s' y' j hw').1 hj
        rw [hx] at hv; cases hv
        rw [hi] at hvi; cases hvi; exact hns rfl
  · obtain ⟨w', hw', h'⟩ := invS hy'
    rw [(same h').1] at hz
    obtain ⟨w, hw, h⟩ := invT hz
    rw [(same h').2.2, (sameT h).1]; exact W.ov s' w' w hw' hw
  · obtain ⟨w', hw', h'⟩ := invS hy'
    have ho' := ho
    rw [(same h').2.2] at ho'
    have old := W.ov2 s' w' hw' ho'
    rcases h' with ⟨rfl, rfl⟩ | ⟨hns, rfl⟩
    · rw [hy] at hw'; cases hw'
      have := W.live s' y hy
      omega
    · exact old
  · obtain ⟨w', hw', h'⟩ := invS hy'
    rw [(same h').1]
    obtain ⟨w, hw, h⟩ := invT hz
    exact W.up j w s' w' hw (by rw [← (sameT h).2.1]; exact hi') hw'

theorem WI.end1 (W : WI none t) (ok : TOk c t) {x : Tk} (hx : t.tks[k]? = some x) (h1 : x.en = false) (h2 : x.opn = []) (hi : x.inn = none) (fk : Int) (ft : ByteArray) : WI none (t.end1 k fk ft) := by
  have eq : t.end1 k fk ft = ⟨t.tks.modify k fun x => { x with en := true, fk := fk, ft := ft }, t.scs⟩ := by
    simp only [TS.end1, TS.upT, List.modify_modify_eq]
    rfl
  have es := congrArg TS.scs eq
  have et := congrArg TS.tks eq
  simp only at es et
  have hlv0 : x.lv = false := by
    cases h : x.lv with
    | false => rfl
    | true =>
      obtain ⟨_, s', y', b, _⟩ := W.lv k x hx h
      rw [h2] at b; cases b
  have invT : ∀ {j : Nat} {z : Tk}, (t.end1 k fk ft).tks[j]? = some z → ∃ w, t.tks[j]? = some w ∧ ((j = k ∧ z = { w with en := true, fk := fk, ft := ft }) ∨ (j ≠ k ∧ z = w)) := fun {j z} hz => by
    rw [et, List.getElem?_modify] at hz
    cases hw : t.tks[j]? with
    | none => rw [hw] at hz; cases hz
    | some w =>
      rw [hw] at hz
      simp only [Option.map_eq_map, Option.map_some, Option.some.injEq] at hz
      refine ⟨w, rfl, ?_⟩
      split at hz
      · rename_i ek; exact .inl ⟨ek.symm, hz.symm⟩
      · rename_i ek; exact .inr ⟨fun e => ek e.symm, hz.symm⟩
  have getT : ∀ {j : Nat} {w : Tk}, t.tks[j]? = some w → ∃ z, (t.end1 k fk ft).tks[j]? = some z ∧ z.inn = w.inn := fun {j w} hw => by
    rw [et, List.getElem?_modify, hw]
    refine ⟨_, rfl, ?_⟩
    simp only
    split <;> rfl
  have scs : (t.end1 k fk ft).scs = t.scs := by rw [eq]
  have sameT : ∀ {j : Nat} {z w : Tk}, ((j = k ∧ z = { w with en := true, fk := fk, ft := ft }) ∨ (j ≠ k ∧ z = w)) → z.opn = w.opn ∧ z.inn = w.inn ∧ z.lv = w.lv := fun h => by rcases h with ⟨_, rfl⟩ | ⟨_, rfl⟩ <;> exact ⟨rfl, rfl, rfl⟩
  have rno : ∀ j, j ≠ k → t.rn j = (t.end1 k fk ft).rn j := fun j hj => by
    simp only [TS.rn, et, List.getElem?_modify, if_neg (Ne.symm hj)]
    cases t.tks[j]? <;> rfl
  refine ⟨fun j z s' y' hz hs hy' => ?_, fun j z hz => ?_, fun s' y' j hy' => ?_, fun s' y' hy' => ?_, fun j z hz hlv => ?_, fun j z hz hen => ?_, fun s' y' hy' => ?_, fun s' y' z hy' hz => ?_, fun s' y' hy' ho => ?_, fun j z s' y' hz hi' hy' => ?_⟩
  all_goals try rw [scs] at hy'
  · obtain ⟨w, hw, h⟩ := invT hz
    rw [(sameT h).1] at hs
    exact W.ow1 j w s' y' hw hs hy'
  · obtain ⟨w, hw, h⟩ := invT hz
    rw [(sameT h).1]; exact W.nd j w hw
  · rw [W.mem s' y' j hy']
    constructor
    · rintro ⟨w, hw, hi⟩
      obtain ⟨z, hz, h1⟩ := getT hw
      exact ⟨z, hz, by rw [h1]; exact hi⟩
    · rintro ⟨z, hz, hi⟩
      obtain ⟨w, hw, h⟩ := invT hz
      exact ⟨w, hw, by rw [← (sameT h).2.1]; exact hi⟩
  · exact W.mnd s' y' hy'
  · obtain ⟨w, hw, h⟩ := invT hz
    rw [(sameT h).2.2] at hlv
    obtain ⟨a, s', y', b, c, d⟩ := W.lv j w hw hlv
    have hjk : j ≠ k := fun e1 => by subst e1; rw [hx] at hw; cases hw; rw [hlv0] at hlv; cases hlv
    have hzw : z = w := by rcases h with ⟨e1, _⟩ | ⟨_, e1⟩
                           · exact absurd e1 hjk
                           · exact e1
    subst hzw
    exact ⟨a, s', y', b, by rw [scs]; exact c, d⟩
  · obtain ⟨w, hw, h⟩ := invT hz
    rw [(sameT h).1]
    rcases h with ⟨rfl, rfl⟩ | ⟨hne, rfl⟩
    · rw [hx] at hw; cases hw; exact h2
    · exact W.en j z hw hen
  · rw [← countP_same fun j hj => rno j fun e1 => ?_]
    · exact W.live s' y' hy'
    · subst e1
      obtain ⟨v, hv, hvi⟩ := (W.mem s' y' j hy').1 hj
      rw [hx] at hv; cases hv
      rw [hi] at hvi; cases hvi
  · obtain ⟨w, hw, h⟩ := invT hz
    rw [(sameT h).1]; exact W.ov s' y' w hy' hw
  · exact W.ov2 s' y' hy' ho
  · obtain ⟨w, hw, h⟩ := invT hz
    exact W.up j w s' y' hw (by rw [← (sameT h).2.1]; exact hi') hy'
end

end Go.Proofs.Ytahomnlkkafbjaa.tr

-- printed by wip/tools/pvgen.py; each is checked by the kernel
namespace Go.Proofs.Ytahomnlkkafbjaa.r30p
open Go Go.Ev
set_option maxRecDepth 100000
set_option linter.unusedVariables false

theorem gk (oa ob : Option Addr) (la za zb : Nat) (g g2 : Hp) : pvFn Try.prog (pvCall Try.prog 0) Try.f54 [.slice oa la za, .slice ob la zb] (.is g) [.bit false, .loop (.exit 0) [] (.is g2)] =
    some (.bool true, .is g2, [], [.cmp .neq (Int.ofNat la) (Int.ofNat la) false, .loop 26 false (loopN Try.f54 0) [(14, .int .i64 0), (13, .int .i64 (Int.ofNat la)), (12, .slice oa la za), (11, .bool false), (10, .int .i64 (Int.ofNat la)), (9, .slice ob la zb), (8, .int .i64 (Int.ofNat la)), (7, .slice oa la za), (4, .bool false), (0, .slice oa la za), (1, .slice ob la zb)] (.is g) (.exit 0) [] (.is g2)]) := by kernel_rfl
theorem eq (oa ob : Option Addr) (la za zb : Nat) (g g2 : Hp) : pvFn Try.prog (pvCall Try.prog 0) Try.f29 [.slice oa la za, .slice ob la zb] (.is g) [.bit false, .loop (.exit 0) [] (.is g2)] =
    some (.bool true, .is g2, [], [.cmp .neq (Int.ofNat la) (Int.ofNat la) false, .loop 26 false (loopN Try.f29 0) [(13, .int .i64 0), (12, .int .i64 (Int.ofNat la)), (11, .slice oa la za), (10, .bool false), (9, .int .i64 (Int.ofNat la)), (8, .slice ob la zb), (7, .int .i64 (Int.ofNat la)), (6, .slice oa la za), (4, .bool false), (0, .slice oa la za), (1, .slice ob la zb)] (.is g) (.exit 0) [] (.is g2)]) := by kernel_rfl
end Go.Proofs.Ytahomnlkkafbjaa.r30p

-- printed by wip/tools/pvgen.py; each is checked by the kernel
namespace Go.Proofs.Ytahomnlkkafbjaa.r27p
open Go Go.Ev
set_option maxRecDepth 100000
set_option linter.unusedVariables false

end Go.Proofs.Ytahomnlkkafbjaa.r27p

namespace Go.Proofs.Ytahomnlkkafbjaa.tr
open Go Go.Ev
set_option linter.unusedVariables false
set_option linter.constructorNameAsVariable false

/-- The scope that a call gives a fault. -/
def gotOf (t : TS) (o : OpV) : Int :=
  if o.k = 2 then (if (t.sco (t.task o.n).1.sc).2 = 0 ∧ (t.sco (t.task o.n).1.sc).1.su = false then (t.task o.n).1.sc else 0) else
  if o.k = 3 then (match (t.task o.n).1.op.getLast? with | some l => lkN l | none => 0) else if o.k = 6 then o.n else 0
def blockF (block : List Ft) (t : TS) (o : OpV) (okk : Bool) : List Ft := if okk = true ∧ o.k = 3 then block.set (gotOf t o).toNat ⟨o.fk, o.ft⟩ else block
def firstF (first : List Ft) (t : TS) (o : OpV) (okk : Bool) : List Ft := if okk = true then gotF first (gotOf t o) o.fk o.ft else first

section
variable {first block : List Ft} {t : TS} {c k : Nat}

theorem gotF_zero (fk : Int) (ft : ByteArray) : gotF first 0 fk ft = first := by simp [gotF]
theorem runs_task {n : Int} {k : Nat} {e : Int} {x : Tk} (h : t.runs n = (some k, e)) (hx : t.tks[k]? = some x) : t.task n = (tkV x, 0) := by
  obtain ⟨_, rfl, _⟩ := runs_some h
  have hk := get_lt' hx
  have e1 : ((k : Int) + 1 - 1).toNat = k := by omega
  unfold TS.task
  rw [if_neg (by omega), e1, hx]
theorem sco_at {s : Nat} {y : Sc} (hy : t.scs[s]? = some y) : t.sco ((s + 1 : Nat) : Int) = (scV y, 0) := by
  have hs := get_lt' hy
  have e1 : (((s + 1 : Nat) : Int) - 1).toNat = s := by omega
  have : t.scope ((s + 1 : Nat) : Int) = (some s, 0) := by
    unfold TS.scope
    rw [if_neg (by omega), e1]
  simp only [TS.sco, this, hy]
theorem sco_zero : t.sco 0 = (.zero, 6) := by simp [TS.sco, TS.scope]

theorem FI.step (I : FI first block t) (ok : TOk c t) (o : OpV) : FI (firstF first t o (t.told o).2.2) (blockF block t o (t.told o).2.2) (t.told o).1 ∧ (∀ e, e ∈ (t.told o).2.1 → goodE (firstF first t o (t.told o).2.2) (blockF block t o (t.told o).2.2) e) ∧
    ((t.told o).2.2 = true → 0 ≤ gotOf t o ∧ gotOf t o ≤ 200) := by
  obtain ⟨kk, n, yes, fk, ft⟩ := o
  have n200 := ok.n200
  have nilE : ∀ {f b : List Ft} e, e ∈ ([] : List Ef) → goodE f b e := fun e h => by cases h
  by_cases c2 : kk = 2
  · subst c2
    have et : t.told ⟨2, n, yes, fk, ft⟩ = ((t.end n fk ft).1, (t.end n fk ft).2.1, decide ((t.end n fk ft).2.2 = 0)) := by simp [TS.told]
    have eb : ∀ b, blockF block t ⟨2, n, yes, fk, ft⟩ b = block := fun b => by simp [blockF]
    rw [et, eb]
    have bad : ∀ e : Int, e ≠ 0 → t.end n fk ft = (t, [], e) → FI (firstF first t ⟨2, n, yes, fk, ft⟩ (decide ((t.end n fk ft).2.2 = 0))) block (t.end n fk ft).1 ∧ (∀ e, e ∈ (t.end n fk ft).2.1 → goodE (firstF first t ⟨2, n, yes, fk, ft⟩ (decide ((t.end n fk ft).2.2 = 0))) block e) ∧ (decide ((t.end n fk ft).2.2 = 0) = true → 0 ≤ gotOf t ⟨2, n, yes, fk, ft⟩ ∧ gotOf t ⟨2, n, yes, fk, ft⟩ ≤ 200) := fun e he h => by
      rw [h]
      simp only [he, decide_false, firstF, Bool.false_eq_true, if_false]
      exact ⟨I, nilE, fun h => h.elim⟩
    rcases hq : t.runs n with ⟨k | k, e⟩
    · have e6 := runs_none hq
      exact bad 6 (by omega) (by simp only [TS.end, hq, e6])
    · obtain ⟨rfl, hn, x, hx, he⟩ := runs_some hq
      cases hf : faultB fk ft with
      | false => exact bad 2 (by omega) (by simp only [TS.end, hq, hf, if_true])
      | true =>
        by_cases hop : x.opn = []
        · have I1 : FI first block (t.end1 k fk ft) := by
            refine FI.upT (FI.upT I (f := fun x => { x with en := true }) (fun z s hz hl hg => ?_) fun z s y hz hs hy => ?_) (fun z s hz hl hg => ?_) fun z s y hz hs hy => ?_
            · rw [hx] at hz; cases hz; simp only [hop] at hg; cases hg
            · rw [hx] at hz; cases hz; simp only [hop] at hs; cases hs
            · rw [upT_at hx] at hz; cases hz; simp only [hop] at hg; cases hg
            · rw [upT_at hx] at hz; cases hz; simp only [hop] at hs; cases hs
          cases hin : x.inn with
          | none =>
            have e' : t.end n fk ft = (t.end1 k fk ft, [], 0) := by simp only [TS.end, hq, hf, hx, hop, hin, Bool.true_eq_false, if_false, ne_eq, not_true_eq_false]
            have eg : gotOf t ⟨2, n, yes, fk, ft⟩ = 0 := by
              simp only [gotOf, if_true, runs_task hq hx, tkV, hin, lkN, sco_zero]
              simp
            rw [e']
            simp only [decide_true, firstF, if_true, eg, gotF_zero]
            exact ⟨I1, nilE, fun _ => by omega⟩
          | some s =>
            have hsl := ok.inn k x s hx hin
            obtain ⟨y, hy⟩ : ∃ y, t.scs[s]? = some y := ⟨_, List.getElem?_eq_getElem hsl⟩
            have e' : t.end n fk ft = (((t.end3 k s y fk ft).1.fin s).1, saidE s (t.end3 k s y fk ft).2 ++ ((t.end3 k s y fk ft).1.fin s).2, 0) := by simp only [TS.end, hq, hf, hx, hop, hin, hy, Bool.true_eq_false, if_false, ne_eq, not_true_eq_false]
            have I2 : FI first block (t.end2 k s fk ft) := FI.upS (f := fun y => { y with live := y.live - 1 }) I1 (fun _ => rfl) (fun _ => rfl) fun _ => rfl
            have hy2 : (t.end2 k s fk ft).scs[s]? = some { y with live := y.live - 1 } := upS_at (g := fun y => { y with live := y.live - 1 }) hy
            have ok2 := ok.end2 (k := k) (s := s) (fk := fk) (ft := ft)
            have ok3 := ok.end3 (k := k) (s := s) (y := y) (fk := fk) (ft := ft)
            have eg : gotOf t ⟨2, n, yes, fk, ft⟩ = if y.su = false then ((s + 1 : Nat) : Int) else 0 := by
              simp only [gotOf, if_true, runs_task hq hx, tkV, hin, lkN, sco_at hy, scV, true_and]
            have I3 : FI (gotF first (gotOf t ⟨2, n, yes, fk, ft⟩) fk ft) block (t.end3 k s y fk ft).1 := by
              rw [eg]
              unfold TS.end3
              cases hsu : y.su with
              | true => simp only [if_true, Bool.true_eq_false, if_false, gotF_zero]; exact I2
              | false => simp only [if_true, Bool.false_eq_true, if_false]; exact I2.blame ok2 hy2 fk ft
            obtain ⟨q1, q2⟩ := I3.fin ok3 s
            rw [e']
            simp only [decide_true, firstF, if_true]
            refine ⟨q1, fun e he => ?_, fun _ => ?_⟩
            · rcases List.mem_append.1 he with he | he
              · unfold saidE at he
                split at he
                · simp at he; subst he
                  intro h3; simp at h3
                · cases he
              · exact q2 e he
            · rw [eg]; split <;> omega
        · exact bad 22 (by omega) (by simp only [TS.end, hq, hf, hx, hop, Bool.true_eq_false, if_false, ne_eq, not_false_eq_true, if_true])
  by_cases c3 : kk = 3
  · subst c3
    have et : t.told ⟨3, n, yes, fk, ft⟩ = ((t.leave n fk ft).1, (t.leave n fk ft).2.1, decide ((t.leave n fk ft).2.2 = 0)) := by simp [TS.told]
    rw [et]
    have bad : ∀ e : Int, e ≠ 0 → t.leave n fk ft = (t, [], e) → FI (firstF first t ⟨3, n, yes, fk, ft⟩ (decide ((t.leave n fk ft).2.2 = 0))) (blockF block t ⟨3, n, yes, fk, ft⟩ (decide ((t.leave n fk ft).2.2 = 0))) (t.leave n fk ft).1 ∧ (∀ e, e ∈ (t.leave n fk ft).2.1 → goodE (firstF first t ⟨3, n, yes, fk, ft⟩ (decide ((t.leave n fk ft).2.2 = 0))) (blockF block t ⟨3, n, yes, fk, ft⟩ (decide ((t.leave n fk ft).2.2 = 0))) e) ∧
        (decide ((t.leave n fk ft).2.2 = 0) = true → 0 ≤ gotOf t ⟨3, n, yes, fk, ft⟩ ∧ gotOf t ⟨3, n, yes, fk, ft⟩ ≤ 200) := fun e he h => by
      rw [h]
      simp only [he, decide_false, firstF, blockF, Bool.false_eq_true, if_false, false_and]
      exact ⟨I, nilE, fun h => h.elim⟩
    rcases hq : t.runs n with ⟨k | k, e⟩
    · have e6 := runs_none hq
      exact bad 6 (by omega) (by simp only [TS.leave, hq, e6])
    · obtain ⟨rfl, hn, x, hx, he⟩ := runs_some hq
      cases hf : faultB fk ft with
      | false => exact bad 2 (by omega) (by simp only [TS.leave, hq, hf, if_true])
      | true =>
        cases hlv : x.lv with
        | true => exact bad 22 (by omega) (by simp only [TS.leave, hq, hf, hx, hlv, Bool.true_eq_false, if_false])
        | false =>
          cases hg : x.opn.getLast? with
          | none => exact bad 22 (by omega) (by simp only [TS.leave, hq, hf, hx, hlv, hg, Bool.true_eq_false, if_false])
          | some v =>
            cases v with
            | none => exact bad 22 (by omega) (by simp only [TS.leave, hq, hf, hx, hlv, hg, Bool.true_eq_false, if_false])
            | some s =>
              have hmem := List.mem_of_getLast? hg
              have hsl := ok.opn k x s hx hmem
              obtain ⟨y, hy⟩ : ∃ y, t.scs[s]? = some y := ⟨_, List.getElem?_eq_getElem hsl⟩
              have e' : t.leave n fk ft = (((t.leave1 k s fk ft).fin s).1, liveE s fk y ++ ((t.leave1 k s fk ft).fin s).2, 0) := by simp only [TS.leave, hq, hf, hx, hlv, hg, hy, Bool.true_eq_false, if_false]
              have eg : gotOf t ⟨3, n, yes, fk, ft⟩ = ((s + 1 : Nat) : Int) := by
                simp only [gotOf, if_true, runs_task hq hx, tkV, hg, lkN]
                simp
              have I1 := I.blame ok hy fk ft
              have hx1 : (t.blame s fk ft).1.tks[k]? = some x := by rw [blame_tks]; exact hx
              obtain ⟨y', hy', _, how, _⟩ := blame_get (fk := fk) (ft := ft) hy
              have hyk : y.ow = k := I.ho k x s y hx hmem hy
              have e2 : t.leave1 k s fk ft = (t.blame s fk ft).1.upT k fun x => { x with lv := true, fk := fk, ft := ft } := by
                simp only [TS.leave1, TS.upT, List.modify_modify_eq]
                rfl
              have I2 : FI (gotF first ((s + 1 : Nat) : Int) fk ft) (block.set (s + 1) ⟨fk, ft⟩) (t.leave1 k s fk ft) := by
                rw [e2]
                refine ⟨I1.lf, by rw [List.length_set]; exact I1.lb, I1.hf, fun j z s' hz hl hg' => ?_, fun j z s' y'' hz hs' hy'' => ?_, I1.hz⟩
                · obtain ⟨w, hw, ⟨rfl, rfl⟩ | ⟨hjk, rfl⟩⟩ := upT_inv hz
                  · rw [hx1] at hw; cases hw
                    simp only [hg] at hg'
                    cases hg'
                    rw [List.getElem?_set_self (by rw [I1.lb]; omega)]
                  · have ne : s ≠ s' := fun e => by
                      subst e
                      have := I1.ho j z s y' hw (List.mem_of_getLast? hg') hy'
                      omega
                    rw [List.getElem?_set_ne (by omega)]
                    exact I1.hb j z s' hw hl hg'
                · obtain ⟨w, hw, ⟨rfl, rfl⟩ | ⟨hjk, rfl⟩⟩ := upT_inv hz
                  · exact I1.ho k w s' y'' hw hs' hy''
                  · exact I1.ho j z s' y'' hw hs' hy''
              obtain ⟨q1, q2⟩ := I2.fin ok.leave1 s
              rw [e']
              simp only [decide_true, firstF, blockF, if_true, true_and, eg, Int.toNat_natCast]
              refine ⟨q1, fun e he => ?_, fun _ => by omega⟩
              rcases List.mem_append.1 he with he | he
              · unfold liveE at he
                split at he
                · simp at he; subst he
                  intro h3; simp at h3
                · cases he
              · exact q2 e he
  by_cases c6 : kk = 6
  · subst c6
    have et : t.told ⟨6, n, yes, fk, ft⟩ = ((t.fail n fk ft).1, (t.fail n fk ft).2.1, decide ((t.fail n fk ft).2.2 = 0)) := by simp [TS.told]
    have eb : ∀ b, blockF block t ⟨6, n, yes, fk, ft⟩ b = block := fun b => by simp [blockF]
    have eg : gotOf t ⟨6, n, yes, fk, ft⟩ = n := by simp [gotOf]
    rw [et, eb]
    have bad : ∀ e : Int, e ≠ 0 → t.fail n fk ft = (t, [], e) → FI (firstF first t ⟨6, n, yes, fk, ft⟩ (decide ((t.fail n fk ft).2.2 = 0))) block (t.fail n fk ft).1 ∧ (∀ e, e ∈ (t.fail n fk ft).2.1 → goodE (firstF first t ⟨6, n, yes, fk, ft⟩ (decide ((t.fail n fk ft).2.2 = 0))) block e) ∧ (decide ((t.fail n fk ft).2.2 = 0) = true → 0 ≤ gotOf t ⟨6, n, yes, fk, ft⟩ ∧ gotOf t ⟨6, n, yes, fk, ft⟩ ≤ 200) := fun e he h => by
      rw [h]
      simp only [he, decide_false, firstF, Bool.false_eq_true, if_false]
      exact ⟨I, nilE, fun h => h.elim⟩
    rcases hq : t.scope n with ⟨s | s, e⟩
    · have e6 := scope_none hq
      exact bad 6 (by omega) (by simp only [TS.fail, hq, e6])
    · obtain ⟨rfl, hn, hs⟩ := scope_some hq
      obtain ⟨y, hy⟩ : ∃ y, t.scs[s]? = some y := ⟨_, List.getElem?_eq_getElem hs⟩
      cases hov : y.ov with
      | true => exact bad 6 (by omega) (by simp only [TS.fail, hq, hy, hov, if_true])
      | false =>
        by_cases hc : fk = 1 ∧ faultB fk ft = true
        · have e' : t.fail n fk ft = ((t.blame s fk ft).1, if (t.blame s fk ft).2 then [⟨1, n, 0, 0, ⟨#[]⟩⟩] else [], 0) := by simp only [TS.fail, hq, hy, hov, Bool.false_eq_true, if_false]; rw [if_pos hc]
          have I1 := I.blame ok hy fk ft
          rw [e']
          simp only [decide_true, firstF, if_true, eg]
          rw [show n = ((s + 1 : Nat) : Int) by omega]
          refine ⟨I1, fun e he => ?_, fun _ => by omega⟩
          split at he
          · simp at he; subst he
            intro h3; simp at h3
          · cases he
        · exact bad 2 (by omega) (by simp only [TS.fail, hq, hy, hov, Bool.false_eq_true, if_false]; rw [if_neg hc])
  · have et : t.told ⟨kk, n, yes, fk, ft⟩ = ((t.run ⟨kk, n, yes, fk, ft⟩).1, (t.run ⟨kk, n, yes, fk, ft⟩).2, true) := by simp [TS.told, c2, c3, c6]
    have eg : gotOf t ⟨kk, n, yes, fk, ft⟩ = 0 := by simp [gotOf, c2, c3, c6]
    rw [et]
    simp only [firstF, blockF, if_true, true_and, c3, if_false, eg, gotF_zero]
    have go : FI first block (t.run ⟨kk, n, yes, fk, ft⟩).1 ∧ (t.run ⟨kk, n, yes, fk, ft⟩).2 = [] := by
      unfold TS.run
      simp only [c2, c3, c6, if_false]
      repeat' split
      · exact ⟨I.open ok n yes, rfl⟩
      · exact ⟨I.spawn n, rfl⟩
      · exact ⟨I.shield n, rfl⟩
      · exact ⟨I.unveil n, rfl⟩
      · exact ⟨I.root, rfl⟩
      · exact ⟨I, rfl⟩
    rw [go.2]
    exact ⟨go.1, nilE, fun _ => by omega⟩

end

end Go.Proofs.Ytahomnlkkafbjaa.tr

namespace Go.Proofs.Ytahomnlkkafbjaa.tr
open Go Go.Ev
set_option maxRecDepth 100000
set_option linter.unusedVariables false
set_option linter.constructorNameAsVariable false

/-! ### TreeFirst: the walk -/

/-- The heap in the rounds: the tree, the calls, the two arrays. -/
structure FS (g : Hp) (ρ : Lay) (t : TS) (b o f1 f2 : Nat) (ops : List OpV) (first block : List Ft) : Prop where
  tat : TAt g ρ t
  root : ρ .root = some b
  hO : ∃ rw, g[o]? = some (.cells (opC ops) rw)
  nO : ¬ fpT ρ o
  h1 : g[f1]? = some (.cells (ftL first) true)
  n1 : ¬ fpT ρ f1
  h2 : g[f2]? = some (.cells (ftL block) true)
  n2 : ¬ fpT ρ f2
  d1 : o ≠ f1
  d2 : o ≠ f2
  d3 : f1 ≠ f2

section
variable {g g' : Hp} {ρ ρ' : Lay} {t t' : TS} {b o f1 f2 : Nat} {ops : List OpV} {first block : List Ft} {c : Nat}

theorem FS.step (F : FS g ρ t b o f1 f2 ops first block) (S : Step ρ g ρ' g') (a : TAt g' ρ' t') : FS g' ρ' t' b o f1 f2 ops first block := by
  obtain ⟨rw, hO⟩ := F.hO
  exact ⟨a, S.root.trans F.root, ⟨rw, S.get hO F.nO⟩, S.out (get_lt hO) F.nO, S.get F.h1 F.n1, S.out (get_lt F.h1) F.n1, S.get F.h2 F.n2, S.out (get_lt F.h2) F.n2, F.d1, F.d2, F.d3⟩
theorem FS.grow (F : FS g ρ t b o f1 f2 ops first block) (K : Keep (fun _ => False) g g') : FS g' ρ t b o f1 f2 ops first block := F.step (Step.grow K) (F.tat.grow K)
theorem FS.set1 (F : FS g ρ t b o f1 f2 ops first block) (first' : List Ft) : FS (g.set f1 (.cells (ftL first') true)) ρ t b o f1 f2 ops first' block := by
  obtain ⟨rw, hO⟩ := F.hO
  exact ⟨F.tat.setN F.n1 _, F.root, ⟨rw, get_set_ne hO (Ne.symm F.d1)⟩, F.nO, get_set_eq F.h1, F.n1, get_set_ne F.h2 F.d3, F.n2, F.d1, F.d2, F.d3⟩
abbrev E6 (b o f1 f2 p : Nat) (i : Int) : Env := [(42, .int .i64 i), (41, .int .i64 (Int.ofNat p)), (40, .slice (some ⟨o, 0, none⟩) p 5), (5, ptr b), (7, .slice (some ⟨f1, 0, none⟩) 201 2), (8, .slice (some ⟨f2, 0, none⟩) 201 2)]
end

end Go.Proofs.Ytahomnlkkafbjaa.tr

namespace Go.Proofs.Ytahomnlkkafbjaa.tr
open Go Go.Ev
set_option maxRecDepth 100000
set_option linter.unusedVariables false
set_option linter.constructorNameAsVariable false

section
variable {g g' : Hp} {ρ ρ' : Lay} {t t' : TS} {b o f1 f2 : Nat} {ops : List OpV} {first block : List Ft} {c : Nat}

end

end Go.Proofs.Ytahomnlkkafbjaa.tr

namespace Go.Proofs.Ytahomnlkkafbjaa.tr
open Go Go.Ev
set_option maxRecDepth 100000
set_option linter.unusedVariables false
set_option linter.constructorNameAsVariable false

section
variable {g g' : Hp} {ρ ρ' : Lay} {t t' : TS} {b o f1 f2 : Nat} {ops : List OpV} {first block : List Ft} {c : Nat}

end

end Go.Proofs.Ytahomnlkkafbjaa.tr

namespace Go.Proofs.Ytahomnlkkafbjaa.tr
open Go Go.Ev
set_option maxRecDepth 100000
set_option linter.unusedVariables false
set_option linter.constructorNameAsVariable false

section
variable {g g' : Hp} {ρ ρ' : Lay} {t t' : TS} {b o f1 f2 : Nat} {ops : List OpV} {first block : List Ft} {c : Nat}

end

end Go.Proofs.Ytahomnlkkafbjaa.tr

namespace Go.Proofs.Ytahomnlkkafbjaa.tr
open Go Go.Ev
set_option maxRecDepth 100000
set_option linter.unusedVariables false
set_option linter.constructorNameAsVariable false

section
variable {g g' : Hp} {ρ ρ' : Lay} {t t' : TS} {b o f1 f2 : Nat} {ops : List OpV} {first block : List Ft} {c : Nat}

end

end Go.Proofs.Ytahomnlkkafbjaa.tr

namespace Go.Proofs.Ytahomnlkkafbjaa.tr
open Go Go.Ev
set_option maxRecDepth 100000
set_option linter.unusedVariables false
set_option linter.constructorNameAsVariable false

theorem TOk.told {t : TS} {c : Nat} {o : OpV} (ok : TOk c t) : TOk (c + 1) (t.told o).1 := by rw [told_run'.1]; exact ok.run

end Go.Proofs.Ytahomnlkkafbjaa.tr

namespace Go.Proofs.Ytahomnlkkafbjaa.tr
open Go Go.Ev
set_option maxRecDepth 100000
set_option linter.unusedVariables false
set_option linter.constructorNameAsVariable false

/-! ### What the laws are given -/


theorem chunks {α : Type} (f : α → List Value) {z : Nat} (hz : ∀ x, (f x).length = z) : ∀ (n : Nat) (c : List Value), c.length = n * z → (∀ k, k < n → ∃ x, (c.drop (k * z)).take z = f x) →
    ∃ l : List α, l.length = n ∧ c = l.flatMap f ∧ ∀ k x, l[k]? = some x → (c.drop (k * z)).take z = f x
  | 0, c, hl, _ => ⟨[], rfl, List.length_eq_zero_iff.1 (by simpa using hl), fun k x h => by simp at h⟩
  | n + 1, c, hl, hc => by
    have hs : (n + 1) * z = n * z + z := by rw [Nat.add_mul, Nat.one_mul]
    obtain ⟨x, hx⟩ := hc 0 (by omega)
    obtain ⟨l, h1, h2, h3⟩ := chunks f hz n (c.drop z) (by rw [List.length_drop, hl, hs]; omega) (fun k hk => by
      obtain ⟨y, hy⟩ := hc (k + 1) (by omega)
      refine ⟨y, ?_⟩
      rw [List.drop_drop, ← hy, Nat.add_mul, Nat.one_mul, Nat.add_comm])
    refine ⟨x :: l, by simp [h1], ?_, fun k y hy => ?_⟩
    · rw [List.flatMap_cons, ← h2, ← hx, Nat.zero_mul, List.drop_zero, List.take_append_drop]
    · cases k with
      | zero => simp at hy; subst hy; exact hx
      | succ k =>
        have := h3 k y (by simpa using hy)
        rw [List.drop_drop, Nat.add_comm z] at this
        rw [Nat.add_mul, Nat.one_mul]; exact this


theorem opC_flat : ∀ l : List OpV, l.flatMap OpV.cells = opC l
  | [] => rfl
  | x :: l => by rw [List.flatMap_cons, opC_flat l]; rfl

section
variable {h : Hp} {F : Nat}
theorem c3 : Try.prog.cellsOf 3 = 1 := by kernel_rfl
theorem c4 : Try.prog.cellsOf 4 = 1 := by kernel_rfl
theorem c9 : Try.prog.cellsOf 9 = 1 := by kernel_rfl
theorem c30 : Try.prog.cellsOf 30 = 2 := by kernel_rfl
theorem c32 : Try.prog.cellsOf 32 = 5 := by kernel_rfl
theorem u3 : Try.prog.underlying 3 = some (.int .i64) := by kernel_rfl
theorem u4 : Try.prog.underlying 4 = some .bool := by kernel_rfl
theorem u9 : Try.prog.underlying 9 = some .string := by kernel_rfl
theorem u22 : Try.prog.underlying 22 = some (.slice 32) := by kernel_rfl
theorem op_cells {cs : List Value} (hc : ATyped Try.prog h F 32 cs) : ∃ x : OpV, cs = x.cells := by
  obtain ⟨G, rfl, hl, hf⟩ := hc.asStruct Try.underlying32
  rw [c32] at hl
  match cs, hl with
  | [a, b, c, d, e], _ =>
    simp only [List.forall_mem_cons, c3, c4, c30] at hf
    obtain ⟨k, h1, _⟩ := hf.1.asInt u3
    obtain ⟨n, h2, _⟩ := hf.2.1.asInt u3
    obtain ⟨t, h3⟩ := hf.2.2.1.asBool u4
    obtain ⟨G, rfl, hl, hg⟩ := hf.2.2.2.1.asStruct Try.underlying30
    simp only [List.forall_mem_cons, c3, c9] at hg
    obtain ⟨f, h4, _⟩ := hg.1.asInt u3
    obtain ⟨s, h5, _⟩ := hg.2.1.asString u9
    simp at h1 h2 h3 h4 h5
    subst h1; subst h2; subst h3; subst h4; subst h5
    exact ⟨⟨k, n, t, f, s⟩, rfl⟩
theorem ops_arg {a : Value} (ht : ArgTyped Try.prog h F 22 a) : ∃ l : List OpV, OpsAt h a l := by
  obtain ⟨G, rfl, rfl | ⟨i, len, c, rfl, hi, hl, _, hk⟩⟩ := ht.asSlice u22
  · exact ⟨[], .inl ⟨rfl, rfl⟩⟩
  · rw [c32] at hl hk
    obtain ⟨l, h1, h2, _⟩ := chunks OpV.cells (z := 5) (fun _ => rfl) len c hl (fun k hlt => op_cells (hk k hlt))
    rw [opC_flat] at h2
    exact ⟨l, .inr ⟨i, false, by rw [c32, h1], by rw [← h2]; exact hi⟩⟩
end

end Go.Proofs.Ytahomnlkkafbjaa.tr

namespace Go.Proofs.Ytahomnlkkafbjaa.tr
open Go Go.Ev
set_option maxRecDepth 100000
set_option linter.unusedVariables false
set_option linter.constructorNameAsVariable false

/-! ### Objects that are being made -/

structure Ob (lo : Nat) (h : Hp) (σ : Lay) (C : Rl → List Value) : Prop where
  inj : ∀ r r' i, σ r = some i → σ r' = some i → r = r'
  obj : ∀ r i, σ r = some i → h[i]? = some (.cells (C r) true)
  lo : ∀ r i, σ r = some i → lo ≤ i

theorem Ob.lt {lo : Nat} {h : Hp} {σ : Lay} {C : Rl → List Value} (a : Ob lo h σ C) {r : Rl} {i : Nat} (e : σ r = some i) : i < h.length := get_lt (a.obj r i e)
theorem Ob.keep {lo : Nat} {h h' : Hp} {σ : Lay} {C : Rl → List Value} {fp : Nat → Prop} (a : Ob lo h σ C) (K : Keep fp h h') (hf : ∀ q, fp q → ¬ fpT σ q) : Ob lo h' σ C :=
  ⟨a.inj, fun r i e => K.2 _ _ (a.obj r i e) fun q => hf i q ⟨r, e⟩, a.lo⟩
theorem Ob.grow {lo : Nat} {h h' : Hp} {σ : Lay} {C : Rl → List Value} (a : Ob lo h σ C) (K : Keep (fun _ => False) h h') : Ob lo h' σ C := a.keep K fun _ e => e.elim
theorem Ob.upd {lo : Nat} {h h' : Hp} {σ σ' : Lay} {C C' : Rl → List Value} {fp : Nat → Prop} (a : Ob lo h σ C) (D : Rl → Prop) (K : Keep fp h h') (hfp : ∀ r q, σ r = some q → fp q → D r)
    (same : ∀ r, ¬ D r → σ' r = σ r ∧ (σ r ≠ none → C r = C' r))
    (new : ∀ r i, D r → σ' r = some i → h'[i]? = some (.cells (C' r) true) ∧ lo ≤ i ∧ ∀ r', σ' r' = some i → r' = r) : Ob lo h' σ' C' := by
  refine ⟨fun r r' i e e' => ?_, fun r i e => ?_, fun r i e => ?_⟩
  · by_cases d : D r
    · exact ((new r i d e).2.2 r' e').symm
    · by_cases d' : D r'
      · exact (new r' i d' e').2.2 r e
      · rw [(same r d).1] at e
        rw [(same r' d').1] at e'
        exact a.inj r r' i e e'
  · by_cases d : D r
    · exact (new r i d e).1
    · obtain ⟨s1, s2⟩ := same r d
      rw [s1] at e
      rw [← s2 (by rw [e]; simp)]
      exact K.2 _ _ (a.obj r i e) fun f => d (hfp r i e f)
  · by_cases d : D r
    · exact (new r i d e).2.1
    · rw [(same r d).1] at e
      exact a.lo r i e

theorem slv_ex (o : Option Nat) (n : Nat) (h : o = none → n = 0) : ∃ oa za, slv o n = .slice oa n za ∧ ∀ i, o = some i → oa = some ⟨i, 0, none⟩ ∧ za = 1 := by
  cases o with
  | none => rw [h rfl]; exact ⟨none, 0, rfl, fun i e => by cases e⟩
  | some i => exact ⟨_, 1, rfl, fun j e => by cases e; exact ⟨rfl, rfl⟩⟩
/-- What a copy that is being made holds: i tasks, j scopes, m tasks turned. -/
def cL (ρ σ : Lay) (t : TS) (i j m : Nat) : Rl → List Value
  | .root => [slv (σ .ts) i, slv (σ .ss) j]
  | .ts => (List.range i).map fun k => pvv (σ (.tk k))
  | .ss => (List.range j).map fun k => pvv (σ (.sc k))
  | .tk k => match t.tks[k]? with
    | some x => if k < m then tkC σ k x else tkC ρ k x
    | none => []
  | .op k => match t.tks[k]? with
    | some x => x.opn.map (inP σ)
    | none => []
  | .sc k => match t.scs[k]? with
    | some x => scC σ k x
    | none => []
  | .st k => match t.scs[k]? with
    | some x => x.tks.map fun j => pvv (σ (.tk j))
    | none => []

section
variable {h : Hp} {ρ : Lay} {t : TS} {c r b : Nat} {oa : Option Addr} {za : Nat}

end

end Go.Proofs.Ytahomnlkkafbjaa.tr

namespace Go.Proofs.Ytahomnlkkafbjaa.tr
open Go Go.Ev
set_option maxRecDepth 100000
set_option linter.unusedVariables false
set_option linter.constructorNameAsVariable false

section
variable {h : Hp} {ρ : Lay} {t : TS} {c r b : Nat} {oa : Option Addr} {za : Nat}

end

end Go.Proofs.Ytahomnlkkafbjaa.tr

namespace Go.Proofs.Ytahomnlkkafbjaa.tr
open Go Go.Ev
set_option maxRecDepth 100000
set_option linter.unusedVariables false
set_option linter.constructorNameAsVariable false

section
variable {h : Hp} {ρ : Lay} {t : TS} {c r b : Nat} {oa : Option Addr} {za : Nat}

end

end Go.Proofs.Ytahomnlkkafbjaa.tr

namespace Go.Proofs.Ytahomnlkkafbjaa.tr
open Go Go.Ev
set_option maxRecDepth 100000
set_option linter.unusedVariables false
set_option linter.constructorNameAsVariable false

/-! ### Equal values are the same -/

/-- A slice of n things of z cells. -/
def SlG (h : Hp) (v : Value) (n z : Nat) (cs : List Value) : Prop :=
  cs.length = n * z ∧ ∃ oa za, v = .slice oa n za ∧ (n ≠ 0 → ∃ o junk rw, oa = some ⟨o, 0, none⟩ ∧ za = z ∧ h[o]? = some (.cells (cs ++ junk) rw))
theorem SlV.g {h : Hp} {lo n z : Nat} {v : Value} {cs : List Value} (a : SlV h lo v n z cs) : SlG h v n z cs := by
  rcases a with ⟨rfl, rfl, rfl⟩ | ⟨a1, a2, o, a3, a4, a5⟩
  · exact ⟨by simp, none, 0, rfl, fun e => absurd rfl e⟩
  · exact ⟨a2, _, _, a3, fun _ => ⟨o, [], true, rfl, rfl, by rw [List.append_nil]; exact a4⟩⟩
theorem SlG.keep {h h' : Hp} {n z : Nat} {v : Value} {cs : List Value} (a : SlG h v n z cs) (K : Keep (fun _ => False) h h') : SlG h' v n z cs := by
  obtain ⟨a1, oa, za, a2, a3⟩ := a
  refine ⟨a1, oa, za, a2, fun e => ?_⟩
  obtain ⟨o, junk, rw, b1, b2, b3⟩ := a3 e
  exact ⟨o, junk, rw, b1, b2, K.2 _ _ b3 id⟩

theorem leaves44 : leaves Try.prog 8 44 = some (2, [(0, .int .i64), (1, .int .i64)]) := by kernel_rfl
theorem guard44 : Try.prog.eqGuardType Try.prog.depth 44 = false := by kernel_rfl
theorem aeqF44 (k n : Int) : (Asm.aeq .neq 44 #[.int .i64 k, .int .i64 n] #[.int .i64 k, .int .i64 n] false).holds Try.prog := by
  refine ⟨rfl, rfl, .inr ⟨rfl, ?_⟩⟩
  simp [aggEq, leaves44, guard44, eqOffs, leafEq]
section
variable {h : Hp}

/-! ### Equal rows of effects -/

end

/-! ### Two trees alike -/

section
variable {h : Hp} {ρ σ : Lay} {t : TS} {c r s : Nat}

end

end Go.Proofs.Ytahomnlkkafbjaa.tr

namespace Go.Proofs.Ytahomnlkkafbjaa.tr
open Go Go.Ev
set_option maxRecDepth 100000
set_option linter.unusedVariables false
set_option linter.constructorNameAsVariable false

/-! ### TreeRefuses -/

theorem OpsAt.grow {h g : Hp} {v : Value} {l : List OpV} (a : OpsAt h v l) (K : Keep (fun _ => False) h g) : OpsAt g v l := by
  rcases a with a | ⟨o, rw, e1, e2⟩
  · exact .inl a
  · exact .inr ⟨o, rw, e1, K.2 _ _ e2 id⟩

def Apart (ρ σ : Lay) : Prop := ∀ q, fpT ρ q → ¬ fpT σ q
theorem Apart.symm {ρ σ : Lay} (a : Apart ρ σ) : Apart σ ρ := fun q h k => a q k h
theorem Apart.step {ρ ρ' σ : Lay} {h h' : Hp} {t : TS} (a : Apart ρ σ) (S : Step ρ h ρ' h') (b : TAt h σ t) : Apart ρ' σ := fun q e f => (S.new q e).elim (fun e => a q e f) fun e => b.out e f
theorem TAt.apart {ρ ρ' σ : Lay} {h h' : Hp} {t : TS} (b : TAt h σ t) (a : Apart ρ σ) (S : Step ρ h ρ' h') : TAt h' σ t := b.keep S.keep a
theorem Made.apart {h g : Hp} {ρ σ : Lay} {b : Nat} {t : TS} (m : Made h g σ b) (a : TAt h ρ t) : Apart ρ σ := fun q e f => a.out (m.new q f) e

/-! ### TreeCopies -/

theorem EfV.sl {h : Hp} {lo : Nat} {ρ : Lay} {v : Value} {l : List Ef} (a : EfV h lo ρ v l) : SlG h v l.length 5 (efC l) := by
  rcases a with ⟨rfl, rfl⟩ | ⟨a1, o, a2, a3, _⟩
  · exact ⟨rfl, none, 0, rfl, fun e => absurd rfl e⟩
  · exact ⟨efC_len l, _, _, a2, fun _ => ⟨o, [], true, rfl, rfl, by rw [List.append_nil]; exact a3⟩⟩

end Go.Proofs.Ytahomnlkkafbjaa.tr

namespace Go.Proofs.Ytahomnlkkafbjaa.tr
open Go Go.Ev
set_option linter.unusedVariables false
set_option linter.constructorNameAsVariable false

section
variable {e : Option Nat} {t : TS} {c k : Nat}

theorem WI.irrT (W : WI e t) {f : Tk → Tk} (h1 : ∀ x, (f x).inn = x.inn) (h2 : ∀ x, (f x).opn = x.opn) (h3 : ∀ x, (f x).lv = x.lv) (h4 : ∀ x, (f x).en = x.en) : WI e (t.upT k f) := by
  cases hx : t.tks[k]? with
  | none =>
    have : t.upT k f = t := by
      simp only [TS.upT]
      rw [List.modify_eq_self]
      exact List.getElem?_eq_none_iff.1 hx
    rw [this]; exact W
  | some x =>
    refine W.upT hx (h1 x) (h4 x) (fun s y hs hy => W.ow1 k x s y hx (by rw [← h2]; exact hs) hy) (by rw [h2]; exact W.nd k x hx) (fun hl => ?_) (fun he => by rw [h2]; exact W.en k x hx (by rw [← h4]; exact he)) (fun s y hy ho => by rw [h2]; exact W.ov s y x hy (by rw [ho]; exact hx)) fun _ h => h
    rw [h3] at hl
    rw [h4, h2]; exact W.lv k x hx hl

theorem WI.root (W : WI e t) (ok : TOk c t) : WI e t.root.1 := by
  unfold TS.root
  split
  · exact W
  · exact W.newT ok
theorem open_ov (W : WI e t) {x : Tk} {s : Nat} {y : Sc} (hx : t.tks[k]? = some x) (hs : some s ∈ x.opn) (hy : t.scs[s]? = some y) : y.ov = false ∧ y.ow = k := by
  have h := W.ow1 k x s y hx hs hy
  exact ⟨(W.ov s y x hy (by rw [h]; exact hx)).2 hs, h⟩
theorem WI.spawn (W : WI e t) (ok : TOk c t) (n : Int) : WI e (t.spawn n).1 := by
  unfold TS.spawn
  split
  · exact W
  · split
    · exact W
    · rename_i x hx
      split
      · exact W
      · rename_i s hs
        split
        · exact W
        · have hm := inmost_mem hs
          obtain ⟨y, hy⟩ : ∃ y, t.scs[s]? = some y := ⟨_, List.getElem?_eq_getElem (ok.opn _ x s hx hm)⟩
          obtain ⟨h1, h2⟩ := open_ov W hx hm hy
          exact W.add ok hy h1 (by rw [h2]; exact get_lt' hx)
theorem WI.open (W : WI e t) (ok : TOk c t) (n : Int) (su : Bool) : WI e (t.open n su).1 := by
  unfold TS.open
  split
  · exact W
  · rename_i k e' hq
    split
    · exact W
    · obtain ⟨_, _, x, hx, he, hl⟩ := acts_some hq
      exact W.openF ok hx hl he su
theorem WI.shield (W : WI e t) (n : Int) : WI e (t.shield n).1 := by
  unfold TS.shield
  split
  · exact W
  · rename_i k e' hq
    obtain ⟨_, _, x, hx, he, hl⟩ := acts_some hq
    rw [hx]
    simp only
    split
    · exact W
    · have mm : ∀ s : Nat, some s ∈ x.opn ++ [none] ↔ some s ∈ x.opn := fun s => by simp
      refine W.upT hx rfl rfl (fun s y hs hy => W.ow1 k x s y hx ((mm s).1 hs) hy) ?_ (fun h => by simp only at h; rw [hl] at h; cases h) (fun h => by simp only at h; rw [he] at h; cases h) (fun s y hy ho => by rw [mm s]; exact W.ov s y x hy (by rw [ho]; exact hx)) fun _ h => h
      simp only [List.filterMap_append, List.filterMap_cons, List.filterMap_nil, id, List.append_nil]
      exact W.nd k x hx
theorem WI.unveil (W : WI e t) (n : Int) : WI e (t.unveil n).1 := by
  unfold TS.unveil
  split
  · exact W
  · rename_i k e' hq
    obtain ⟨_, _, x, hx, he, hl⟩ := acts_some hq
    rw [hx]
    simp only
    split
    · rename_i hg
      have spl : x.opn = x.opn.dropLast ++ [none] := by
        have hne : x.opn ≠ [] := fun e => by rw [e] at hg; cases hg
        have := List.dropLast_concat_getLast hne
        rw [List.getLast?_eq_some_getLast hne] at hg
        simp only [Option.some.injEq] at hg
        rw [hg] at this
        exact this.symm
      have mm : ∀ s : Nat, some s ∈ x.opn.dropLast ↔ some s ∈ x.opn := fun s => by
        constructor
        · exact fun h => List.dropLast_subset _ h
        · intro h; rw [spl] at h; simpa using h
      refine W.upT hx rfl rfl (fun s y hs hy => W.ow1 k x s y hx ((mm s).1 hs) hy) ?_ (fun h => by simp only at h; rw [hl] at h; cases h) (fun h => by simp only at h; rw [he] at h; cases h) (fun s y hy ho => by rw [mm s]; exact W.ov s y x hy (by rw [ho]; exact hx)) fun _ h => h
      have := W.nd k x hx
      rw [spl] at this
      simpa using this
    · exact W
theorem WI.blame (W : WI e t) (s : Nat) (fk : Int) (ft : ByteArray) : WI e (t.blame s fk ft).1 := by
  unfold TS.blame
  split
  · split
    · exact W.irrS (fun _ => rfl) (fun _ => rfl) (fun _ => rfl) fun _ => rfl
    · exact W
  · exact W
theorem WI.fail (W : WI e t) (n fk : Int) (ft : ByteArray) : WI e (t.fail n fk ft).1 := by
  unfold TS.fail
  split
  · exact W
  · split
    · exact W
    · split
      · exact W
      · split
        · exact W.blame _ _ _
        · exact W
theorem WI.leave1 (W : WI none t) {x : Tk} {s : Nat} {y : Sc} (hx : t.tks[k]? = some x) (he : x.en = false) (hg : x.opn.getLast? = some (some s)) (hy : t.scs[s]? = some y) (fk : Int) (ft : ByteArray) : WI (some s) (t.leave1 k s fk ft) := by
  have W1 := W.blame s fk ft
  have hx1 : (t.blame s fk ft).1.tks[k]? = some x := by rw [blame_tks]; exact hx
  obtain ⟨y', hy', h1, h2, h3, h4, h5⟩ := blame_get (s := s) (fk := fk) (ft := ft) hy
  unfold TS.leave1
  refine (WI.upT (e' := some s) W1 hx1 (f := fun x => { x with lv := true }) rfl rfl (fun s y hs hy => W1.ow1 k x s y hx1 hs hy) (W1.nd k x hx1) (fun _ => ⟨he, s, y', hg, hy', .inr rfl⟩) (fun h => W1.en k x hx1 h) (fun s y hy ho => W1.ov s y x hy (by rw [ho]; exact hx1)) fun _ h => by cases h).irrT (fun _ => rfl) (fun _ => rfl) (fun _ => rfl) fun _ => rfl
theorem WI.leave (W : WI none t) (ok : TOk c t) (n fk : Int) (ft : ByteArray) : WI none (t.leave n fk ft).1 := by
  unfold TS.leave
  split
  · exact W
  · rename_i k e' hq
    obtain ⟨_, _, x, hx, he⟩ := runs_some hq
    split
    · exact W
    · rw [hx]
      simp only
      split
      · rename_i s hl hg
        split
        · rename_i y hy
          exact (W.leave1 hx he hg hy fk ft).fin ok.leave1
        · exact W
      · exact W
theorem WI.end (W : WI none t) (ok : TOk c t) (n fk : Int) (ft : ByteArray) : WI none (t.end n fk ft).1 := by
  unfold TS.end
  split
  · exact W
  · rename_i k e' hq
    obtain ⟨_, _, x, hx, he⟩ := runs_some hq
    split
    · exact W
    · rw [hx]
      simp only
      split
      · exact W
      · rename_i ho
        have ho' : x.opn = [] := Classical.byContradiction ho
        split
        · rename_i hi
          exact W.end1 ok hx he ho' hi fk ft
        · rename_i s hi
          split
          · exact W
          · rename_i y hy
            have W2 := W.end2 ok hx he ho' hi fk ft
            have ok3 := ok.end3 (k := k) (s := s) (y := y) (fk := fk) (ft := ft)
            refine WI.fin (c := c + 1) ?_ ok3
            unfold TS.end3
            split
            · exact W2
            · exact W2.blame _ _ _
theorem WI.run (W : WI none t) (ok : TOk c t) (o : OpV) : WI none (t.run o).1 := by
  unfold TS.run
  repeat' split
  · exact W.open ok _ _
  · exact W.spawn ok _
  · exact W.end ok _ _ _
  · exact W.leave ok _ _ _
  · exact W.shield _
  · exact W.unveil _
  · exact W.fail _ _ _
  · exact W.root ok
  · exact W
theorem WI.runL : ∀ {l : List OpV} {t : TS} {c : Nat}, WI none t → TOk c t → WI none (t.runL l)
  | [], t, c, W, ok => W
  | o :: l, t, c, W, ok => WI.runL (l := l) (W.run ok o) (ok.run (o := o))
theorem WI.roots (n : Nat) : WI none (TS.roots n) := by
  have g : ∀ (k : Nat) x, (TS.roots n).tks[k]? = some x → x = Tk0 none := fun k x hx => List.eq_of_mem_replicate (List.mem_of_getElem? hx)
  have s : ∀ (k : Nat) y, ¬ (TS.roots n).scs[k]? = some y := fun k y h => by simp [TS.roots] at h
  refine ⟨fun k x s' y _ _ hy => absurd hy (s _ _), fun k x hx => by rw [g k x hx]; exact List.nodup_nil, fun s' y j hy => absurd hy (s _ _), fun s' y hy => absurd hy (s _ _), fun k x hx hl => ?_, fun k x hx he => ?_, fun s' y hy => absurd hy (s _ _), fun s' y x hy => absurd hy (s _ _), fun s' y hy => absurd hy (s _ _), fun j x s' y _ _ hy => absurd hy (s _ _)⟩
  · rw [g k x hx] at hl; cases hl
  · rw [g k x hx] at he; cases he
end

/-! ### TreeOver: the plain law -/

def TS.ovB (t : TS) (s : Nat) : Bool := match t.scs[s]? with
  | some y => y.ov
  | none => false
theorem ovB_of {t : TS} {s : Nat} {y : Sc} (h : t.scs[s]? = some y) : t.ovB s = y.ov := by simp only [TS.ovB, h]

def cntOf (b : Bool) : Int := if b then 1 else 0
structure OvI (cnt : List Int) (t : TS) : Prop where
  len : cnt.length = 201
  at_ : ∀ s, s < 200 → cnt[s + 1]? = some (cntOf (t.ovB s))
  z : cnt[0]? = some 0
/-- One effect counted. -/
def bump (cnt : List Int) (e : Ef) : List Int := if e.kind = 3 then cnt.set e.m.toNat (cnt[e.m.toNat]?.getD 0 + 1) else cnt
def okE (cnt : List Int) (e : Ef) : Prop := e.kind = 3 → ∃ m : Nat, e.m = m ∧ 1 ≤ m ∧ m ≤ 200

section
variable {cnt : List Int} {t t' : TS} {c k : Nat}
theorem OvI.same (I : OvI cnt t) (h : ∀ s, t'.ovB s = t.ovB s) : OvI cnt t' := ⟨I.len, fun s hs => by rw [h]; exact I.at_ s hs, I.z⟩
theorem ovB_upS {f : Sc → Sc} (h : ∀ y, (f y).ov = y.ov) (s : Nat) : (t.upS k f).ovB s = t.ovB s := by
  simp only [TS.ovB]
  rw [upS_get]
  cases t.scs[s]? with
  | none => rfl
  | some y => simp only [Option.map_some]; split <;> simp only [h]
theorem ovB_newS {su : Bool} (s : Nat) : (t.newS k su).ovB s = t.ovB s := by
  simp only [TS.ovB, TS.newS]
  rcases Nat.lt_trichotomy s t.scs.length with h | h | h
  · rw [List.getElem?_append_left h]
  · subst h; simp [Sc0]
  · rw [List.getElem?_eq_none (by simp; omega), List.getElem?_eq_none (by omega)]
theorem ovB_add (inn : Option Nat) (s : Nat) : (t.add inn).ovB s = t.ovB s := by
  cases inn with
  | none => rfl
  | some s0 =>
    simp only [TS.add]
    have e1 := ovB_upS (t := (t.newT (some s0)).upS s0 fun x => { x with tks := x.tks ++ [t.tks.length] }) (k := s0) (f := fun x => { x with live := x.live + 1 }) (fun _ => rfl) s
    have e2 := ovB_upS (t := t.newT (some s0)) (k := s0) (f := fun x => { x with tks := x.tks ++ [t.tks.length] }) (fun _ => rfl) s
    exact e1.trans e2
theorem ovB_blame (s0 : Nat) (fk : Int) (ft : ByteArray) (s : Nat) : (t.blame s0 fk ft).1.ovB s = t.ovB s := by
  unfold TS.blame
  split
  · split
    · exact ovB_upS (f := fun y => { y with fk := fk, ft := ft }) (fun _ => rfl) s
    · rfl
  · rfl
theorem OvI.fin (I : OvI cnt t) (ok : TOk c t) (W : WI (some k) t) : OvI ((t.fin k).2.foldl bump cnt) (t.fin k).1 ∧ ∀ e, e ∈ (t.fin k).2 → okE cnt e := by
  have n200 := ok.n200
  unfold TS.fin
  split
  · exact ⟨I, fun e h => by cases h⟩
  · rename_i y hy
    split
    · exact ⟨I, fun e h => by cases h⟩
    · rename_i x hx
      have hk := get_lt' hy
      split
      · rename_i hB
        simp only [finB, Bool.and_eq_true, decide_eq_true_eq] at hB
        have hov := (open_ov W hx (List.mem_of_getLast? hB.1.2) hy).1
        refine ⟨⟨?_, fun s hs => ?_, ?_⟩, fun e h _ => ?_⟩
        · simp only [List.foldl_cons, List.foldl_nil, bump, if_true, List.length_set]; exact I.len
        · simp only [List.foldl_cons, List.foldl_nil, bump, if_true, Int.toNat_natCast]
          have e1 : (t.fin0 k y.ow).ovB s = (t.upS k fun y => { y with ov := true }).ovB s := rfl
          rw [e1, I.at_ k (by omega), ovB_of hy, hov]
          by_cases hks : s = k
          · subst hks
            rw [List.getElem?_set_self (by rw [I.len]; omega), ovB_of (upS_at hy)]; rfl
          · rw [List.getElem?_set_ne (by omega), I.at_ s hs]
            simp only [TS.ovB]
            rw [upS_ne (fun e => hks e.symm)]
        · simp only [List.foldl_cons, List.foldl_nil, bump, if_true, Int.toNat_natCast]
          rw [List.getElem?_set_ne (by omega)]; exact I.z
        · simp only [List.mem_singleton] at h
          subst h
          exact ⟨k + 1, rfl, by omega, by omega⟩
      · exact ⟨I, fun e h => by cases h⟩

theorem OvI.pre (I : OvI cnt t) {e : Ef} (h : e.kind ≠ 3) (l : List Ef) : (e :: l).foldl bump cnt = l.foldl bump cnt := by simp only [List.foldl_cons, bump, if_neg h]

theorem OvI.run (I : OvI cnt t) (ok : TOk c t) (W : WI none t) (o : OpV) : OvI ((t.run o).2.foldl bump cnt) (t.run o).1 ∧ ∀ e, e ∈ (t.run o).2 → okE cnt e := by
  have nil : ∀ {t' : TS}, (∀ s, t'.ovB s = t.ovB s) → OvI (([] : List Ef).foldl bump cnt) t' ∧ ∀ e, e ∈ ([] : List Ef) → okE cnt e := fun h => ⟨I.same h, fun e h => by cases h⟩
  have pre : ∀ {l1 l2 : List Ef} {t' : TS}, (∀ e, e ∈ l1 → e.kind ≠ 3) → OvI (l2.foldl bump cnt) t' ∧ (∀ e, e ∈ l2 → okE cnt e) → OvI ((l1 ++ l2).foldl bump cnt) t' ∧ ∀ e, e ∈ l1 ++ l2 → okE cnt e := fun {l1 l2 t'} h h2 => by
    refine ⟨?_, fun e he => ?_⟩
    · rw [List.foldl_append]
      have : l1.foldl bump cnt = cnt := by
        clear h2
        induction l1 with
        | nil => rfl
        | cons a l1 ih => rw [List.foldl_cons, bump, if_neg (h a (List.mem_cons_self ..))]; exact ih fun e he => h e (List.mem_cons_of_mem _ he)
      rw [this]; exact h2.1
    · rcases List.mem_append.1 he with he | he
      · exact fun h3 => absurd h3 (h e he)
      · exact h2.2 e he
  unfold TS.run
  split
  · refine nil fun s => ?_
    unfold TS.open
    split
    · rfl
    · split
      · rfl
      · exact ovB_newS s
  split
  · refine nil fun s => ?_
    unfold TS.spawn
    split
    · rfl
    · split
      · rfl
      · split
        · rfl
        · split
          · rfl
          · exact ovB_add _ s
  split
  · unfold TS.end
    split
    · exact nil fun _ => rfl
    · rename_i k e' hq
      obtain ⟨_, _, x, hx, he⟩ := runs_some hq
      split
      · exact nil fun _ => rfl
      · rw [hx]
        simp only
        split
        · exact nil fun _ => rfl
        · rename_i ho
          have ho' : x.opn = [] := Classical.byContradiction ho
          split
          · exact nil fun _ => rfl
          · rename_i s hi
            split
            · exact nil fun _ => rfl
            · rename_i y hy
              have W2 := W.end2 ok hx he ho' hi o.fk o.ft
              have ok3 := ok.end3 (k := k) (s := s) (y := y) (fk := o.fk) (ft := o.ft)
              have I2 : OvI cnt (t.end2 k s o.fk o.ft) := I.same fun s' => by
                unfold TS.end2
                exact ovB_upS (t := t.end1 k o.fk o.ft) (k := s) (f := fun y => { y with live := y.live - 1 }) (fun _ => rfl) s'
              refine pre (fun e he => ?_) (OvI.fin (c := c + 1) ?_ ok3 ?_)
              · unfold saidE at he
                split at he
                · simp only [List.mem_singleton] at he; subst he; simp
                · cases he
              · unfold TS.end3
                split
                · exact I2
                · exact I2.same fun s' => ovB_blame s _ _ s'
              · unfold TS.end3
                split
                · exact W2
                · exact W2.blame _ _ _
  split
  · unfold TS.leave
    split
    · exact nil fun _ => rfl
    · rename_i k e' hq
      obtain ⟨_, _, x, hx, he⟩ := runs_some hq
      split
      · exact nil fun _ => rfl
      · rw [hx]
        simp only
        split
        · rename_i s hl hg
          split
          · rename_i y hy
            refine pre (fun e he => ?_) (OvI.fin (c := c) (I.same fun s' => ?_) ok.leave1 (W.leave1 hx he hg hy o.fk o.ft))
            · unfold liveE at he
              split at he
              · simp only [List.mem_singleton] at he; subst he; simp
              · cases he
            · exact ovB_blame s _ _ s'
          · exact nil fun _ => rfl
        · exact nil fun _ => rfl
  split
  · refine nil fun s => ?_
    unfold TS.shield
    repeat' split
    all_goals rfl
  split
  · refine nil fun s => ?_
    unfold TS.unveil
    repeat' split
    all_goals rfl
  split
  · unfold TS.fail
    split
    · exact nil fun _ => rfl
    · rename_i s e' hq
      split
      · exact nil fun _ => rfl
      · split
        · exact nil fun _ => rfl
        · split
          · have := pre (l1 := if (t.blame s o.fk o.ft).2 = true then [⟨1, o.n, 0, 0, ⟨#[]⟩⟩] else []) (l2 := []) (t' := (t.blame s o.fk o.ft).1) (fun e he => by
              split at he
              · simp only [List.mem_singleton] at he; subst he; simp
              · cases he) (nil fun s' => ovB_blame s _ _ s')
            rw [List.append_nil] at this
            exact this
          · exact nil fun _ => rfl
  split
  · refine nil fun s => ?_
    unfold TS.root
    split
    · rfl
    · rfl
  · exact nil fun _ => rfl
theorem OvI.roots (n : Nat) : OvI (List.replicate 201 0) (TS.roots n) := by
  refine ⟨List.length_replicate, fun s hs => ?_, rfl⟩
  rw [List.getElem?_replicate, if_pos (by omega)]; rfl
end

end Go.Proofs.Ytahomnlkkafbjaa.tr

namespace Go.Proofs.Ytahomnlkkafbjaa.tr
open Go Go.Ev
set_option maxRecDepth 100000
set_option linter.unusedVariables false
set_option linter.constructorNameAsVariable false

/-! ### Index and Contains of links -/

abbrev Pr := Int × Int
def prC (p : Pr) : List Value := [.int .i64 p.1, .int .i64 p.2]
def prL (l : List Pr) : List Value := (l.map prC).flatten
def lkP (v : Option Nat) : Pr := (lkK v, lkN v)
theorem prL_cons (p : Pr) (l : List Pr) : prL (p :: l) = prC p ++ prL l := rfl
theorem prL_app (l m : List Pr) : prL (l ++ m) = prL l ++ prL m := by simp [prL]
theorem prL_len : ∀ l : List Pr, (prL l).length = l.length * 2
  | [] => rfl
  | p :: l => by rw [prL_cons, List.length_append, prL_len l]; simp [prC]; omega
theorem prL_at : ∀ {l : List Pr} {k : Nat} {p : Pr} (junk : List Value), l[k]? = some p → ((prL l ++ junk).drop (k * 2)).take 2 = prC p
  | [], k, p, _, h => by simp at h
  | q :: l, 0, p, _, h => by simp at h; subst h; simp [prL_cons, prC]
  | q :: l, k + 1, p, junk, h => by
    have := prL_at (l := l) (k := k) (p := p) junk (by simpa using h)
    rw [prL_cons, List.append_assoc, List.drop_append, List.drop_of_length_le (by simp [prC]; omega), List.nil_append, show (k + 1) * 2 - (prC q).length = k * 2 by simp [prC]; omega]
    exact this
/-- Where a thing stands first; -1: nowhere. -/
def IxR {α : Type} (l : List α) (p : α) (r : Int) : Prop := (∃ k : Nat, r = k ∧ l[k]? = some p ∧ ∀ j, j < k → l[j]? ≠ some p) ∨ (r = -1 ∧ p ∉ l)
theorem IxR.geq {α : Type} {l : List α} {p : α} [Decidable (p ∈ l)] {r : Int} (h : IxR l p r) : decide (0 ≤ r) = decide (p ∈ l) := by
  rcases h with ⟨k, rfl, hk, _⟩ | ⟨rfl, hn⟩
  · rw [decide_eq_true (by omega), decide_eq_true (List.mem_of_getElem? hk)]
  · rw [decide_eq_false (by omega), decide_eq_false hn]

section
variable {h : Hp}
end

/-! ### TreeOver: the walk -/

def inL (l : List Int) : List Value := l.map fun x => .int .i64 x
structure OS (g : Hp) (ρ : Lay) (t : TS) (b o f : Nat) (ops : List OpV) (cnt : List Int) : Prop where
  tat : TAt g ρ t
  root : ρ .root = some b
  hO : ∃ rw, g[o]? = some (.cells (opC ops) rw)
  nO : ¬ fpT ρ o
  h1 : g[f]? = some (.cells (inL cnt) true)
  n1 : ¬ fpT ρ f
  d1 : o ≠ f

section
variable {g g' : Hp} {ρ ρ' : Lay} {t t' : TS} {b o f : Nat} {ops : List OpV} {cnt : List Int} {c : Nat}
theorem OS.step (F : OS g ρ t b o f ops cnt) (S : Step ρ g ρ' g') (a : TAt g' ρ' t') : OS g' ρ' t' b o f ops cnt := by
  obtain ⟨rw, hO⟩ := F.hO
  exact ⟨a, S.root.trans F.root, ⟨rw, S.get hO F.nO⟩, S.out (get_lt hO) F.nO, S.get F.h1 F.n1, S.out (get_lt F.h1) F.n1, F.d1⟩
theorem OS.grow (F : OS g ρ t b o f ops cnt) (K : Keep (fun _ => False) g g') : OS g' ρ t b o f ops cnt := F.step (Step.grow K) (F.tat.grow K)
theorem OS.set (F : OS g ρ t b o f ops cnt) (cnt' : List Int) : OS (g.set f (.cells (inL cnt') true)) ρ t b o f ops cnt' := by
  obtain ⟨rw, hO⟩ := F.hO
  exact ⟨F.tat.setN F.n1 _, F.root, ⟨rw, get_set_ne hO (Ne.symm F.d1)⟩, F.nO, get_set_eq F.h1, F.n1, F.d1⟩

theorem task_at {t : TS} {j : Nat} {x : Tk} (hx : t.tks[j]? = some x) : t.task ((j + 1 : Nat) : Int) = (tkV x, 0) := by
  have hl := get_lt' hx
  unfold TS.task
  rw [if_neg (by omega), show (((j + 1 : Nat) : Int) - 1).toNat = j by omega, hx]
end

end Go.Proofs.Ytahomnlkkafbjaa.tr

namespace Go.Proofs.Ytahomnlkkafbjaa.tr
open Go Go.Ev
set_option maxRecDepth 100000
set_option linter.unusedVariables false
set_option linter.constructorNameAsVariable false

/-! ### Index of a scope among open links -/

def ixO (v : Option Nat) : List (Option Nat) → Nat
  | [] => 0
  | x :: l => if x = v then 0 else ixO v l + 1
theorem ixO_at {v : Option Nat} : ∀ {l : List (Option Nat)} {k : Nat}, l[k]? = some v → (∀ j, j < k → l[j]? ≠ some v) → ixO v l = k
  | [], k, h, _ => by simp at h
  | x :: l, 0, h, _ => by simp at h; simp [ixO, h]
  | x :: l, k + 1, h, hn => by
    have h0 := hn 0 (by omega)
    simp at h0
    have := ixO_at (l := l) (k := k) (by simpa using h) fun j hj => by have := hn (j + 1) (by omega); simpa using this
    simp [ixO, h0, this]
theorem ixO_lt {v : Option Nat} : ∀ {l : List (Option Nat)}, v ∈ l → ixO v l < l.length
  | x :: l, h => by
    simp only [ixO]
    split
    · simp
    · rename_i c
      rcases List.mem_cons.1 h with h | h
      · exact absurd h.symm c
      · have := ixO_lt h
        simp; omega

theorem stat19 (k : Nat) (hk : k = 0 ∨ k = 1 ∨ k = 2 ∨ k = 3) : (Asm.stat (drawN Try.f19 k)).holds Try.prog := by
  rcases hk with rfl | rfl | rfl | rfl
  · exact show statOk (drawN Try.f19 0) = true by kernel_rfl
  · exact show statOk (drawN Try.f19 1) = true by kernel_rfl
  · exact show statOk (drawN Try.f19 2) = true by kernel_rfl
  · exact show statOk (drawN Try.f19 3) = true by kernel_rfl

section
variable {h : Hp} {ρ : Lay} {t : TS} {c r : Nat}

theorem indexS_run (a : TAt h ρ t) {k s si : Nat} {x : Tk} {oa : Option Addr} {za : Nat} (hx : t.tks[k]? = some x) (hsi : ρ (.sc s) = some si) (hin : ∀ s, some s ∈ x.opn → s < t.scs.length) (hb : x.opn.length ≤ 1000000) (hs : some s ∈ x.opn) (hv : slv (ρ (.op k)) x.opn.length = .slice oa x.opn.length za) :
    Run Try.prog 44 [.slice oa x.opn.length za, ptr si] h (.int .i64 (ixO (some s) x.opn : Nat)) h := by
  have loop : ∀ (j i : Nat) (E : Env), i + j = x.opn.length → EnvLe [(8, .int .i64 (i : Int)), (7, .int .i64 (Int.ofNat x.opn.length)), (0, .slice oa x.opn.length za), (1, ptr si)] E → (∀ j, j < i → x.opn[j]? ≠ some (some s)) →
      ∃ E1, EnvLe [(4, .int .i64 (ixO (some s) x.opn : Nat))] E1 ∧ LRun Try.prog 19 false (loopN Try.f44 0) E h .ret E1 h := by
    intro j
    induction j with
    | zero =>
      intro i E hi hE hn
      obtain ⟨k', hk'⟩ := List.mem_iff_getElem?.1 hs
      exact absurd hk' (hn k' (by have := get_lt' hk'; omega))
    | succ j ih =>
      intro i E hi hE hn
      obtain ⟨w, hw⟩ : ∃ w, x.opn[i]? = some w := ⟨_, List.getElem?_eq_getElem (by omega)⟩
      cases ho : ρ (.op k) with
      | none => have := a.sh.op k x hx ho; rw [this] at hi; simp at hi
      | some o =>
      rw [ho] at hv
      cases hv
      have B1 : (Asm.cmp .lss (i : Int) (Int.ofNat x.opn.length) true).holds Try.prog := ltT (by simp; omega)
      have B2 : (Asm.off i 0 (i : Int) x.opn.length 1).holds Try.prog := offI (q := i) rfl (by omega) (by omega)
      have B3 : (Asm.ld1 (.is h) o i (inP ρ w)).holds Try.prog := a.ld1 rfl ho (by rw [cont_op hx, List.getElem?_map, hw]; rfl)
      have B9 : (Asm.arith .add .i64 (i : Int) 1 ((i + 1 : Nat) : Int)).holds Try.prog := addI rfl (by omega) (by omega)
      have nx : ∀ {E2 : Env}, w ≠ some s → EnvLe [(8, .int .i64 ((i + 1 : Nat) : Int)), (7, .int .i64 (Int.ofNat x.opn.length)), (0, .slice (some ⟨o, 0, none⟩) x.opn.length 1), (1, ptr si)] E2 → CRun Try.prog 19 false (loopN Try.f44 0) E h .normal E2 h → ∃ E1, EnvLe [(4, .int .i64 (ixO (some s) x.opn : Nat))] E1 ∧ LRun Try.prog 19 false (loopN Try.f44 0) E h .ret E1 h := fun hne h1 h2 => by
        obtain ⟨E3, s1, s2⟩ := ih (i + 1) _ (by omega) h1 fun m hm e => by
          by_cases e1 : m = i
          · subst e1; rw [hw] at e; cases e; exact hne rfl
          · exact hn m (by omega) e
        exact ⟨E3, s1, .step h2 s2⟩
      cases w with
      | none =>
        obtain ⟨E2, q1, q2⟩ := pvC 0 hE (r38p.ig_nil none o x.opn.length 0 si 0 i i ((i + 1 : Nat) : Int) h) ⟨B1, B2, B3, B9, trivial⟩
        exact nx (by simp) (.trans (.add (.add (.add (.add (.nil _) rfl) rfl) rfl) rfl) q1) q2
      | some s' =>
        have hs' := hin s' (List.mem_of_getElem? hw)
        obtain ⟨yi, hyi⟩ := a.sh.sc s' hs'
        simp only [inP, hyi, pvv] at B3
        obtain ⟨c1, ho1⟩ := a.own hsi
        obtain ⟨c2, ho2⟩ := a.own hyi
        by_cases e : s' = s
        · subst e
          rw [hsi] at hyi; cases hyi
          obtain ⟨E2, q1, q2⟩ := pvC 0 hE (r38p.ig_eq none o x.opn.length 0 si si i i 0 h) ⟨B1, B2, B3, ⟨95, 7, c1, c2, und91, siz95, ho1, ho2, .inl ⟨rfl, by simp⟩⟩, trivial⟩
          refine ⟨E2, ?_, .last q2 (by simp)⟩
          rw [ixO_at hw hn]
          exact .trans (.add (.nil _) rfl) q1
        · have hne : si ≠ yi := fun e1 => by subst e1; have := a.inj _ _ _ hsi hyi; cases this; exact e rfl
          obtain ⟨E2, q1, q2⟩ := pvC 0 hE (r38p.ig_ne none o x.opn.length 0 si yi i i ((i + 1 : Nat) : Int) h) ⟨B1, B2, B3, ⟨95, 7, c1, c2, und91, siz95, ho1, ho2, .inl ⟨rfl, by simp [hne]⟩⟩, B9, trivial⟩
          exact nx (by simpa using e) (.trans (.add (.add (.add (.add (.nil _) rfl) rfl) rfl) rfl) q1) q2
  obtain ⟨E1, q1, q2⟩ := loop x.opn.length 0 [(8, .int .i64 (0 : Nat)), (7, .int .i64 (Int.ofNat x.opn.length)), (0, .slice oa x.opn.length za), (1, ptr si)] (by omega) (EnvLe.refl _) (fun j hj => absurd hj (Nat.not_lt_zero _))
  exact pvF 0 Try.func44 (r38p.ig_f oa x.opn.length za si _ h h) ⟨a_loop (by kernel_rfl) (.add (.add (.add (.add (.nil _) rfl) rfl) rfl) rfl) q1 q2, trivial⟩

/-! ### A list that is made in a cell -/

structure Acc (h : Hp) (b8 : Nat) (g : Hp) (v : Value) (acc : List Pr) : Prop where
  keep : Keep (fun _ => False) h g
  lo : h.length ≤ b8
  box : g[b8]? = some (.cells [v] true)
  sl : SlV g (b8 + 1) v acc.length 2 (prL acc)

/-- What appending to it turns. -/
def fpA (b8 : Nat) (v : Value) (q : Nat) : Prop := q = b8 ∨ ∃ n z, v = .slice (some ⟨q, 0, none⟩) n z

theorem Acc.grow {b8 : Nat} {g g' : Hp} {v : Value} {acc : List Pr} (A : Acc h b8 g v acc) (K : Keep (fun _ => False) g g') : Acc h b8 g' v acc := ⟨A.keep.trans K, A.lo, K.2 _ _ A.box id, A.sl.keep K fun _ e => e.elim⟩
theorem Acc.setL {b8 L : Nat} {g : Hp} {v : Value} {acc : List Pr} (A : Acc h b8 g v acc) (hL : h.length ≤ L) {st : LoopState} {pd : Option Code} {E : Env} {n : Nat} {ps : Array Tmp} {x y : Code} (hl : g[L]? = some (.loop st pd E n ps x y)) (o : AObj) : Acc h b8 (g.set L o) v acc := by
  refine ⟨A.keep.setN hL _, A.lo, get_set_ne A.box (fun e => by subst e; rw [A.box] at hl; cases hl), ?_⟩
  rcases A.sl with s | ⟨a1, a2, w, a3, a4, a5⟩
  · exact .inl s
  · exact .inr ⟨a1, a2, w, a3, get_set_ne a4 (fun e => by subst e; rw [a4] at hl; cases hl), a5⟩

theorem Acc.notL {b8 L : Nat} {g : Hp} {v : Value} {acc : List Pr} (A : Acc h b8 g v acc) {st : LoopState} {pd : Option Code} {E : Env} {n : Nat} {ps : Array Tmp} {x y : Code} (hl : g[L]? = some (.loop st pd E n ps x y)) : ¬ fpA b8 v L := by
  rintro (rfl | ⟨n', z', e⟩)
  · rw [A.box] at hl; cases hl
  · rcases A.sl with ⟨_, _, e'⟩ | ⟨a1, a2, w, a3, a4, a5⟩
    · rw [e'] at e; cases e
    · rw [a3] at e; cases e
      rw [a4] at hl; cases hl
theorem Acc.notB {b8 q : Nat} {g : Hp} {v sl : Value} {acc : List Pr} (A : Acc h b8 g v acc) (hl : g[q]? = some (.cells [sl] true)) (hn : q ≠ b8) : ¬ fpA b8 v q := by
  rintro (rfl | ⟨n', z', e⟩)
  · exact hn rfl
  · rcases A.sl with ⟨_, _, e'⟩ | ⟨a1, a2, w, a3, a4, a5⟩
    · rw [e'] at e; cases e
    · rw [a3] at e; cases e
      rw [a4] at hl
      have := congrArg List.length (AObj.cells.inj (Option.some.inj hl)).1
      rw [prL_len] at this
      simp at this
      omega

/-- One more: the list was empty. -/
theorem Acc.appN {b8 : Nat} {g : Hp} {v : Value} (A : Acc h b8 g v []) (p : Pr) :
    Acc h b8 (((g ++ [AObj.cells (prC p) true]) ++ [AObj.cells (prC p) true]).set b8 (.cells [.slice (some ⟨g.length + 1, 0, none⟩) 1 2] true)) (.slice (some ⟨g.length + 1, 0, none⟩) 1 2) [p] ∧
    Keep (fpA b8 v) g (((g ++ [AObj.cells (prC p) true]) ++ [AObj.cells (prC p) true]).set b8 (.cells [.slice (some ⟨g.length + 1, 0, none⟩) 1 2] true)) := by
  have bl := get_lt A.box
  have kl := A.keep.1
  refine ⟨⟨(((A.keep.pushN _).pushN _).setN A.lo _), A.lo, get_set_eq (get_push (get_push A.box)), .inr ⟨by simp, by simp [prL, prC], g.length + 1, rfl, ?_, by omega⟩⟩, ?_⟩
  · exact get_set_ne (get_new' _ (by simp)) (by omega)
  · exact ((Keep.push _ _ _).trans (Keep.push _ _ _)).trans (Keep.set (fp := fpA b8 v) (.inl rfl) _)
/-- One more, behind others. -/
theorem Acc.appS {b8 w : Nat} {g : Hp} {acc : List Pr} (A : Acc h b8 g (.slice (some ⟨w, 0, none⟩) acc.length 2) acc) (hw : g[w]? = some (.cells (prL acc) true)) (hl : b8 + 1 ≤ w) (p : Pr) :
    Acc h b8 ((((g ++ [AObj.cells (prC p) true]).set w .dead) ++ [AObj.cells (prL acc ++ prC p) true]).set b8 (.cells [.slice (some ⟨g.length + 1, 0, none⟩) (acc.length + 1) 2] true)) (.slice (some ⟨g.length + 1, 0, none⟩) (acc.length + 1) 2) (acc ++ [p]) ∧
    Keep (fpA b8 (.slice (some ⟨w, 0, none⟩) acc.length 2)) g ((((g ++ [AObj.cells (prC p) true]).set w .dead) ++ [AObj.cells (prL acc ++ prC p) true]).set b8 (.cells [.slice (some ⟨g.length + 1, 0, none⟩) (acc.length + 1) 2] true)) := by
  have bl := get_lt A.box
  have kl := A.keep.1
  have lo := A.lo
  have ll := prL_len acc
  have hb2 : ((g ++ [AObj.cells (prC p) true]).set w .dead)[b8]? = some (.cells [.slice (some ⟨w, 0, none⟩) acc.length 2] true) := get_set_ne (get_push A.box) (by omega)
  refine ⟨⟨((((A.keep.pushN _).setN (by omega) _).pushN _).setN A.lo _), A.lo, get_set_eq (get_push hb2), .inr ⟨by simp, by rw [prL_app]; simp [prL, prC] at ll ⊢; omega, g.length + 1, by simp, ?_, by omega⟩⟩, ?_⟩
  · rw [prL_app]
    exact get_set_ne (get_new' _ (by simp)) (by omega)
  · exact (((Keep.push _ _ _).trans (Keep.set (fp := fpA b8 (.slice (some ⟨w, 0, none⟩) acc.length 2)) (.inr ⟨_, _, rfl⟩) _)).trans (Keep.push _ _ _)).trans (Keep.set (.inl rfl) _)
theorem Acc.cases {b8 : Nat} {g : Hp} {v : Value} {acc : List Pr} (A : Acc h b8 g v acc) : (acc = [] ∧ v = .slice none 0 0) ∨ (acc ≠ [] ∧ ∃ w, v = .slice (some ⟨w, 0, none⟩) acc.length 2 ∧ g[w]? = some (.cells (prL acc) true) ∧ b8 + 1 ≤ w) := by
  rcases A.sl with ⟨a1, _, a2⟩ | ⟨a1, _, w, a3, a4, a5⟩
  · exact .inl ⟨List.length_eq_zero_iff.1 a1, a2⟩
  · exact .inr ⟨fun e => a1 (by rw [e]; rfl), w, a3, a4, a5⟩
theorem Acc.vr {b8 : Nat} {g : Hp} {v : Value} {acc : List Pr} (A : Acc h b8 g v acc) : veqR v = true := by
  rcases A.cases with ⟨_, e⟩ | ⟨_, w, e, _⟩ <;> rw [e] <;> rfl

/-! ### Chain: what is said of it -/

def TS.chainG (t : TS) : Nat → Nat → Nat → List Pr
  | 0, _, _ => []
  | f + 1, k, top => match t.tks[k]? with
    | none => []
    | some x => ((x.opn.take top).reverse.map lkP ++ [(1, ((k + 1 : Nat) : Int))]) ++ match x.inn with
      | none => []
      | some s => match t.scs[s]? with
        | none => []
        | some y => match t.tks[y.ow]? with
          | none => []
          | some z => lkP (some s) :: t.chainG f y.ow (ixO (some s) z.opn)
def TS.chain (t : TS) (n : Int) : List Pr × Int := match t.runs n with
  | (none, e) => ([], e)
  | (some k, _) => match t.tks[k]? with
    | some x => (t.chainG (k + 1) k x.opn.length, 0)
    | none => ([], 6)

noncomputable def CAS : Code := partC Try.f19 [1, 1, 1, 1, 1, 0, 0, 0, 0, 1, 0, 0]
noncomputable def CBD : Code := partC Try.f19 [1, 1, 1, 1, 1, 0, 0, 0, 0, 1, 0, 1]
theorem body19 : Try.f19.body = some (chainT [partC Try.f19 [0], partC Try.f19 [1, 0], partC Try.f19 [1, 1, 0], partC Try.f19 [1, 1, 1, 0], partC Try.f19 [1, 1, 1, 1, 0]] (.block 0 (.loop (loopN Try.f19 0)))) := by kernel_rfl
theorem bodyL19 : loopN Try.f19 0 = .block 1 (.seq (.seq (partC Try.f19 [1, 1, 1, 1, 1, 0, 0, 0, 0, 0]) (.block 2 (.rangeFunc (.tmp 32) #[33, 34] CAS CBD))) (partC Try.f19 [1, 1, 1, 1, 1, 0, 0, 0, 1])) := by kernel_rfl

theorem ch_body (a : TAt h ρ t) {b8 : Nat} {g : Hp} {v : Value} {acc : List Pr} (A : Acc h b8 g v acc) (hb : acc.length ≤ 100000) (w : Option Nat) (hw : ∀ s, w = some s → s < t.scs.length) {E : Env} (hE : EnvLe [(11, inP ρ w), (8, ptr b8)] E) :
    ∃ E' g' v', CRun Try.prog 84 true CBD E g .normal E' g' ∧ Acc h b8 g' v' (acc ++ [lkP w]) ∧ Keep (fpA b8 v) g g' := by
  obtain ⟨g2, r1, K2⟩ := link_run (a.grow A.keep) w hw
  have A2 := A.grow K2
  have l2 := K2.1
  have ga : (Asm.again (.is g) 33 (.pointer (some ⟨b8, 0, none⟩)) v).holds Try.prog := a_again1 agg33 A.box rfl A.vr
  have gb : (Asm.again (.is g2) 33 (.pointer (some ⟨b8, 0, none⟩)) v).holds Try.prog := a_again1 agg33 A2.box rfl A.vr
  have gl : (Asm.ld1 (.is g) b8 0 v).holds Try.prog := a_ld1 A.box rfl
  rcases A.cases with ⟨rfl, rfl⟩ | ⟨hne, o, rfl, _, _⟩
  · obtain ⟨A3, L3⟩ := A2.appN (lkP w)
    obtain ⟨E2, q1, q2⟩ := pvC 0 hE (r38p.ch_bn b8 g2.length (g2.length + 1) 0 0 (lkK w) (lkN w) (inP ρ w) [] (prC (lkP w)) [.slice (some ⟨g2.length + 1, 0, none⟩) 1 2] g g2)
      ⟨stat19 0 (by simp), ga, ga, gb, gl, r1, rfl, a_appGN rfl rfl (by omega) (get_new _ _) (push_len _ _), a_st (get_push (get_push A2.box)) (by simp) rfl, trivial⟩
    exact ⟨E2, _, _, q2, A3, (K2.mono fun _ _ e => e.elim).trans L3⟩
  · rcases A2.cases with ⟨e, _⟩ | ⟨_, o', eo, ho, hlo⟩
    · exact absurd e hne
    cases eo
    obtain ⟨A3, L3⟩ := A2.appS ho hlo (lkP w)
    have lo := A2.lo
    obtain ⟨E2, q1, q2⟩ := pvC 0 hE (r38p.ch_bs b8 g2.length (g2.length + 1) o acc.length (lkK w) (lkN w) (inP ρ w) (prL acc ++ prC (lkP w)) (prC (lkP w)) [.slice (some ⟨g2.length + 1, 0, none⟩) (acc.length + 1) 2] g g2)
      ⟨stat19 0 (by simp), ga, ga, gb, gl, r1, rfl, a_appGS rfl rfl (by omega) (by omega) (prL_len _) (get_push ho) (get_new _ _) (push_len _ _), a_st (get_push (get_set_ne (get_push A2.box) (by omega))) (by simp) rfl, trivial⟩
    exact ⟨E2, _, _, q2, A3, (K2.mono fun _ _ e => e.elim).trans L3⟩

/-- The way down through a task's open links. -/
theorem ch_links (a : TAt h ρ t) (ok : TOk c t) (hc : c ≤ 1000) {k ki b8 top : Nat} {x : Tk} (hx : t.tks[k]? = some x) (hki : ρ (.tk k) = some ki) (htop : top ≤ x.opn.length) {g : Hp} {v : Value} {acc : List Pr} (A : Acc h b8 g v acc) (hb : acc.length ≤ 70000) {E : Env} (hE : EnvLe [(6, ptr ki), (9, .int .i64 (Int.ofNat top)), (8, ptr b8)] E) :
    ∃ E' g' v', EnvLe [(6, ptr ki), (9, .int .i64 (Int.ofNat top)), (8, ptr b8)] E' ∧ CRun Try.prog 84 false (.seq (partC Try.f19 [1, 1, 1, 1, 1, 0, 0, 0, 0, 0]) (.block 2 (.rangeFunc (.tmp 32) #[33, 34] CAS CBD))) E g .normal E' g' ∧ Acc h b8 g' v' (acc ++ (x.opn.take top).reverse.map lkP) := by
  have ag := a.grow A.keep
  have hlen := ok.len k x hx
  have Lo : (Asm.ld1 (.is g) ki 2 (slv (ρ (.op k)) x.opn.length)).holds Try.prog := ag.ld1 rfl hki (by rw [cont_tk hx]; rfl)
  -- the frame
  have pre : ∃ E3 sl, EnvLe [(32, .func (.func 67) #[] #[ptr g.length]), (6, ptr ki), (9, .int .i64 (Int.ofNat top)), (8, ptr b8)] E3 ∧ CRun Try.prog 84 false (partC Try.f19 [1, 1, 1, 1, 1, 0, 0, 0, 0, 0]) E g .normal E3 (g ++ [.cells [sl] true]) ∧
      (((x.opn.take top).map (inP ρ) = [] ∧ sl = .slice none 0 0) ∨ ∃ o, ρ (.op k) = some o ∧ sl = .slice (some ⟨o, 0, none⟩) top 1) := by
    cases ho : ρ (.op k) with
    | none =>
      have e0 := a.sh.op k x hx ho
      rw [e0] at htop
      have t0 : top = 0 := by simpa using htop
      subst t0
      rw [ho, e0] at Lo
      obtain ⟨E3, q1, q2⟩ := pvC 1 hE (r38p.ch_r6n ki b8 g.length 0 0 0 g) ⟨Lo, rfl, trivial⟩
      exact ⟨E3, _, .trans (.add (.add (.add (.add (.nil _) rfl) rfl) rfl) rfl) q1, q2, .inl ⟨rfl, rfl⟩⟩
    | some o =>
      rw [ho] at Lo
      obtain ⟨E3, q1, q2⟩ := pvC 1 hE (r38p.ch_r6 ki b8 g.length o x.opn.length top g) ⟨Lo, a_cut htop, rfl, trivial⟩
      exact ⟨E3, _, .trans (.add (.add (.add (.add (.nil _) rfl) rfl) rfl) rfl) q1, q2, .inr ⟨o, rfl, rfl⟩⟩
  obtain ⟨E3, sl, hE3, c1, hsl⟩ := pre
  obtain ⟨g4, hg4⟩ : ∃ g4, g4 = g ++ [AObj.cells [sl] true] := ⟨_, rfl⟩
  rw [← hg4] at c1
  have l4 : g4.length = g.length + 1 := by rw [hg4]; simp
  have A4 : Acc h b8 g4 v acc := by rw [hg4]; exact A.grow (Keep.push _ _ _)
  have b3 : g4[g.length]? = some (.cells [sl] true) := by rw [hg4]; exact get_new _ _
  obtain ⟨lpR, hR⟩ : ∃ lp : AObj, lp = .loop .ready none E3 84 #[33, 34] CAS CBD := ⟨_, rfl⟩
  have hgl := A.keep.1
  have vl : ((x.opn.take top).map (inP ρ)).length = top := by simp; omega
  obtain ⟨g5, r1, r2⟩ := backward_run (bb := g.length) (L := g4.length) (vals := (x.opn.take top).map (inP ρ)) (sl := sl) (by rw [vl]; omega)
    (fun j g' => ∃ v', Acc h b8 g' v' (acc ++ ((x.opn.take top).drop j).reverse.map lkP) ∧ g'[g4.length]? = some lpR ∧ g'[g.length]? = some (.cells [sl] true) ∧ g4.length < g'.length)
    (fun _ => False)
    (fun j g' ⟨v', h1, h2, h3, h4⟩ => h3)
    (by
      rcases hsl with h0 | ⟨o, ho, rfl⟩
      · exact .inl h0
      · refine .inr ⟨o, by rw [vl], fun j g' m v ⟨v', h1, h2, h3, h4⟩ hv => ?_⟩
        obtain ⟨junk, hj⟩ := (a.grow h1.keep).obj _ _ ho
        rw [cont_op hx] at hj
        refine ⟨_, true, hj, ?_⟩
        rw [List.map_take] at hv
        have hm := get_lt' hv
        rw [List.length_take] at hm
        rw [List.getElem?_take_of_lt (by omega)] at hv
        rw [List.getElem?_append_left (get_lt' hv)]; exact hv)
    (fun j v g' hv ⟨v', h1, h2, h3, h4⟩ => by
      left
      rw [List.getElem?_map] at hv
      cases hw : (x.opn.take top)[j]? with
      | none => rw [hw] at hv; cases hv
      | some w =>
        rw [hw] at hv
        simp only [Option.map_some, Option.some.injEq] at hv
        subst hv
        have hmem : w ∈ x.opn := List.mem_of_mem_take (List.mem_of_getElem? hw)
        have hlp : g'[g4.length]? = some (.loop .ready none E3 84 #[33, 34] CAS CBD) := by rw [h2, hR]
        obtain ⟨E4, u1, u2⟩ := pvC 0 (((EnvLe.trans (.add (.add (.add (.nil _) rfl) rfl) rfl) hE3 : EnvLe [(6, ptr ki), (9, .int .i64 (Int.ofNat top)), (8, ptr b8)] E3).cons 33 (.int .i64 j)).cons 34 (inP ρ w)) (r38p.ch_as ki b8 (Int.ofNat top) j (inP ρ w) g') trivial
        have u2' : CRun Try.prog 84 true CAS ((34, inP ρ w) :: (33, .int .i64 j) :: E3) g' .normal E4 g' := u2
        have Ab := h1.setL (L := g4.length) (by have := A4.keep.1; omega) hlp (.loop .busy none E3 84 #[33, 34] CAS CBD)
        have bl : (acc ++ ((x.opn.take top).drop (j + 1)).reverse.map lkP).length ≤ 100000 := by simp; omega
        obtain ⟨E5, g6, v6, w1, w2, w3⟩ := ch_body a Ab bl w (fun s e => ok.opn k x s hx (by rw [← e]; exact hmem)) (E := E4) (.trans (.add (.add (.nil _) rfl) rfl) u1)
        have hb6 := w3.2 _ _ (get_set_eq hlp) (Ab.notL (get_set_eq hlp))
        refine ⟨_, RunR.go hlp rfl rfl u2' hlp w1 hb6 rfl, v6, ?_, ?_, ?_, ?_⟩
        · have hd : (x.opn.take top).drop j = w :: (x.opn.take top).drop (j + 1) := by
            have hjl := get_lt' hw
            rw [List.drop_eq_getElem_cons hjl]
            rw [List.getElem?_eq_getElem hjl] at hw
            rw [Option.some.inj hw]
          rw [hd, List.reverse_cons, List.map_append, List.map_cons, List.map_nil, ← List.append_assoc]
          exact w2.setL (L := g4.length) (by have := A4.keep.1; omega) hb6 _
        · rw [hR]; exact get_set_eq hb6
        · have e3 : (g'.set g4.length (.loop .busy none E3 84 #[33, 34] CAS CBD))[g.length]? = some (.cells [sl] true) := get_set_ne h3 (by omega)
          exact get_set_ne (w3.2 _ _ e3 (Ab.notB e3 (by have := get_lt A.box; omega))) (by omega)
        · have := w3.1
          simp only [List.length_set] at this ⊢
          omega)
    (g0 := g4 ++ [lpR]) ⟨v, by
      rw [vl, List.drop_of_length_le (by simp; omega)]
      simpa using A4.grow (Keep.push _ _ _), get_new _ _, get_push b3, by simp⟩
  rcases r2 with ⟨v', h1, h2, h3, h4⟩ | h
  · have hgv : evalO E3 (.tmp 32) = some (.func (.func 67) #[] #[ptr g.length]) := hE3 32 _ rfl
    have c2 : CRun Try.prog 84 false (.rangeFunc (.tmp 32) #[33, 34] CAS CBD) E3 g4 .normal E3 (g5.set g4.length .dead) := CRun.range (pend := none) hgv (by rw [hR] at r1; exact r1) (by rw [h2, hR]) rfl
    refine ⟨E3, _, v', .trans (.add (.add (.add (.nil _) rfl) rfl) rfl) hE3, CRun.seq c1 (CRun.blockN 2 c2), ?_⟩
    rw [hR] at h2
    have := h1.setL (L := g4.length) (by have := A4.keep.1; omega) h2 .dead
    simpa using this
  · exact h.elim
end

end Go.Proofs.Ytahomnlkkafbjaa.tr

namespace Go.Proofs.Ytahomnlkkafbjaa.tr
open Go Go.Ev
set_option maxRecDepth 100000
set_option linter.unusedVariables false
set_option linter.constructorNameAsVariable false

section
variable {h : Hp} {ρ : Lay} {t : TS} {c r : Nat}

/-- A running task's scope is not over, and its owner runs. -/
theorem WI.above (W : WI none t) (ok : TOk c t) {k s : Nat} {x : Tk} (hx : t.tks[k]? = some x) (he : x.en = false) (hi : x.inn = some s) :
    ∃ y z, t.scs[s]? = some y ∧ t.tks[y.ow]? = some z ∧ y.ov = false ∧ some s ∈ z.opn ∧ z.en = false ∧ y.ow < k := by
  obtain ⟨y, hy⟩ : ∃ y, t.scs[s]? = some y := ⟨_, List.getElem?_eq_getElem (ok.inn k x s hx hi)⟩
  obtain ⟨z, hz⟩ : ∃ z, t.tks[y.ow]? = some z := ⟨_, List.getElem?_eq_getElem (ok.ow s y hy)⟩
  have hk : k ∈ y.tks := (W.mem s y k hy).2 ⟨x, hx, hi⟩
  have hov : y.ov = false := by
    cases ho : y.ov with
    | false => rfl
    | true =>
      have h0 := W.ov2 s y hy ho
      rw [W.live s y hy] at h0
      have h1 : y.tks.countP t.rn = 0 := by omega
      rw [List.countP_eq_zero] at h1
      exact absurd (by rw [rn_of hx, he]; rfl) (h1 k hk)
  have hin := (W.ov s y z hy hz).1 hov
  refine ⟨y, z, hy, hz, hov, hin, ?_, W.up k x s y hx hi hy⟩
  cases hen : z.en with
  | false => rfl
  | true => rw [W.en _ z hz hen] at hin; cases hin

theorem chain_loop (a : TAt h ρ t) (ok : TOk c t) (hc : c ≤ 1000) (W : WI none t) {b8 : Nat} :
    ∀ (f k : Nat) (x : Tk) (ki top : Nat) (E : Env) (g : Hp) (v : Value) (acc : List Pr), k < f → t.tks[k]? = some x → x.en = false → ρ (.tk k) = some ki → top ≤ x.opn.length → acc.length + f * 1002 ≤ 70000 → Acc h b8 g v acc →
      EnvLe [(6, ptr ki), (9, .int .i64 (Int.ofNat top)), (8, ptr b8)] E →
      ∃ E1 g' v', EnvLe [(4, v'), (5, .int .i64 0)] E1 ∧ LRun Try.prog 84 false (loopN Try.f19 0) E g .ret E1 g' ∧ Acc h b8 g' v' (acc ++ t.chainG f k top) := by
  intro f
  induction f with
  | zero => intro k x ki top E g v acc hk; omega
  | succ f ih =>
    intro k x ki top E g v acc hk hx he hki htop hacc A hE
    have n64 := ok.n64
    have hlen := ok.len k x hx
    obtain ⟨E1, g1, v1, e1, c1, A1⟩ := ch_links a ok hc hx hki htop A (by omega) hE
    have tl : ((x.opn.take top).reverse.map lkP).length ≤ 1000 := by simp; omega
    obtain ⟨acc1, hacc1⟩ : ∃ acc1, acc1 = acc ++ (x.opn.take top).reverse.map lkP := ⟨_, rfl⟩
    rw [← hacc1] at A1
    have l1 : acc1.length ≤ acc.length + 1000 := by rw [hacc1, List.length_append]; omega
    have ag := a.grow A1.keep
    have S1 : (Asm.ld1 (.is g1) b8 0 v1).holds Try.prog := a_ld1 A1.box rfl
    have S2 : (Asm.ld1 (.is g1) ki 0 (.int .i64 ((k + 1 : Nat) : Int))).holds Try.prog := ag.ld1 rfl hki (by rw [cont_tk hx]; rfl)
    -- the task itself
    have main : ∀ (g2 : Hp) (z m : Nat), Acc h b8 g2 (.slice (some ⟨z, 0, none⟩) (m + 1) 2) (acc1 ++ [(1, ((k + 1 : Nat) : Int))]) →
        (x.inn = none → ∃ E2, EnvLe [(4, .slice (some ⟨z, 0, none⟩) (m + 1) 2), (5, .int .i64 0)] E2 ∧ CRun Try.prog 84 false (partC Try.f19 [1, 1, 1, 1, 1, 0, 0, 0, 1]) E1 g1 .ret E2 g2) →
        (∀ s y zz, x.inn = some s → t.scs[s]? = some y → t.tks[y.ow]? = some zz → y.ov = false → some s ∈ zz.opn → zz.en = false → y.ow < k → ∃ E2 g4 v4 oi, ρ (.tk y.ow) = some oi ∧ EnvLe [(6, ptr oi), (9, .int .i64 (Int.ofNat (ixO (some s) zz.opn))), (8, ptr b8)] E2 ∧ CRun Try.prog 84 false (partC Try.f19 [1, 1, 1, 1, 1, 0, 0, 0, 1]) E1 g1 .normal E2 g4 ∧ Acc h b8 g4 v4 (acc1 ++ [(1, ((k + 1 : Nat) : Int))] ++ [lkP (some s)])) →
        ∃ E1' g' v', EnvLe [(4, v'), (5, .int .i64 0)] E1' ∧ LRun Try.prog 84 false (loopN Try.f19 0) E g .ret E1' g' ∧ Acc h b8 g' v' (acc ++ t.chainG (f + 1) k top) := by
      intro g2 z m A2 hroot hinn
      cases hi : x.inn with
      | none =>
        obtain ⟨E2, w1, w2⟩ := hroot hi
        refine ⟨E2, g2, _, w1, .last (by rw [bodyL19]; exact CRun.blockR 1 (CRun.seq c1 w2)) (by simp), ?_⟩
        have : acc ++ t.chainG (f + 1) k top = acc1 ++ [(1, ((k + 1 : Nat) : Int))] := by simp only [TS.chainG, hx, hi, List.append_nil, hacc1, List.append_assoc]
        rw [this]; exact A2
      | some s =>
        obtain ⟨y, zz, hy, hz, hov, hin, hen, hlt⟩ := W.above ok hx he hi
        obtain ⟨E2, g4, v4, oi, w0, w1, w2, w3⟩ := hinn s y zz hi hy hz hov hin hen hlt
        have ixl := ixO_lt hin
        obtain ⟨E5, g5, v5, u1, u2, u3⟩ := ih y.ow zz oi (ixO (some s) zz.opn) E2 g4 v4 _ (by omega) hz hen w0 (by omega) (by simp only [List.length_append, List.length_singleton]; omega) w3 w1
        refine ⟨E5, g5, v5, u1, .step (by rw [bodyL19]; exact CRun.blockN 1 (CRun.seq c1 w2)) u2, ?_⟩
        have : acc ++ t.chainG (f + 1) k top = acc1 ++ [(1, ((k + 1 : Nat) : Int))] ++ [lkP (some s)] ++ t.chainG f y.ow (ixO (some s) zz.opn) := by
          rw [TS.chainG]
          simp only [hx, hi, hy, hz, hacc1, List.append_assoc, List.singleton_append, List.cons_append, List.nil_append]
        rw [this]; exact u3
    -- behind the task: its scope
    have inn : ∀ {s si oi : Nat} {y : Sc} {zz : Tk} {g2 : Hp} {z m : Nat}, t.scs[s]? = some y → t.tks[y.ow]? = some zz → some s ∈ zz.opn → x.inn = some s → ρ (.sc s) = some si → ρ (.tk y.ow) = some oi → m ≤ 72000 → (acc1 ++ [((1 : Int), ((k + 1 : Nat) : Int))]).length = m + 1 →
        Acc h b8 g2 (.slice (some ⟨z, 0, none⟩) (m + 1) 2) (acc1 ++ [(1, ((k + 1 : Nat) : Int))]) →
        ∃ g3 g4 oa za, Run Try.prog 40 [ptr si] g2 (.agg #[.int .i64 (lkK (some s)), .int .i64 (lkN (some s))]) g3 ∧ g3[z]? = some (.cells (prL (acc1 ++ [(1, ((k + 1 : Nat) : Int))])) true) ∧ b8 + 1 ≤ z ∧ g3[b8]? = some (.cells [.slice (some ⟨z, 0, none⟩) (m + 1) 2] true) ∧
          g4 = ((((g3 ++ [AObj.cells (prC (lkP (some s))) true]).set z .dead) ++ [AObj.cells (prL (acc1 ++ [(1, ((k + 1 : Nat) : Int))]) ++ prC (lkP (some s))) true]).set b8 (.cells [.slice (some ⟨g3.length + 1, 0, none⟩) (m + 1 + 1) 2] true)) ∧
          Acc h b8 g4 (.slice (some ⟨g3.length + 1, 0, none⟩) (m + 1 + 1) 2) (acc1 ++ [(1, ((k + 1 : Nat) : Int))] ++ [lkP (some s)]) ∧ slv (ρ (.op y.ow)) zz.opn.length = .slice oa zz.opn.length za ∧
          Run Try.prog 44 [.slice oa zz.opn.length za, ptr si] g4 (.int .i64 (ixO (some s) zz.opn : Nat)) g4 := by
      intro s si oi y zz g2 z m hy hz hin hi hsi hoi hm hl A2
      have hsl := ok.inn k x s hx hi
      obtain ⟨g3, r1, K3⟩ := link_run (a.grow A2.keep) (some s) (fun s' e => by cases e; exact hsl)
      simp only [inP, hsi, pvv] at r1
      have A3 := A2.grow K3
      rcases A3.cases with ⟨e, _⟩ | ⟨_, o', eo, ho, hlo⟩
      · rw [e] at hl; simp at hl
      rw [hl] at eo
      cases eo
      rw [← hl] at A3
      obtain ⟨A4, _⟩ := A3.appS ho hlo (lkP (some s))
      rw [hl] at A3 A4
      have lzz := ok.len _ zz hz
      obtain ⟨oa, za, ev, _⟩ := slv_ex (ρ (.op y.ow)) zz.opn.length (fun e => by rw [a.sh.op _ zz hz e]; rfl)
      exact ⟨g3, _, oa, za, r1, ho, hlo, A3.box, rfl, A4, ev, indexS_run (a.grow A4.keep) hz hsi (fun s' hs' => ok.opn _ zz s' hz hs') (by omega) hin ev⟩
    rcases A1.cases with ⟨e0, rfl⟩ | ⟨hne, w, rfl, hw, hlo⟩
    · rw [e0] at A1 main inn
      have hS := A1.appN (1, ((k + 1 : Nat) : Int))
      obtain ⟨A2, _⟩ := hS
      have D1 : (Asm.appNil (.push (.is g1) (.cells [.int .i64 1, .int .i64 ((k + 1 : Nat) : Int)] true)) g1.length 0 1 0 2 16 (prC (1, ((k + 1 : Nat) : Int))) (g1.length + 1)).holds Try.prog := a_appGN rfl rfl (by omega) (get_new _ _) (push_len _ _)
      have D2 : (Asm.st (.push (.push (.is g1) (.cells [.int .i64 1, .int .i64 ((k + 1 : Nat) : Int)] true)) (.cells (prC (1, ((k + 1 : Nat) : Int))) true)) b8 0 [.slice (some ⟨g1.length + 1, 0, none⟩) 1 2] [.slice (some ⟨g1.length + 1, 0, none⟩) 1 2]).holds Try.prog := a_st (get_push (get_push A1.box)) (by simp) rfl
      obtain ⟨g2, hg2⟩ : ∃ g2, g2 = ((g1 ++ [AObj.cells (prC (1, ((k + 1 : Nat) : Int))) true]) ++ [AObj.cells (prC (1, ((k + 1 : Nat) : Int))) true]).set b8 (.cells [.slice (some ⟨g1.length + 1, 0, none⟩) 1 2] true) := ⟨_, rfl⟩
      rw [← hg2] at A2
      have ag2 := a.grow A2.keep
      refine main g2 (g1.length + 1) 0 A2 (fun hi => ?_) (fun s y zz hi hy hz hov hin hen hlt => ?_)
      · obtain ⟨E2, q1, q2⟩ := pvC 0 e1 (r38p.ch_pon_root ki b8 g1.length (g1.length + 1) 0 0 0 0 0 0 0 0 none ((k + 1 : Nat) : Int) 0 0 (Int.ofNat top) 0 [] (prC (1, ((k + 1 : Nat) : Int))) [.slice (some ⟨g1.length + 1, 0, none⟩) 1 2] [] [] [] g1 g1 g1)
          ⟨stat19 1 (by simp), S1, S2, rfl, D1, D2, ag2.ld1 (by rw [hg2]; rfl) hki (by rw [cont_tk hx, tkC, hi]; rfl), a_ld1 (by rw [← show g2[b8]? = _ from A2.box, hg2]; rfl) rfl, trivial⟩
        exact ⟨E2, .trans (.add (.add (.nil _) rfl) rfl) q1, by rw [hg2]; exact q2⟩
      · have hsl := ok.inn k x s hx hi
        obtain ⟨si, hsi⟩ := a.sh.sc s hsl
        obtain ⟨oi, hoi⟩ := a.sh.tk _ (ok.ow s y hy)
        obtain ⟨g3, g4, oa, za, r1, i1, i2, i3, i4, A4, i5, r2⟩ := inn (m := 0) hy hz hin hi hsi hoi (by omega) rfl A2
        have ag4 := a.grow A4.keep
        have vr : veqR (.slice (some ⟨g1.length + 1, 0, none⟩) (0 + 1) 2) = true := rfl
        have T1 : ∀ (s' : SH), s'.den = g2 → (Asm.ld1 s' ki 1 (ptr si)).holds Try.prog := fun s' e => by
          have := ag2.ld1 (P := Try.prog) (s := s') e hki (d := 1) (v := inP ρ x.inn) (by rw [cont_tk hx]; rfl)
          rw [hi] at this; simp only [inP, hsi, pvv] at this; exact this
        have T4 : ∀ (s' : SH), s'.den = g4 → (Asm.ld1 s' ki 1 (ptr si)).holds Try.prog := fun s' e => by
          have := ag4.ld1 (P := Try.prog) (s := s') e hki (d := 1) (v := inP ρ x.inn) (by rw [cont_tk hx]; rfl)
          rw [hi] at this; simp only [inP, hsi, pvv] at this; exact this
        have T5 : ∀ (s' : SH), s'.den = g4 → (Asm.ld1 s' si 1 (ptr oi)).holds Try.prog := fun s' e => by
          have := ag4.ld1 (P := Try.prog) (s := s') e hsi (d := 1) (v := pvv (ρ (.tk y.ow))) (by rw [cont_sc hy]; rfl)
          rwa [hoi] at this
        have T6 : ∀ (s' : SH), s'.den = g4 → (Asm.ld1 s' oi 2 (.slice oa zz.opn.length za)).holds Try.prog := fun s' e => by
          rw [← i5]; exact ag4.ld1 e hoi (by rw [cont_tk hz]; rfl)
        have T0 : ∀ (s' : SH), s'.den = g2 → (Asm.again s' 33 (.pointer (some ⟨b8, 0, none⟩)) (.slice (some ⟨g1.length + 1, 0, none⟩) (0 + 1) 2)).holds Try.prog := fun s' e => a_again1 agg33 (by rw [e]; exact A2.box) rfl vr
        have lo := A2.lo
        obtain ⟨E2, q1, q2⟩ := pvC 0 e1 (r38p.ch_pon_in ki b8 g1.length (g1.length + 1) 0 0 g3.length (g3.length + 1) si oi zz.opn.length za oa ((k + 1 : Nat) : Int) (lkK (some s)) (lkN (some s)) (Int.ofNat top) (ixO (some s) zz.opn : Nat) [] (prC (1, ((k + 1 : Nat) : Int))) [.slice (some ⟨g1.length + 1, 0, none⟩) 1 2] (prL ([] ++ [(1, ((k + 1 : Nat) : Int))]) ++ prC (lkP (some s))) (prC (lkP (some s))) [.slice (some ⟨g3.length + 1, 0, none⟩) (0 + 1 + 1) 2] g1 g3 g4)
          ⟨stat19 1 (by simp), S1, S2, rfl, D1, D2, T1 _ (by rw [hg2]; rfl), stat19 2 (by simp), T0 _ (by rw [hg2]; rfl), T0 _ (by rw [hg2]; rfl), a_again1 agg33 i3 rfl vr, a_ld1 (by rw [← show g2[b8]? = _ from A2.box, hg2]; rfl) rfl, T1 _ (by rw [hg2]; rfl), by rw [hg2] at r1; exact r1, rfl,
            a_appGS rfl rfl (by omega) (by omega) (prL_len _) (get_push i1) (get_new _ _) (push_len _ _), a_st (get_push (get_set_ne (get_push i3) (by omega))) (by simp) rfl, stat19 3 (by simp), T4 _ (by rw [i4]; rfl), T5 _ (by rw [i4]; rfl), T6 _ (by rw [i4]; rfl), T4 _ (by rw [i4]; rfl), by rw [i4] at r2 ⊢; exact r2, T4 _ rfl, T5 _ rfl, trivial⟩
        exact ⟨E2, g4, _, oi, hoi, .trans (.add (.add (.add (.nil _) rfl) rfl) rfl) q1, q2, A4⟩
    · have hS := A1.appS hw hlo (1, ((k + 1 : Nat) : Int))
      obtain ⟨A2, _⟩ := hS
      have lo := A1.lo
      have D1 : (Asm.app (.push (.is g1) (.cells [.int .i64 1, .int .i64 ((k + 1 : Nat) : Int)] true)) w 0 acc1.length g1.length 0 1 0 2 16 (prL acc1 ++ prC (1, ((k + 1 : Nat) : Int))) (prC (1, ((k + 1 : Nat) : Int))) (g1.length + 1)).holds Try.prog := a_appGS rfl rfl (by omega) (by omega) (prL_len _) (get_push hw) (get_new _ _) (push_len _ _)
      have D2 : (Asm.st (.push (.set (.push (.is g1) (.cells [.int .i64 1, .int .i64 ((k + 1 : Nat) : Int)] true)) w .dead) (.cells (prL acc1 ++ prC (1, ((k + 1 : Nat) : Int))) true)) b8 0 [.slice (some ⟨g1.length + 1, 0, none⟩) (acc1.length + 1) 2] [.slice (some ⟨g1.length + 1, 0, none⟩) (acc1.length + 1) 2]).holds Try.prog := a_st (get_push (get_set_ne (get_push A1.box) (by omega))) (by simp) rfl
      obtain ⟨g2, hg2⟩ : ∃ g2, g2 = ((((g1 ++ [AObj.cells (prC (1, ((k + 1 : Nat) : Int))) true]).set w .dead) ++ [AObj.cells (prL acc1 ++ prC (1, ((k + 1 : Nat) : Int))) true]).set b8 (.cells [.slice (some ⟨g1.length + 1, 0, none⟩) (acc1.length + 1) 2] true)) := ⟨_, rfl⟩
      rw [← hg2] at A2
      have ag2 := a.grow A2.keep
      refine main g2 (g1.length + 1) acc1.length A2 (fun hi => ?_) (fun s y zz hi hy hz hov hin hen hlt => ?_)
      · obtain ⟨E2, q1, q2⟩ := pvC 0 e1 (r38p.ch_pos_root ki b8 g1.length (g1.length + 1) w acc1.length 0 0 0 0 0 0 none ((k + 1 : Nat) : Int) 0 0 (Int.ofNat top) 0 (prL acc1 ++ prC (1, ((k + 1 : Nat) : Int))) (prC (1, ((k + 1 : Nat) : Int))) [.slice (some ⟨g1.length + 1, 0, none⟩) (acc1.length + 1) 2] [] [] [] g1 g1 g1)
          ⟨stat19 1 (by simp), S1, S2, rfl, D1, D2, ag2.ld1 (by rw [hg2]; rfl) hki (by rw [cont_tk hx, tkC, hi]; rfl), a_ld1 (by rw [← show g2[b8]? = _ from A2.box, hg2]; rfl) rfl, trivial⟩
        exact ⟨E2, .trans (.add (.add (.nil _) rfl) rfl) q1, by rw [hg2]; exact q2⟩
      · have hsl := ok.inn k x s hx hi
        obtain ⟨si, hsi⟩ := a.sh.sc s hsl
        obtain ⟨oi, hoi⟩ := a.sh.tk _ (ok.ow s y hy)
        obtain ⟨g3, g4, oa, za, r1, i1, i2, i3, i4, A4, i5, r2⟩ := inn (m := acc1.length) hy hz hin hi hsi hoi (by omega) (by simp) A2
        have ag4 := a.grow A4.keep
        have vr : veqR (.slice (some ⟨g1.length + 1, 0, none⟩) (acc1.length + 1) 2) = true := rfl
        have T1 : ∀ (s' : SH), s'.den = g2 → (Asm.ld1 s' ki 1 (ptr si)).holds Try.prog := fun s' e => by
          have := ag2.ld1 (P := Try.prog) (s := s') e hki (d := 1) (v := inP ρ x.inn) (by rw [cont_tk hx]; rfl)
          rw [hi] at this; simp only [inP, hsi, pvv] at this; exact this
        have T4 : ∀ (s' : SH), s'.den = g4 → (Asm.ld1 s' ki 1 (ptr si)).holds Try.prog := fun s' e => by
          have := ag4.ld1 (P := Try.prog) (s := s') e hki (d := 1) (v := inP ρ x.inn) (by rw [cont_tk hx]; rfl)
          rw [hi] at this; simp only [inP, hsi, pvv] at this; exact this
        have T5 : ∀ (s' : SH), s'.den = g4 → (Asm.ld1 s' si 1 (ptr oi)).holds Try.prog := fun s' e => by
          have := ag4.ld1 (P := Try.prog) (s := s') e hsi (d := 1) (v := pvv (ρ (.tk y.ow))) (by rw [cont_sc hy]; rfl)
          rwa [hoi] at this
        have T6 : ∀ (s' : SH), s'.den = g4 → (Asm.ld1 s' oi 2 (.slice oa zz.opn.length za)).holds Try.prog := fun s' e => by
          rw [← i5]; exact ag4.ld1 e hoi (by rw [cont_tk hz]; rfl)
        have T0 : ∀ (s' : SH), s'.den = g2 → (Asm.again s' 33 (.pointer (some ⟨b8, 0, none⟩)) (.slice (some ⟨g1.length + 1, 0, none⟩) (acc1.length + 1) 2)).holds Try.prog := fun s' e => a_again1 agg33 (by rw [e]; exact A2.box) rfl vr
        obtain ⟨E2, q1, q2⟩ := pvC 0 e1 (r38p.ch_pos_in ki b8 g1.length (g1.length + 1) w acc1.length g3.length (g3.length + 1) si oi zz.opn.length za oa ((k + 1 : Nat) : Int) (lkK (some s)) (lkN (some s)) (Int.ofNat top) (ixO (some s) zz.opn : Nat) (prL acc1 ++ prC (1, ((k + 1 : Nat) : Int))) (prC (1, ((k + 1 : Nat) : Int))) [.slice (some ⟨g1.length + 1, 0, none⟩) (acc1.length + 1) 2] (prL (acc1 ++ [(1, ((k + 1 : Nat) : Int))]) ++ prC (lkP (some s))) (prC (lkP (some s))) [.slice (some ⟨g3.length + 1, 0, none⟩) (acc1.length + 1 + 1) 2] g1 g3 g4)
          ⟨stat19 1 (by simp), S1, S2, rfl, D1, D2, T1 _ (by rw [hg2]; rfl), stat19 2 (by simp), T0 _ (by rw [hg2]; rfl), T0 _ (by rw [hg2]; rfl), a_again1 agg33 i3 rfl vr, a_ld1 (by rw [← show g2[b8]? = _ from A2.box, hg2]; rfl) rfl, T1 _ (by rw [hg2]; rfl), by rw [hg2] at r1; exact r1, rfl,
            a_appGS rfl rfl (by omega) (by omega) (by rw [prL_len]; simp) (get_push i1) (get_new _ _) (push_len _ _), a_st (get_push (get_set_ne (get_push i3) (by omega))) (by simp) rfl, stat19 3 (by simp), T4 _ (by rw [i4]; rfl), T5 _ (by rw [i4]; rfl), T6 _ (by rw [i4]; rfl), T4 _ (by rw [i4]; rfl), by rw [i4] at r2 ⊢; exact r2, T4 _ rfl, T5 _ rfl, trivial⟩
        exact ⟨E2, g4, _, oi, hoi, .trans (.add (.add (.add (.nil _) rfl) rfl) rfl) q1, q2, A4⟩

theorem chain_run (a : TAt h ρ t) (ok : TOk c t) (hc : c ≤ 1000) (W : WI none t) (hr : ρ .root = some r) (n : Int) :
    ∃ v h', Run Try.prog 19 [ptr r, .int .i64 n] h (.tuple #[v, .int .i64 (t.chain n).2]) h' ∧ Keep (fun _ => False) h h' ∧ SlV h' h.length v (t.chain n).1.length 2 (prL (t.chain n).1) := by
  have R := runs_run a ok hr n
  rcases hq : t.runs n with ⟨k | k, e⟩
  · have e6 := runs_none hq
    subst e6
    rw [hq] at R
    have e' : t.chain n = ([], 6) := by simp only [TS.chain, hq]
    rw [e']
    obtain ⟨E2, q1, q2⟩ := pvC 0 (EnvLe.refl _) (r38p.ch_err r 0 0 0 0 none n 6 h h) ⟨R, neT (by omega), trivial⟩
    exact ⟨_, h, Run.code Try.func19 body19 (.inr rfl) (CRunStop q2 (by simp)) (evResults_two rfl (q1 4 _ rfl) (q1 5 _ rfl)), Keep.refl _ _, .inl ⟨rfl, rfl, rfl⟩⟩
  · obtain ⟨rfl, hn, x, hx, he⟩ := runs_some hq
    have n64 := ok.n64
    have hk := get_lt' hx
    obtain ⟨ki, hki⟩ := a.sh.tk k hk
    rw [hq] at R
    simp only [tkP, hki, pvv] at R
    obtain ⟨oa, za, ev, _⟩ := slv_ex (ρ (.op k)) x.opn.length (fun e => by rw [a.sh.op k x hx e]; rfl)
    have Lo : (Asm.ld1 (.push (.is h) (.cells [.slice none 0 0] true)) ki 2 (.slice oa x.opn.length za)).holds Try.prog := by
      rw [← ev]; exact (a.push _).ld1 rfl hki (by rw [cont_tk hx]; rfl)
    obtain ⟨E2, q1, q2⟩ := pvC 0 (EnvLe.refl _) (r38p.ch_ok r ki h.length x.opn.length za oa n 0 h h) ⟨R, neF rfl, rfl, Lo, trivial⟩
    have A0 : Acc h h.length (h ++ [AObj.cells [.slice none 0 0] true]) (.slice none 0 0) [] := ⟨(Keep.refl _ _).pushN _, Nat.le_refl _, get_new _ _, .inl ⟨rfl, rfl, rfl⟩⟩
    obtain ⟨E3, g3, v3, w1, w2, w3⟩ := chain_loop a ok hc W (k + 1) k x ki x.opn.length E2 _ _ [] (by omega) hx he hki (Nat.le_refl _) (by simp; omega) A0 (.trans (.add (.add (.add (.nil _) rfl) rfl) rfl) q1)
    have e' : t.chain n = (t.chainG (k + 1) k x.opn.length, 0) := by simp only [TS.chain, hq, hx]
    rw [e']
    rw [List.nil_append] at w3
    exact ⟨v3, g3, Run.code Try.func19 body19 (.inr rfl) (CRunChain q2 (CRun.blockR 0 (.of_loop w2))) (evResults_two rfl (w1 4 _ rfl) (w1 5 _ rfl)), w3.keep, w3.sl.mono (by omega)⟩
end

end Go.Proofs.Ytahomnlkkafbjaa.tr
