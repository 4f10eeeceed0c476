import Derived.Test.YtahomnlkkafbjaaBelowD
import Derived.Test.YtahomnlkkafbjaaProg
import Derived.KernelRfl
set_option linter.unusedVariables false
namespace Go.Proofs.Ytahomnlkkafbjaa.tr
open Go Go.Ev
set_option linter.unusedVariables false
set_option linter.constructorNameAsVariable false

section
variable {e : Option Nat} {t : TS} {c k : Nat}

theorem WI.irrT (W : WI e t) {f : Tk → Tk} (h1 : ∀ x, (f x).inn = x.inn) (h2 : ∀ x, (f x).opn = x.opn) (h3 : ∀ x, (f x).lv = x.lv) (h4 : ∀ x, (f x).en = x.en) : WI e (t.upT k f) := by
  cases hx : t.tks[k]? with
  | none =>
    have : t.upT k f = t := by
      simp only [TS.upT]
      rw [List.modify_eq_self]
      exact List.getElem?_eq_none_iff.1 hx
    rw [this]; exact W
  | some x =>
    refine W.upT hx (h1 x) (h4 x) (fun s y hs hy => W.ow1 k x s y hx (by rw [← h2]; exact hs) hy) (by rw [h2]; exact W.nd k x hx) (fun hl => ?_) (fun he => by rw [h2]; exact W.en k x hx (by rw [← h4]; exact he)) (fun s y hy ho => by rw [h2]; exact W.ov s y x hy (by rw [ho]; exact hx)) fun _ h => h
    rw [h3] at hl
    rw [h4, h2]; exact W.lv k x hx hl

theorem WI.root (W : WI e t) (ok : TOk c t) : WI e t.root.1 := by
  unfold TS.root
  split
  · exact W
  · exact W.newT ok
theorem open_ov (W : WI e t) {x : Tk} {s : Nat} {y : Sc} (hx : t.tks[k]? = some x) (hs : some s ∈ x.opn) (hy : t.scs[s]? = some y) : y.ov = false ∧ y.ow = k := by
  have h := W.ow1 k x s y hx hs hy
  exact ⟨(W.ov s y x hy (by rw [h]; exact hx)).2 hs, h⟩
theorem WI.spawn (W : WI e t) (ok : TOk c t) (n : Int) : WI e (t.spawn n).1 := by
  unfold TS.spawn
  split
  · exact W
  · split
    · exact W
    · rename_i x hx
      split
      · exact W
      · rename_i s hs
        split
        · exact W
        · have hm := inmost_mem hs
          obtain ⟨y, hy⟩ : ∃ y, t.scs[s]? = some y := ⟨_, List.getElem?_eq_getElem (ok.opn _ x s hx hm)⟩
          obtain ⟨h1, h2⟩ := open_ov W hx hm hy
          exact W.add ok hy h1 (by rw [h2]; exact get_lt' hx)
theorem WI.open (W : WI e t) (ok : TOk c t) (n : Int) (su : Bool) : WI e (t.open n su).1 := by
  unfold TS.open
  split
  · exact W
  · rename_i k e' hq
    split
    · exact W
    · obtain ⟨_, _, x, hx, he, hl⟩ := acts_some hq
      exact W.openF ok hx hl he su
theorem WI.shield (W : WI e t) (n : Int) : WI e (t.shield n).1 := by
  unfold TS.shield
  split
  · exact W
  · rename_i k e' hq
    obtain ⟨_, _, x, hx, he, hl⟩ := acts_some hq
    rw [hx]
    simp only
    split
    · exact W
    · have mm : ∀ s : Nat, some s ∈ x.opn ++ [none] ↔ some s ∈ x.opn := fun s => by simp
      refine W.upT hx rfl rfl (fun s y hs hy => W.ow1 k x s y hx ((mm s).1 hs) hy) ?_ (fun h => by simp only at h; rw [hl] at h; cases h) (fun h => by simp only at h; rw [he] at h; cases h) (fun s y hy ho => by rw [mm s]; exact W.ov s y x hy (by rw [ho]; exact hx)) fun _ h => h
      simp only [List.filterMap_append, List.filterMap_cons, List.filterMap_nil, id, List.append_nil]
      exact W.nd k x hx
theorem WI.unveil (W : WI e t) (n : Int) : WI e (t.unveil n).1 := by
  unfold TS.unveil
  split
  · exact W
  · rename_i k e' hq
    obtain ⟨_, _, x, hx, he, hl⟩ := acts_some hq
    rw [hx]
    simp only
    split
    · rename_i hg
      have spl : x.opn = x.opn.dropLast ++ [none] := by
        have hne : x.opn ≠ [] := fun e => by rw [e] at hg; cases hg
        have := List.dropLast_concat_getLast hne
        rw [List.getLast?_eq_some_getLast hne] at hg
        simp only [Option.some.injEq] at hg
        rw [hg] at this
        exact this.symm
      have mm : ∀ s : Nat, some s ∈ x.opn.dropLast ↔ some s ∈ x.opn := fun s => by
        constructor
        · exact fun h => List.dropLast_subset _ h
        · intro h; rw [spl] at h; simpa using h
      refine W.upT hx rfl rfl (fun s y hs hy => W.ow1 k x s y hx ((mm s).1 hs) hy) ?_ (fun h => by simp only at h; rw [hl] at h; cases h) (fun h => by simp only at h; rw [he] at h; cases h) (fun s y hy ho => by rw [mm s]; exact W.ov s y x hy (by rw [ho]; exact hx)) fun _ h => h
      have := W.nd k x hx
      rw [spl] at this
      simpa using this
    · exact W
theorem WI.blame (W : WI e t) (s : Nat) (fk : Int) (ft : ByteArray) : WI e (t.blame s fk ft).1 := by
  unfold TS.blame
  split
  · split
    · exact W.irrS (fun _ => rfl) (fun _ => rfl) (fun _ => rfl) fun _ => rfl
    · exact W
  · exact W
theorem WI.fail (W : WI e t) (n fk : Int) (ft : ByteArray) : WI e (t.fail n fk ft).1 := by
  unfold TS.fail
  split
  · exact W
  · split
    · exact W
    · split
      · exact W
      · split
        · exact W.blame _ _ _
        · exact W
theorem WI.leave1 (W : WI none t) {x : Tk} {s : Nat} {y : Sc} (hx : t.tks[k]? = some x) (he : x.en = false) (hg : x.opn.getLast? = some (some s)) (hy : t.scs[s]? = some y) (fk : Int) (ft : ByteArray) : WI (some s) (t.leave1 k s fk ft) := by
  have W1 := W.blame s fk ft
  have hx1 : (t.blame s fk ft).1.tks[k]? = some x := by rw [blame_tks]; exact hx
  obtain ⟨y', hy', h1, h2, h3, h4, h5⟩ := blame_get (s := s) (fk := fk) (ft := ft) hy
  unfold TS.leave1
  refine (WI.upT (e' := some s) W1 hx1 (f := fun x => { x with lv := true }) rfl rfl (fun s y hs hy => W1.ow1 k x s y hx1 hs hy) (W1.nd k x hx1) (fun _ => ⟨he, s, y', hg, hy', .inr rfl⟩) (fun h => W1.en k x hx1 h) (fun s y hy ho => W1.ov s y x hy (by rw [ho]; exact hx1)) fun _ h => by cases h).irrT (fun _ => rfl) (fun _ => rfl) (fun _ => rfl) fun _ => rfl
theorem WI.leave (W : WI none t) (ok : TOk c t) (n fk : Int) (ft : ByteArray) : WI none (t.leave n fk ft).1 := by
  unfold TS.leave
  split
  · exact W
  · rename_i k e' hq
    obtain ⟨_, _, x, hx, he⟩ := runs_some hq
    split
    · exact W
    · rw [hx]
      simp only
      split
      · rename_i s hl hg
        split
        · rename_i y hy
          exact (W.leave1 hx he hg hy fk ft).fin ok.leave1
        · exact W
      · exact W
theorem WI.end (W : WI none t) (ok : TOk c t) (n fk : Int) (ft : ByteArray) : WI none (t.end n fk ft).1 := by
  unfold TS.end
  split
  · exact W
  · rename_i k e' hq
    obtain ⟨_, _, x, hx, he⟩ := runs_some hq
    split
    · exact W
    · rw [hx]
      simp only
      split
      · exact W
      · rename_i ho
        have ho' : x.opn = [] := Classical.byContradiction ho
        split
        · rename_i hi
          exact W.end1 ok hx he ho' hi fk ft
        · rename_i s hi
          split
          · exact W
          · rename_i y hy
            have W2 := W.end2 ok hx he ho' hi fk ft
            have ok3 := ok.end3 (k := k) (s := s) (y := y) (fk := fk) (ft := ft)
            refine WI.fin (c := c + 1) ?_ ok3
            unfold TS.end3
            split
            · exact W2
            · exact W2.blame _ _ _
theorem WI.run (W : WI none t) (ok : TOk c t) (o : OpV) : WI none (t.run o).1 := by
  unfold TS.run
  repeat' split
  · exact W.open ok _ _
  · exact W.spawn ok _
  · exact W.end ok _ _ _
  · exact W.leave ok _ _ _
  · exact W.shield _
  · exact W.unveil _
  · exact W.fail _ _ _
  · exact W.root ok
  · exact W
theorem WI.runL : ∀ {l : List OpV} {t : TS} {c : Nat}, WI none t → TOk c t → WI none (t.runL l)
  | [], t, c, W, ok => W
  | o :: l, t, c, W, ok => WI.runL (l := l) (W.run ok o) (ok.run (o := o))
theorem WI.roots (n : Nat) : WI none (TS.roots n) := by
  have g : ∀ (k : Nat) x, (TS.roots n).tks[k]? = some x → x = Tk0 none := fun k x hx => List.eq_of_mem_replicate (List.mem_of_getElem? hx)
  have s : ∀ (k : Nat) y, ¬ (TS.roots n).scs[k]? = some y := fun k y h => by simp [TS.roots] at h
  refine ⟨fun k x s' y _ _ hy => absurd hy (s _ _), fun k x hx => by rw [g k x hx]; exact List.nodup_nil, fun s' y j hy => absurd hy (s _ _), fun s' y hy => absurd hy (s _ _), fun k x hx hl => ?_, fun k x hx he => ?_, fun s' y hy => absurd hy (s _ _), fun s' y x hy => absurd hy (s _ _), fun s' y hy => absurd hy (s _ _), fun j x s' y _ _ hy => absurd hy (s _ _)⟩
  · rw [g k x hx] at hl; cases hl
  · rw [g k x hx] at he; cases he
end

/-! ### TreeOver: the plain law -/

def TS.ovB (t : TS) (s : Nat) : Bool := match t.scs[s]? with
  | some y => y.ov
  | none => false
theorem ovB_of {t : TS} {s : Nat} {y : Sc} (h : t.scs[s]? = some y) : t.ovB s = y.ov := by simp only [TS.ovB, h]

def cntOf (b : Bool) : Int := if b then 1 else 0
structure OvI (cnt : List Int) (t : TS) : Prop where
  len : cnt.length = 201
  at_ : ∀ s, s < 200 → cnt[s + 1]? = some (cntOf (t.ovB s))
  z : cnt[0]? = some 0
/-- One effect counted. -/
def bump (cnt : List Int) (e : Ef) : List Int := if e.kind = 3 then cnt.set e.m.toNat (cnt[e.m.toNat]?.getD 0 + 1) else cnt
def okE (cnt : List Int) (e : Ef) : Prop := e.kind = 3 → ∃ m : Nat, e.m = m ∧ 1 ≤ m ∧ m ≤ 200

section
variable {cnt : List Int} {t t' : TS} {c k : Nat}
theorem OvI.same (I : OvI cnt t) (h : ∀ s, t'.ovB s = t.ovB s) : OvI cnt t' := ⟨I.len, fun s hs => by rw [h]; exact I.at_ s hs, I.z⟩
theorem ovB_upS {f : Sc → Sc} (h : ∀ y, (f y).ov = y.ov) (s : Nat) : (t.upS k f).ovB s = t.ovB s := by
  simp only [TS.ovB]
  rw [upS_get]
  cases t.scs[s]? with
  | none => rfl
  | some y => simp only [Option.map_some]; split <;> simp only [h]
theorem ovB_newS {su : Bool} (s : Nat) : (t.newS k su).ovB s = t.ovB s := by
  simp only [TS.ovB, TS.newS]
  rcases Nat.lt_trichotomy s t.scs.length with h | h | h
  · rw [List.getElem?_append_left h]
  · subst h; simp [Sc0]
  · rw [List.getElem?_eq_none (by simp; omega), List.getElem?_eq_none (by omega)]
theorem ovB_add (inn : Option Nat) (s : Nat) : (t.add inn).ovB s = t.ovB s := by
  cases inn with
  | none => rfl
  | some s0 =>
    simp only [TS.add]
    have e1 := ovB_upS (t := (t.newT (some s0)).upS s0 fun x => { x with tks := x.tks ++ [t.tks.length] }) (k := s0) (f := fun x => { x with live := x.live + 1 }) (fun _ => rfl) s
    have e2 := ovB_upS (t := t.newT (some s0)) (k := s0) (f := fun x => { x with tks := x.tks ++ [t.tks.length] }) (fun _ => rfl) s
    exact e1.trans e2
theorem ovB_blame (s0 : Nat) (fk : Int) (ft : ByteArray) (s : Nat) : (t.blame s0 fk ft).1.ovB s = t.ovB s := by
  unfold TS.blame
  split
  · split
    · exact ovB_upS (f := fun y => { y with fk := fk, ft := ft }) (fun _ => rfl) s
    · rfl
  · rfl
theorem OvI.fin (I : OvI cnt t) (ok : TOk c t) (W : WI (some k) t) : OvI ((t.fin k).2.foldl bump cnt) (t.fin k).1 ∧ ∀ e, e ∈ (t.fin k).2 → okE cnt e := by
  have n200 := ok.n200
  unfold TS.fin
  split
  · exact ⟨I, fun e h => by cases h⟩
  · rename_i y hy
    split
    · exact ⟨I, fun e h => by cases h⟩
    · rename_i x hx
      have hk := get_lt' hy
      split
      · rename_i hB
        simp only [finB, Bool.and_eq_true, decide_eq_true_eq] at hB
        have hov := (open_ov W hx (List.mem_of_getLast? hB.1.2) hy).1
        refine ⟨⟨?_, fun s hs => ?_, ?_⟩, fun e h _ => ?_⟩
        · simp only [List.foldl_cons, List.foldl_nil, bump, if_true, List.length_set]; exact I.len
        · simp only [List.foldl_cons, List.foldl_nil, bump, if_true, Int.toNat_natCast]
          have e1 : (t.fin0 k y.ow).ovB s = (t.upS k fun y => { y with ov := true }).ovB s := rfl
          rw [e1, I.at_ k (by omega), ovB_of hy, hov]
          by_cases hks : s = k
          · subst hks
            rw [List.getElem?_set_self (by rw [I.len]; omega), ovB_of (upS_at hy)]; rfl
          · rw [List.getElem?_set_ne (by omega), I.at_ s hs]
            simp only [TS.ovB]
            rw [upS_ne (fun e => hks e.symm)]
        · simp only [List.foldl_cons, List.foldl_nil, bump, if_true, Int.toNat_natCast]
          rw [List.getElem?_set_ne (by omega)]; exact I.z
        · simp only [List.mem_singleton] at h
          subst h
          exact ⟨k + 1, rfl, by omega, by omega⟩
      · exact ⟨I, fun e h => by cases h⟩

theorem OvI.pre (I : OvI cnt t) {e : Ef} (h : e.kind ≠ 3) (l : List Ef) : (e :: l).foldl bump cnt = l.foldl bump cnt := by simp only [List.foldl_cons, bump, if_neg h]

theorem OvI.run (I : OvI cnt t) (ok : TOk c t) (W : WI none t) (o : OpV) : OvI ((t.run o).2.foldl bump cnt) (t.run o).1 ∧ ∀ e, e ∈ (t.run o).2 → okE cnt e := by
  have nil : ∀ {t' : TS}, (∀ s, t'.ovB s = t.ovB s) → OvI (([] : List Ef).foldl bump cnt) t' ∧ ∀ e, e ∈ ([] : List Ef) → okE cnt e := fun h => ⟨I.same h, fun e h => by cases h⟩
  have pre : ∀ {l1 l2 : List Ef} {t' : TS}, (∀ e, e ∈ l1 → e.kind ≠ 3) → OvI (l2.foldl bump cnt) t' ∧ (∀ e, e ∈ l2 → okE cnt e) → OvI ((l1 ++ l2).foldl bump cnt) t' ∧ ∀ e, e ∈ l1 ++ l2 → okE cnt e := fun {l1 l2 t'} h h2 => by
    refine ⟨?_, fun e he => ?_⟩
    · rw [List.foldl_append]
      have : l1.foldl bump cnt = cnt := by
        clear h2
        induction l1 with
        | nil => rfl
        | cons a l1 ih => rw [List.foldl_cons, bump, if_neg (h a (List.mem_cons_self ..))]; exact ih fun e he => h e (List.mem_cons_of_mem _ he)
      rw [this]; exact h2.1
    · rcases List.mem_append.1 he with he | he
      · exact fun h3 => absurd h3 (h e he)
      · exact h2.2 e he
  unfold TS.run
  split
  · refine nil fun s => ?_
    unfold TS.open
    split
    · rfl
    · split
      · rfl
      · exact ovB_newS s
  split
  · refine nil fun s => ?_
    unfold TS.spawn
    split
    · rfl
    · split
      · rfl
      · split
        · rfl
        · split
          · rfl
          · exact ovB_add _ s
  split
  · unfold TS.end
    split
    · exact nil fun _ => rfl
    · rename_i k e' hq
      obtain ⟨_, _, x, hx, he⟩ := runs_some hq
      split
      · exact nil fun _ => rfl
      · rw [hx]
        simp only
        split
        · exact nil fun _ => rfl
        · rename_i ho
          have ho' : x.opn = [] := Classical.byContradiction ho
          split
          · exact nil fun _ => rfl
          · rename_i s hi
            split
            · exact nil fun _ => rfl
            · rename_i y hy
              have W2 := W.end2 ok hx he ho' hi o.fk o.ft
              have ok3 := ok.end3 (k := k) (s := s) (y := y) (fk := o.fk) (ft := o.ft)
              have I2 : OvI cnt (t.end2 k s o.fk o.ft) := I.same fun s' => by
                unfold TS.end2
                exact ovB_upS (t := t.end1 k o.fk o.ft) (k := s) (f := fun y => { y with live := y.live - 1 }) (fun _ => rfl) s'
              refine pre (fun e he => ?_) (OvI.fin (c := c + 1) ?_ ok3 ?_)
              · unfold saidE at he
                split at he
                · simp only [List.mem_singleton] at he; subst he; simp
                · cases he
              · unfold TS.end3
                split
                · exact I2
                · exact I2.same fun s' => ovB_blame s _ _ s'
              · unfold TS.end3
                split
                · exact W2
                · exact W2.blame _ _ _
  split
  · unfold TS.leave
    split
    · exact nil fun _ => rfl
    · rename_i k e' hq
      obtain ⟨_, _, x, hx, he⟩ := runs_some hq
      split
      · exact nil fun _ => rfl
      · rw [hx]
        simp only
        split
        · rename_i s hl hg
          split
          · rename_i y hy
            refine pre (fun e he => ?_) (OvI.fin (c := c) (I.same fun s' => ?_) ok.leave1 (W.leave1 hx he hg hy o.fk o.ft))
            · unfold liveE at he
              split at he
              · simp only [List.mem_singleton] at he; subst he; simp
              · cases he
            · exact ovB_blame s _ _ s'
          · exact nil fun _ => rfl
        · exact nil fun _ => rfl
  split
  · refine nil fun s => ?_
    unfold TS.shield
    repeat' split
    all_goals rfl
  split
  · refine nil fun s => ?_
    unfold TS.unveil
    repeat' split
    all_goals rfl
  split
  · unfold TS.fail
    split
    · exact nil fun _ => rfl
    · rename_i s e' hq
      split
      · exact nil fun _ => rfl
      · split
        · exact nil fun _ => rfl
        · split
          · have := pre (l1 := if (t.blame s o.fk o.ft).2 = true then [⟨1, o.n, 0, 0, ⟨#[]⟩⟩] else []) (l2 := []) (t' := (t.blame s o.fk o.ft).1) (fun e he => by
              split at he
              · simp only [List.mem_singleton] at he; subst he; simp
              · cases he) (nil fun s' => ovB_blame s _ _ s')
            rw [List.append_nil] at this
            exact this
          · exact nil fun _ => rfl
  split
  · refine nil fun s => ?_
    unfold TS.root
    split
    · rfl
    · rfl
  · exact nil fun _ => rfl
theorem OvI.roots (n : Nat) : OvI (List.replicate 201 0) (TS.roots n) := by
  refine ⟨List.length_replicate, fun s hs => ?_, rfl⟩
  rw [List.getElem?_replicate, if_pos (by omega)]; rfl
end

end Go.Proofs.Ytahomnlkkafbjaa.tr

namespace Go.Proofs.Ytahomnlkkafbjaa.tr
open Go Go.Ev
set_option maxRecDepth 100000
set_option linter.unusedVariables false
set_option linter.constructorNameAsVariable false

/-! ### Index and Contains of links -/

abbrev Pr := Int × Int
def prC (p : Pr) : List Value := [.int .i64 p.1, .int .i64 p.2]
def prL (l : List Pr) : List Value := (l.map prC).flatten
def lkP (v : Option Nat) : Pr := (lkK v, lkN v)
theorem prL_cons (p : Pr) (l : List Pr) : prL (p :: l) = prC p ++ prL l := rfl
theorem prL_app (l m : List Pr) : prL (l ++ m) = prL l ++ prL m := by simp [prL]
theorem prL_len : ∀ l : List Pr, (prL l).length = l.length * 2
  | [] => rfl
  | p :: l => by rw [prL_cons, List.length_append, prL_len l]; simp [prC]; omega
theorem prL_at : ∀ {l : List Pr} {k : Nat} {p : Pr} (junk : List Value), l[k]? = some p → ((prL l ++ junk).drop (k * 2)).take 2 = prC p
  | [], k, p, _, h => by simp at h
  | q :: l, 0, p, _, h => by simp at h; subst h; simp [prL_cons, prC]
  | q :: l, k + 1, p, junk, h => by
    have := prL_at (l := l) (k := k) (p := p) junk (by simpa using h)
    rw [prL_cons, List.append_assoc, List.drop_append, List.drop_of_length_le (by simp [prC]; omega), List.nil_append, show (k + 1) * 2 - (prC q).length = k * 2 by simp [prC]; omega]
    exact this
theorem lkP_inj {v w : Option Nat} (h : lkP v = lkP w) : v = w := by
  cases v <;> cases w <;> simp [lkP, lkK, lkN] at h
  · rfl
  · rename_i a b; congr 1; omega

theorem aeq44 (a b c d : Int) : (Asm.aeq .eql 44 #[.int .i64 a, .int .i64 b] #[.int .i64 c, .int .i64 d] (decide (a = c) && decide (b = d))).holds Try.prog := by
  refine ⟨rfl, rfl, .inl ⟨rfl, ?_⟩⟩
  by_cases h1 : a = c <;> by_cases h2 : b = d
  · simp [aggEq, leaves44, guard44, eqOffs, leafEq, h1, h2]
  · have h2' : (b == d) = false := by simpa using h2
    simp [aggEq, leaves44, guard44, eqOffs, leafEq, h1, h2, h2']
  · have h1' : (a == c) = false := by simpa using h1
    simp [aggEq, leaves44, guard44, eqOffs, leafEq, h1, h2, h1']
  · have h1' : (a == c) = false := by simpa using h1
    simp [aggEq, leaves44, guard44, eqOffs, leafEq, h1, h2, h1']
theorem aeq44T {p q : Pr} (h : p = q) : (Asm.aeq .eql 44 #[.int .i64 p.1, .int .i64 p.2] #[.int .i64 q.1, .int .i64 q.2] true).holds Try.prog := by
  have := aeq44 p.1 p.2 q.1 q.2
  subst h
  simpa using this
theorem aeq44F {p q : Pr} (h : p ≠ q) : (Asm.aeq .eql 44 #[.int .i64 p.1, .int .i64 p.2] #[.int .i64 q.1, .int .i64 q.2] false).holds Try.prog := by
  have := aeq44 p.1 p.2 q.1 q.2
  have e : (decide (p.1 = q.1) && decide (p.2 = q.2)) = false := by
    rw [Bool.and_eq_false_iff, decide_eq_false_iff_not, decide_eq_false_iff_not]
    refine Classical.byContradiction fun c => h ?_
    rw [not_or, Classical.not_not, Classical.not_not] at c
    exact Prod.ext c.1 c.2
  rwa [e] at this
theorem stat26 : (Asm.stat (drawN Try.f26 0)).holds Try.prog := show statOk (drawN Try.f26 0) = true by kernel_rfl

/-- Where a thing stands first; -1: nowhere. -/
def IxR {α : Type} (l : List α) (p : α) (r : Int) : Prop := (∃ k : Nat, r = k ∧ l[k]? = some p ∧ ∀ j, j < k → l[j]? ≠ some p) ∨ (r = -1 ∧ p ∉ l)
theorem IxR.geq {α : Type} {l : List α} {p : α} [Decidable (p ∈ l)] {r : Int} (h : IxR l p r) : decide (0 ≤ r) = decide (p ∈ l) := by
  rcases h with ⟨k, rfl, hk, _⟩ | ⟨rfl, hn⟩
  · rw [decide_eq_true (by omega), decide_eq_true (List.mem_of_getElem? hk)]
  · rw [decide_eq_false (by omega), decide_eq_false hn]

section
variable {h : Hp}
theorem index_loop {l : List Pr} {oa : Option Addr} {za b3 : Nat} {p : Pr} (hb : l.length ≤ 1000000) (A : l.length ≠ 0 → ∃ o junk rw, oa = some ⟨o, 0, none⟩ ∧ za = 2 ∧ h[o]? = some (.cells (prL l ++ junk) rw)) (h3 : h[b3]? = some (.cells (prC p) true)) :
    ∀ (j i : Nat) (E : Env), i + j = l.length → EnvLe [(8, .int .i64 (i : Int)), (7, .int .i64 (Int.ofNat l.length)), (0, .slice oa l.length za), (3, ptr b3)] E → (∀ j, j < i → l[j]? ≠ some p) →
      (∃ E1 k, EnvLe [(4, .int .i64 ((k : Nat) : Int))] E1 ∧ LRun Try.prog 19 false (loopN Try.f26 0) E h .ret E1 h ∧ l[k]? = some p ∧ ∀ j, j < k → l[j]? ≠ some p) ∨
      (∃ E1, LRun Try.prog 19 false (loopN Try.f26 0) E h (.exit 0) E1 h ∧ p ∉ l) := by
  intro j
  induction j with
  | zero =>
    intro i E hi hE hn
    have e : i = l.length := by omega
    subst e
    obtain ⟨E2, q1, q2⟩ := pvC 0 hE (r35p.ix_out oa 0 l.length za b3 0 0 0 0 0 l.length 0 h) ⟨ltF (by simp), trivial⟩
    refine .inr ⟨E2, .last q2 (by simp), fun hm => ?_⟩
    obtain ⟨k, hk⟩ := List.mem_iff_getElem?.1 hm
    exact hn k (get_lt' hk) hk
  | succ j ih =>
    intro i E hi hE hn
    obtain ⟨w, hw⟩ : ∃ w, l[i]? = some w := ⟨_, List.getElem?_eq_getElem (by omega)⟩
    obtain ⟨o, junk, rw1, rfl, rfl, ho⟩ := A (by omega)
    have ll := prL_len l
    have a1 := prL_at junk hw
    by_cases hp : p = w
    · obtain ⟨E2, q1, q2⟩ := pvC 0 hE (r35p.ix_eq none o l.length 0 b3 (i * 2) p.1 p.2 w.1 w.2 i 0 h)
        ⟨ltT (by simp; omega), stat26, a_ldn h3 (by simp [prC]) rfl, offI (q := i) rfl (by omega) (by omega), a_ldn ho (by simp; omega) a1, aeq44T hp, trivial⟩
      exact .inl ⟨E2, i, .trans (.add (.nil _) rfl) q1, .last q2 (by simp), by rw [hp]; exact hw, hn⟩
    · obtain ⟨E2, q1, q2⟩ := pvC 0 hE (r35p.ix_ne none o l.length 0 b3 (i * 2) p.1 p.2 w.1 w.2 i ((i + 1 : Nat) : Int) h)
        ⟨ltT (by simp; omega), stat26, a_ldn h3 (by simp [prC]) rfl, offI (q := i) rfl (by omega) (by omega), a_ldn ho (by simp; omega) a1, aeq44F hp, addI rfl (by omega) (by omega), trivial⟩
      have hn' : ∀ j, j < i + 1 → l[j]? ≠ some p := fun k hk e => by
        by_cases e1 : k = i
        · subst e1; rw [hw] at e; cases e; exact hp rfl
        · exact hn k (by omega) e
      rcases ih (i + 1) E2 (by omega) (.trans (.add (.add (.add (.add (.nil _) rfl) rfl) rfl) rfl) q1) hn' with ⟨E3, k, s1, s2, s3⟩ | ⟨E3, s2, s3⟩
      · exact .inl ⟨E3, k, s1, .step q2 s2, s3⟩
      · exact .inr ⟨E3, .step q2 s2, s3⟩

theorem index_run {l : List Pr} {v : Value} (hb : l.length ≤ 1000000) (A : SlG h v l.length 2 (prL l)) (p : Pr) : ∃ r h', Run Try.prog 26 [v, .agg (prC p).toArray] h (.int .i64 r) h' ∧ Keep (fun _ => False) h h' ∧ IxR l p r := by
  have K0 : Keep (fun _ => False) h (h ++ [AObj.cells (prC p) true]) := (Keep.refl (fun _ => False) h).pushN _
  obtain ⟨_, oa, za, rfl, A'⟩ := A.keep K0
  rcases index_loop (b3 := h.length) (p := p) hb A' (get_new _ _) l.length 0 [(8, .int .i64 (0 : Nat)), (7, .int .i64 (Int.ofNat l.length)), (0, .slice oa l.length za), (3, ptr h.length)] (by omega) (EnvLe.refl _) (fun j hj => absurd hj (Nat.not_lt_zero _)) with ⟨E1, k, q1, q2, q3, q4⟩ | ⟨E1, q2, q3⟩
  · exact ⟨k, _, pvF 0 Try.func26 (r35p.ix_f oa l.length za h.length p.1 p.2 k false h _) ⟨rfl, a_loop (by kernel_rfl) (.add (.add (.add (.add (.nil _) rfl) rfl) rfl) rfl) q1 q2, trivial⟩, K0, .inl ⟨k, rfl, q3, q4⟩⟩
  · exact ⟨Int.negSucc 0, _, pvF 0 Try.func26 (r35p.ix_n oa l.length za h.length p.1 p.2 0 false h _) ⟨rfl, a_loop (by kernel_rfl) (.add (.add (.add (.add (.nil _) rfl) rfl) rfl) rfl) (.nil _) q2, trivial⟩, K0, .inr ⟨rfl, q3⟩⟩
end

/-! ### TreeOver: the walk -/

def inL (l : List Int) : List Value := l.map fun x => .int .i64 x
structure OS (g : Hp) (ρ : Lay) (t : TS) (b o f : Nat) (ops : List OpV) (cnt : List Int) : Prop where
  tat : TAt g ρ t
  root : ρ .root = some b
  hO : ∃ rw, g[o]? = some (.cells (opC ops) rw)
  nO : ¬ fpT ρ o
  h1 : g[f]? = some (.cells (inL cnt) true)
  n1 : ¬ fpT ρ f
  d1 : o ≠ f

section
variable {g g' : Hp} {ρ ρ' : Lay} {t t' : TS} {b o f : Nat} {ops : List OpV} {cnt : List Int} {c : Nat}
theorem OS.step (F : OS g ρ t b o f ops cnt) (S : Step ρ g ρ' g') (a : TAt g' ρ' t') : OS g' ρ' t' b o f ops cnt := by
  obtain ⟨rw, hO⟩ := F.hO
  exact ⟨a, S.root.trans F.root, ⟨rw, S.get hO F.nO⟩, S.out (get_lt hO) F.nO, S.get F.h1 F.n1, S.out (get_lt F.h1) F.n1, F.d1⟩
theorem OS.grow (F : OS g ρ t b o f ops cnt) (K : Keep (fun _ => False) g g') : OS g' ρ t b o f ops cnt := F.step (Step.grow K) (F.tat.grow K)
theorem OS.set (F : OS g ρ t b o f ops cnt) (cnt' : List Int) : OS (g.set f (.cells (inL cnt') true)) ρ t b o f ops cnt' := by
  obtain ⟨rw, hO⟩ := F.hO
  exact ⟨F.tat.setN F.n1 _, F.root, ⟨rw, get_set_ne hO (Ne.symm F.d1)⟩, F.nO, get_set_eq F.h1, F.n1, F.d1⟩

end

end Go.Proofs.Ytahomnlkkafbjaa.tr

namespace Go.Proofs.Ytahomnlkkafbjaa.tr
open Go Go.Ev
set_option maxRecDepth 100000
set_option linter.unusedVariables false
set_option linter.constructorNameAsVariable false

/-! ### Index of a scope among open links -/

def ixO (v : Option Nat) : List (Option Nat) → Nat
  | [] => 0
  | x :: l => if x = v then 0 else ixO v l + 1
theorem ixO_at {v : Option Nat} : ∀ {l : List (Option Nat)} {k : Nat}, l[k]? = some v → (∀ j, j < k → l[j]? ≠ some v) → ixO v l = k
  | [], k, h, _ => by simp at h
  | x :: l, 0, h, _ => by simp at h; simp [ixO, h]
  | x :: l, k + 1, h, hn => by
    have h0 := hn 0 (by omega)
    simp at h0
    have := ixO_at (l := l) (k := k) (by simpa using h) fun j hj => by have := hn (j + 1) (by omega); simpa using this
    simp [ixO, h0, this]
theorem ixO_lt {v : Option Nat} : ∀ {l : List (Option Nat)}, v ∈ l → ixO v l < l.length
  | x :: l, h => by
    simp only [ixO]
    split
    · simp
    · rename_i c
      rcases List.mem_cons.1 h with h | h
      · exact absurd h.symm c
      · have := ixO_lt h
        simp; omega

theorem stat19 (k : Nat) (hk : k = 0 ∨ k = 1 ∨ k = 2 ∨ k = 3) : (Asm.stat (drawN Try.f19 k)).holds Try.prog := by
  rcases hk with rfl | rfl | rfl | rfl
  · exact show statOk (drawN Try.f19 0) = true by kernel_rfl
  · exact show statOk (drawN Try.f19 1) = true by kernel_rfl
  · exact show statOk (drawN Try.f19 2) = true by kernel_rfl
  · exact show statOk (drawN Try.f19 3) = true by kernel_rfl

section
variable {h : Hp} {ρ : Lay} {t : TS} {c r : Nat}

theorem indexS_run (a : TAt h ρ t) {k s si : Nat} {x : Tk} {oa : Option Addr} {za : Nat} (hx : t.tks[k]? = some x) (hsi : ρ (.sc s) = some si) (hin : ∀ s, some s ∈ x.opn → s < t.scs.length) (hb : x.opn.length ≤ 1000000) (hs : some s ∈ x.opn) (hv : slv (ρ (.op k)) x.opn.length = .slice oa x.opn.length za) :
    Run Try.prog 44 [.slice oa x.opn.length za, ptr si] h (.int .i64 (ixO (some s) x.opn : Nat)) h := by
  have loop : ∀ (j i : Nat) (E : Env), i + j = x.opn.length → EnvLe [(8, .int .i64 (i : Int)), (7, .int .i64 (Int.ofNat x.opn.length)), (0, .slice oa x.opn.length za), (1, ptr si)] E → (∀ j, j < i → x.opn[j]? ≠ some (some s)) →
      ∃ E1, EnvLe [(4, .int .i64 (ixO (some s) x.opn : Nat))] E1 ∧ LRun Try.prog 19 false (loopN Try.f44 0) E h .ret E1 h := by
    intro j
    induction j with
    | zero =>
      intro i E hi hE hn
      obtain ⟨k', hk'⟩ := List.mem_iff_getElem?.1 hs
      exact absurd hk' (hn k' (by have := get_lt' hk'; omega))
    | succ j ih =>
      intro i E hi hE hn
      obtain ⟨w, hw⟩ : ∃ w, x.opn[i]? = some w := ⟨_, List.getElem?_eq_getElem (by omega)⟩
      cases ho : ρ (.op k) with
      | none => have := a.sh.op k x hx ho; rw [this] at hi; simp at hi
      | some o =>
      rw [ho] at hv
      cases hv
      have B1 : (Asm.cmp .lss (i : Int) (Int.ofNat x.opn.length) true).holds Try.prog := ltT (by simp; omega)
      have B2 : (Asm.off i 0 (i : Int) x.opn.length 1).holds Try.prog := offI (q := i) rfl (by omega) (by omega)
      have B3 : (Asm.ld1 (.is h) o i (inP ρ w)).holds Try.prog := a.ld1 rfl ho (by rw [cont_op hx, List.getElem?_map, hw]; rfl)
      have B9 : (Asm.arith .add .i64 (i : Int) 1 ((i + 1 : Nat) : Int)).holds Try.prog := addI rfl (by omega) (by omega)
      have nx : ∀ {E2 : Env}, w ≠ some s → EnvLe [(8, .int .i64 ((i + 1 : Nat) : Int)), (7, .int .i64 (Int.ofNat x.opn.length)), (0, .slice (some ⟨o, 0, none⟩) x.opn.length 1), (1, ptr si)] E2 → CRun Try.prog 19 false (loopN Try.f44 0) E h .normal E2 h → ∃ E1, EnvLe [(4, .int .i64 (ixO (some s) x.opn : Nat))] E1 ∧ LRun Try.prog 19 false (loopN Try.f44 0) E h .ret E1 h := fun hne h1 h2 => by
        obtain ⟨E3, s1, s2⟩ := ih (i + 1) _ (by omega) h1 fun m hm e => by
          by_cases e1 : m = i
          · subst e1; rw [hw] at e; cases e; exact hne rfl
          · exact hn m (by omega) e
        exact ⟨E3, s1, .step h2 s2⟩
      cases w with
      | none =>
        obtain ⟨E2, q1, q2⟩ := pvC 0 hE (r38p.ig_nil none o x.opn.length 0 si 0 i i ((i + 1 : Nat) : Int) h) ⟨B1, B2, B3, B9, trivial⟩
        exact nx (by simp) (.trans (.add (.add (.add (.add (.nil _) rfl) rfl) rfl) rfl) q1) q2
      | some s' =>
        have hs' := hin s' (List.mem_of_getElem? hw)
        obtain ⟨yi, hyi⟩ := a.sh.sc s' hs'
        simp only [inP, hyi, pvv] at B3
        obtain ⟨c1, ho1⟩ := a.own hsi
        obtain ⟨c2, ho2⟩ := a.own hyi
        by_cases e : s' = s
        · subst e
          rw [hsi] at hyi; cases hyi
          obtain ⟨E2, q1, q2⟩ := pvC 0 hE (r38p.ig_eq none o x.opn.length 0 si si i i 0 h) ⟨B1, B2, B3, ⟨95, 7, c1, c2, und91, siz95, ho1, ho2, .inl ⟨rfl, by simp⟩⟩, trivial⟩
          refine ⟨E2, ?_, .last q2 (by simp)⟩
          rw [ixO_at hw hn]
          exact .trans (.add (.nil _) rfl) q1
        · have hne : si ≠ yi := fun e1 => by subst e1; have := a.inj _ _ _ hsi hyi; cases this; exact e rfl
          obtain ⟨E2, q1, q2⟩ := pvC 0 hE (r38p.ig_ne none o x.opn.length 0 si yi i i ((i + 1 : Nat) : Int) h) ⟨B1, B2, B3, ⟨95, 7, c1, c2, und91, siz95, ho1, ho2, .inl ⟨rfl, by simp [hne]⟩⟩, B9, trivial⟩
          exact nx (by simpa using e) (.trans (.add (.add (.add (.add (.nil _) rfl) rfl) rfl) rfl) q1) q2
  obtain ⟨E1, q1, q2⟩ := loop x.opn.length 0 [(8, .int .i64 (0 : Nat)), (7, .int .i64 (Int.ofNat x.opn.length)), (0, .slice oa x.opn.length za), (1, ptr si)] (by omega) (EnvLe.refl _) (fun j hj => absurd hj (Nat.not_lt_zero _))
  exact pvF 0 Try.func44 (r38p.ig_f oa x.opn.length za si _ h h) ⟨a_loop (by kernel_rfl) (.add (.add (.add (.add (.nil _) rfl) rfl) rfl) rfl) q1 q2, trivial⟩

/-! ### A list that is made in a cell -/

structure Acc (h : Hp) (b8 : Nat) (g : Hp) (v : Value) (acc : List Pr) : Prop where
  keep : Keep (fun _ => False) h g
  lo : h.length ≤ b8
  box : g[b8]? = some (.cells [v] true)
  sl : SlV g (b8 + 1) v acc.length 2 (prL acc)

/-- What appending to it turns. -/
def fpA (b8 : Nat) (v : Value) (q : Nat) : Prop := q = b8 ∨ ∃ n z, v = .slice (some ⟨q, 0, none⟩) n z

theorem Acc.grow {b8 : Nat} {g g' : Hp} {v : Value} {acc : List Pr} (A : Acc h b8 g v acc) (K : Keep (fun _ => False) g g') : Acc h b8 g' v acc := ⟨A.keep.trans K, A.lo, K.2 _ _ A.box id, A.sl.keep K fun _ e => e.elim⟩
theorem Acc.setL {b8 L : Nat} {g : Hp} {v : Value} {acc : List Pr} (A : Acc h b8 g v acc) (hL : h.length ≤ L) {st : LoopState} {pd : Option Code} {E : Env} {n : Nat} {ps : Array Tmp} {x y : Code} (hl : g[L]? = some (.loop st pd E n ps x y)) (o : AObj) : Acc h b8 (g.set L o) v acc := by
  refine ⟨A.keep.setN hL _, A.lo, get_set_ne A.box (fun e => by subst e; rw [A.box] at hl; cases hl), ?_⟩
  rcases A.sl with s | ⟨a1, a2, w, a3, a4, a5⟩
  · exact .inl s
  · exact .inr ⟨a1, a2, w, a3, get_set_ne a4 (fun e => by subst e; rw [a4] at hl; cases hl), a5⟩

theorem Acc.notL {b8 L : Nat} {g : Hp} {v : Value} {acc : List Pr} (A : Acc h b8 g v acc) {st : LoopState} {pd : Option Code} {E : Env} {n : Nat} {ps : Array Tmp} {x y : Code} (hl : g[L]? = some (.loop st pd E n ps x y)) : ¬ fpA b8 v L := by
  rintro (rfl | ⟨n', z', e⟩)
  · rw [A.box] at hl; cases hl
  · rcases A.sl with ⟨_, _, e'⟩ | ⟨a1, a2, w, a3, a4, a5⟩
    · rw [e'] at e; cases e
    · rw [a3] at e; cases e
      rw [a4] at hl; cases hl
theorem Acc.notB {b8 q : Nat} {g : Hp} {v sl : Value} {acc : List Pr} (A : Acc h b8 g v acc) (hl : g[q]? = some (.cells [sl] true)) (hn : q ≠ b8) : ¬ fpA b8 v q := by
  rintro (rfl | ⟨n', z', e⟩)
  · exact hn rfl
  · rcases A.sl with ⟨_, _, e'⟩ | ⟨a1, a2, w, a3, a4, a5⟩
    · rw [e'] at e; cases e
    · rw [a3] at e; cases e
      rw [a4] at hl
      have := congrArg List.length (AObj.cells.inj (Option.some.inj hl)).1
      rw [prL_len] at this
      simp at this
      omega

/-- One more: the list was empty. -/
theorem Acc.appN {b8 : Nat} {g : Hp} {v : Value} (A : Acc h b8 g v []) (p : Pr) :
    Acc h b8 (((g ++ [AObj.cells (prC p) true]) ++ [AObj.cells (prC p) true]).set b8 (.cells [.slice (some ⟨g.length + 1, 0, none⟩) 1 2] true)) (.slice (some ⟨g.length + 1, 0, none⟩) 1 2) [p] ∧
    Keep (fpA b8 v) g (((g ++ [AObj.cells (prC p) true]) ++ [AObj.cells (prC p) true]).set b8 (.cells [.slice (some ⟨g.length + 1, 0, none⟩) 1 2] true)) := by
  have bl := get_lt A.box
  have kl := A.keep.1
  refine ⟨⟨(((A.keep.pushN _).pushN _).setN A.lo _), A.lo, get_set_eq (get_push (get_push A.box)), .inr ⟨by simp, by simp [prL, prC], g.length + 1, rfl, ?_, by omega⟩⟩, ?_⟩
  · exact get_set_ne (get_new' _ (by simp)) (by omega)
  · exact ((Keep.push _ _ _).trans (Keep.push _ _ _)).trans (Keep.set (fp := fpA b8 v) (.inl rfl) _)
/-- One more, behind others. -/
theorem Acc.appS {b8 w : Nat} {g : Hp} {acc : List Pr} (A : Acc h b8 g (.slice (some ⟨w, 0, none⟩) acc.length 2) acc) (hw : g[w]? = some (.cells (prL acc) true)) (hl : b8 + 1 ≤ w) (p : Pr) :
    Acc h b8 ((((g ++ [AObj.cells (prC p) true]).set w .dead) ++ [AObj.cells (prL acc ++ prC p) true]).set b8 (.cells [.slice (some ⟨g.length + 1, 0, none⟩) (acc.length + 1) 2] true)) (.slice (some ⟨g.length + 1, 0, none⟩) (acc.length + 1) 2) (acc ++ [p]) ∧
    Keep (fpA b8 (.slice (some ⟨w, 0, none⟩) acc.length 2)) g ((((g ++ [AObj.cells (prC p) true]).set w .dead) ++ [AObj.cells (prL acc ++ prC p) true]).set b8 (.cells [.slice (some ⟨g.length + 1, 0, none⟩) (acc.length + 1) 2] true)) := by
  have bl := get_lt A.box
  have kl := A.keep.1
  have lo := A.lo
  have ll := prL_len acc
  have hb2 : ((g ++ [AObj.cells (prC p) true]).set w .dead)[b8]? = some (.cells [.slice (some ⟨w, 0, none⟩) acc.length 2] true) := get_set_ne (get_push A.box) (by omega)
  refine ⟨⟨((((A.keep.pushN _).setN (by omega) _).pushN _).setN A.lo _), A.lo, get_set_eq (get_push hb2), .inr ⟨by simp, by rw [prL_app]; simp [prL, prC] at ll ⊢; omega, g.length + 1, by simp, ?_, by omega⟩⟩, ?_⟩
  · rw [prL_app]
    exact get_set_ne (get_new' _ (by simp)) (by omega)
  · exact (((Keep.push _ _ _).trans (Keep.set (fp := fpA b8 (.slice (some ⟨w, 0, none⟩) acc.length 2)) (.inr ⟨_, _, rfl⟩) _)).trans (Keep.push _ _ _)).trans (Keep.set (.inl rfl) _)
theorem Acc.cases {b8 : Nat} {g : Hp} {v : Value} {acc : List Pr} (A : Acc h b8 g v acc) : (acc = [] ∧ v = .slice none 0 0) ∨ (acc ≠ [] ∧ ∃ w, v = .slice (some ⟨w, 0, none⟩) acc.length 2 ∧ g[w]? = some (.cells (prL acc) true) ∧ b8 + 1 ≤ w) := by
  rcases A.sl with ⟨a1, _, a2⟩ | ⟨a1, _, w, a3, a4, a5⟩
  · exact .inl ⟨List.length_eq_zero_iff.1 a1, a2⟩
  · exact .inr ⟨fun e => a1 (by rw [e]; rfl), w, a3, a4, a5⟩
theorem Acc.vr {b8 : Nat} {g : Hp} {v : Value} {acc : List Pr} (A : Acc h b8 g v acc) : veqR v = true := by
  rcases A.cases with ⟨_, e⟩ | ⟨_, w, e, _⟩ <;> rw [e] <;> rfl

/-! ### Chain: what is said of it -/

def TS.chainG (t : TS) : Nat → Nat → Nat → List Pr
  | 0, _, _ => []
  | f + 1, k, top => match t.tks[k]? with
    | none => []
    | some x => ((x.opn.take top).reverse.map lkP ++ [(1, ((k + 1 : Nat) : Int))]) ++ match x.inn with
      | none => []
      | some s => match t.scs[s]? with
        | none => []
        | some y => match t.tks[y.ow]? with
          | none => []
          | some z => lkP (some s) :: t.chainG f y.ow (ixO (some s) z.opn)
def TS.chain (t : TS) (n : Int) : List Pr × Int := match t.runs n with
  | (none, e) => ([], e)
  | (some k, _) => match t.tks[k]? with
    | some x => (t.chainG (k + 1) k x.opn.length, 0)
    | none => ([], 6)

noncomputable def CAS : Code := partC Try.f19 [1, 1, 1, 1, 1, 0, 0, 0, 0, 1, 0, 0]
noncomputable def CBD : Code := partC Try.f19 [1, 1, 1, 1, 1, 0, 0, 0, 0, 1, 0, 1]
theorem body19 : Try.f19.body = some (chainT [partC Try.f19 [0], partC Try.f19 [1, 0], partC Try.f19 [1, 1, 0], partC Try.f19 [1, 1, 1, 0], partC Try.f19 [1, 1, 1, 1, 0]] (.block 0 (.loop (loopN Try.f19 0)))) := by kernel_rfl
theorem bodyL19 : loopN Try.f19 0 = .block 1 (.seq (.seq (partC Try.f19 [1, 1, 1, 1, 1, 0, 0, 0, 0, 0]) (.block 2 (.rangeFunc (.tmp 32) #[33, 34] CAS CBD))) (partC Try.f19 [1, 1, 1, 1, 1, 0, 0, 0, 1])) := by kernel_rfl

theorem ch_body (a : TAt h ρ t) {b8 : Nat} {g : Hp} {v : Value} {acc : List Pr} (A : Acc h b8 g v acc) (hb : acc.length ≤ 100000) (w : Option Nat) (hw : ∀ s, w = some s → s < t.scs.length) {E : Env} (hE : EnvLe [(11, inP ρ w), (8, ptr b8)] E) :
    ∃ E' g' v', CRun Try.prog 84 true CBD E g .normal E' g' ∧ Acc h b8 g' v' (acc ++ [lkP w]) ∧ Keep (fpA b8 v) g g' := by
  obtain ⟨g2, r1, K2⟩ := link_run (a.grow A.keep) w hw
  have A2 := A.grow K2
  have l2 := K2.1
  have ga : (Asm.again (.is g) 33 (.pointer (some ⟨b8, 0, none⟩)) v).holds Try.prog := a_again1 agg33 A.box rfl A.vr
  have gb : (Asm.again (.is g2) 33 (.pointer (some ⟨b8, 0, none⟩)) v).holds Try.prog := a_again1 agg33 A2.box rfl A.vr
  have gl : (Asm.ld1 (.is g) b8 0 v).holds Try.prog := a_ld1 A.box rfl
  rcases A.cases with ⟨rfl, rfl⟩ | ⟨hne, o, rfl, _, _⟩
  · obtain ⟨A3, L3⟩ := A2.appN (lkP w)
    obtain ⟨E2, q1, q2⟩ := pvC 0 hE (r38p.ch_bn b8 g2.length (g2.length + 1) 0 0 (lkK w) (lkN w) (inP ρ w) [] (prC (lkP w)) [.slice (some ⟨g2.length + 1, 0, none⟩) 1 2] g g2)
      ⟨stat19 0 (by simp), ga, ga, gb, gl, r1, rfl, a_appGN rfl rfl (by omega) (get_new _ _) (push_len _ _), a_st (get_push (get_push A2.box)) (by simp) rfl, trivial⟩
    exact ⟨E2, _, _, q2, A3, (K2.mono fun _ _ e => e.elim).trans L3⟩
  · rcases A2.cases with ⟨e, _⟩ | ⟨_, o', eo, ho, hlo⟩
    · exact absurd e hne
    cases eo
    obtain ⟨A3, L3⟩ := A2.appS ho hlo (lkP w)
    have lo := A2.lo
    obtain ⟨E2, q1, q2⟩ := pvC 0 hE (r38p.ch_bs b8 g2.length (g2.length + 1) o acc.length (lkK w) (lkN w) (inP ρ w) (prL acc ++ prC (lkP w)) (prC (lkP w)) [.slice (some ⟨g2.length + 1, 0, none⟩) (acc.length + 1) 2] g g2)
      ⟨stat19 0 (by simp), ga, ga, gb, gl, r1, rfl, a_appGS rfl rfl (by omega) (by omega) (prL_len _) (get_push ho) (get_new _ _) (push_len _ _), a_st (get_push (get_set_ne (get_push A2.box) (by omega))) (by simp) rfl, trivial⟩
    exact ⟨E2, _, _, q2, A3, (K2.mono fun _ _ e => e.elim).trans L3⟩

/-- The way down through a task's open links. -/
theorem ch_links (a : TAt h ρ t) (ok : TOk c t) (hc : c ≤ 1000) {k ki b8 top : Nat} {x : Tk} (hx : t.tks[k]? = some x) (hki : ρ (.tk k) = some ki) (htop : top ≤ x.opn.length) {g : Hp} {v : Value} {acc : List Pr} (A : Acc h b8 g v acc) (hb : acc.length ≤ 70000) {E : Env} (hE : EnvLe [(6, ptr ki), (9, .int .i64 (Int.ofNat top)), (8, ptr b8)] E) :
    ∃ E' g' v', EnvLe [(6, ptr ki), (9, .int .i64 (Int.ofNat top)), (8, ptr b8)] E' ∧ CRun Try.prog 84 false (.seq (partC Try.f19 [1, 1, 1, 1, 1, 0, 0, 0, 0, 0]) (.block 2 (.rangeFunc (.tmp 32) #[33, 34] CAS CBD))) E g .normal E' g' ∧ Acc h b8 g' v' (acc ++ (x.opn.take top).reverse.map lkP) := by
  have ag := a.grow A.keep
  have hlen := ok.len k x hx
  have Lo : (Asm.ld1 (.is g) ki 2 (slv (ρ (.op k)) x.opn.length)).holds Try.prog := ag.ld1 rfl hki (by rw [cont_tk hx]; rfl)
  -- the frame
  have pre : ∃ E3 sl, EnvLe [(32, .func (.func 67) #[] #[ptr g.length]), (6, ptr ki), (9, .int .i64 (Int.ofNat top)), (8, ptr b8)] E3 ∧ CRun Try.prog 84 false (partC Try.f19 [1, 1, 1, 1, 1, 0, 0, 0, 0, 0]) E g .normal E3 (g ++ [.cells [sl] true]) ∧
      (((x.opn.take top).map (inP ρ) = [] ∧ sl = .slice none 0 0) ∨ ∃ o, ρ (.op k) = some o ∧ sl = .slice (some ⟨o, 0, none⟩) top 1) := by
    cases ho : ρ (.op k) with
    | none =>
      have e0 := a.sh.op k x hx ho
      rw [e0] at htop
      have t0 : top = 0 := by simpa using htop
      subst t0
      rw [ho, e0] at Lo
      obtain ⟨E3, q1, q2⟩ := pvC 1 hE (r38p.ch_r6n ki b8 g.length 0 0 0 g) ⟨Lo, rfl, trivial⟩
      exact ⟨E3, _, .trans (.add (.add (.add (.add (.nil _) rfl) rfl) rfl) rfl) q1, q2, .inl ⟨rfl, rfl⟩⟩
    | some o =>
      rw [ho] at Lo
      obtain ⟨E3, q1, q2⟩ := pvC 1 hE (r38p.ch_r6 ki b8 g.length o x.opn.length top g) ⟨Lo, a_cut htop, rfl, trivial⟩
      exact ⟨E3, _, .trans (.add (.add (.add (.add (.nil _) rfl) rfl) rfl) rfl) q1, q2, .inr ⟨o, rfl, rfl⟩⟩
  obtain ⟨E3, sl, hE3, c1, hsl⟩ := pre
  obtain ⟨g4, hg4⟩ : ∃ g4, g4 = g ++ [AObj.cells [sl] true] := ⟨_, rfl⟩
  rw [← hg4] at c1
  have l4 : g4.length = g.length + 1 := by rw [hg4]; simp
  have A4 : Acc h b8 g4 v acc := by rw [hg4]; exact A.grow (Keep.push _ _ _)
  have b3 : g4[g.length]? = some (.cells [sl] true) := by rw [hg4]; exact get_new _ _
  obtain ⟨lpR, hR⟩ : ∃ lp : AObj, lp = .loop .ready none E3 84 #[33, 34] CAS CBD := ⟨_, rfl⟩
  have hgl := A.keep.1
  have vl : ((x.opn.take top).map (inP ρ)).length = top := by simp; omega
  obtain ⟨g5, r1, r2⟩ := backward_run (bb := g.length) (L := g4.length) (vals := (x.opn.take top).map (inP ρ)) (sl := sl) (by rw [vl]; omega)
    (fun j g' => ∃ v', Acc h b8 g' v' (acc ++ ((x.opn.take top).drop j).reverse.map lkP) ∧ g'[g4.length]? = some lpR ∧ g'[g.length]? = some (.cells [sl] true) ∧ g4.length < g'.length)
    (fun _ => False)
    (fun j g' ⟨v', h1, h2, h3, h4⟩ => h3)
    (by
      rcases hsl with h0 | ⟨o, ho, rfl⟩
      · exact .inl h0
      · refine .inr ⟨o, by rw [vl], fun j g' m v ⟨v', h1, h2, h3, h4⟩ hv => ?_⟩
        obtain ⟨junk, hj⟩ := (a.grow h1.keep).obj _ _ ho
        rw [cont_op hx] at hj
        refine ⟨_, true, hj, ?_⟩
        rw [List.map_take] at hv
        have hm := get_lt' hv
        rw [List.length_take] at hm
        rw [List.getElem?_take_of_lt (by omega)] at hv
        rw [List.getElem?_append_left (get_lt' hv)]; exact hv)
    (fun j v g' hv ⟨v', h1, h2, h3, h4⟩ => by
      left
      rw [List.getElem?_map] at hv
      cases hw : (x.opn.take top)[j]? with
      | none => rw [hw] at hv; cases hv
      | some w =>
        rw [hw] at hv
        simp only [Option.map_some, Option.some.injEq] at hv
        subst hv
        have hmem : w ∈ x.opn := List.mem_of_mem_take (List.mem_of_getElem? hw)
        have hlp : g'[g4.length]? = some (.loop .ready none E3 84 #[33, 34] CAS CBD) := by rw [h2, hR]
        obtain ⟨E4, u1, u2⟩ := pvC 0 (((EnvLe.trans (.add (.add (.add (.nil _) rfl) rfl) rfl) hE3 : EnvLe [(6, ptr ki), (9, .int .i64 (Int.ofNat top)), (8, ptr b8)] E3).cons 33 (.int .i64 j)).cons 34 (inP ρ w)) (r38p.ch_as ki b8 (Int.ofNat top) j (inP ρ w) g') trivial
        have u2' : CRun Try.prog 84 true CAS ((34, inP ρ w) :: (33, .int .i64 j) :: E3) g' .normal E4 g' := u2
        have Ab := h1.setL (L := g4.length) (by have := A4.keep.1; omega) hlp (.loop .busy none E3 84 #[33, 34] CAS CBD)
        have bl : (acc ++ ((x.opn.take top).drop (j + 1)).reverse.map lkP).length ≤ 100000 := by simp; omega
        obtain ⟨E5, g6, v6, w1, w2, w3⟩ := ch_body a Ab bl w (fun s e => ok.opn k x s hx (by rw [← e]; exact hmem)) (E := E4) (.trans (.add (.add (.nil _) rfl) rfl) u1)
        have hb6 := w3.2 _ _ (get_set_eq hlp) (Ab.notL (get_set_eq hlp))
        refine ⟨_, RunR.go hlp rfl rfl u2' hlp w1 hb6 rfl, v6, ?_, ?_, ?_, ?_⟩
        · have hd : (x.opn.take top).drop j = w :: (x.opn.take top).drop (j + 1) := by
            have hjl := get_lt' hw
            rw [List.drop_eq_getElem_cons hjl]
            rw [List.getElem?_eq_getElem hjl] at hw
            rw [Option.some.inj hw]
          rw [hd, List.reverse_cons, List.map_append, List.map_cons, List.map_nil, ← List.append_assoc]
          exact w2.setL (L := g4.length) (by have := A4.keep.1; omega) hb6 _
        · rw [hR]; exact get_set_eq hb6
        · have e3 : (g'.set g4.length (.loop .busy none E3 84 #[33, 34] CAS CBD))[g.length]? = some (.cells [sl] true) := get_set_ne h3 (by omega)
          exact get_set_ne (w3.2 _ _ e3 (Ab.notB e3 (by have := get_lt A.box; omega))) (by omega)
        · have := w3.1
          simp only [List.length_set] at this ⊢
          omega)
    (g0 := g4 ++ [lpR]) ⟨v, by
      rw [vl, List.drop_of_length_le (by simp; omega)]
      simpa using A4.grow (Keep.push _ _ _), get_new _ _, get_push b3, by simp⟩
  rcases r2 with ⟨v', h1, h2, h3, h4⟩ | h
  · have hgv : evalO E3 (.tmp 32) = some (.func (.func 67) #[] #[ptr g.length]) := hE3 32 _ rfl
    have c2 : CRun Try.prog 84 false (.rangeFunc (.tmp 32) #[33, 34] CAS CBD) E3 g4 .normal E3 (g5.set g4.length .dead) := CRun.range (pend := none) hgv (by rw [hR] at r1; exact r1) (by rw [h2, hR]) rfl
    refine ⟨E3, _, v', .trans (.add (.add (.add (.nil _) rfl) rfl) rfl) hE3, CRun.seq c1 (CRun.blockN 2 c2), ?_⟩
    rw [hR] at h2
    have := h1.setL (L := g4.length) (by have := A4.keep.1; omega) h2 .dead
    simpa using this
  · exact h.elim
end

end Go.Proofs.Ytahomnlkkafbjaa.tr

namespace Go.Proofs.Ytahomnlkkafbjaa.tr
open Go Go.Ev
set_option maxRecDepth 100000
set_option linter.unusedVariables false
set_option linter.constructorNameAsVariable false

section
variable {h : Hp} {ρ : Lay} {t : TS} {c r : Nat}

/-- A running task's scope is not over, and its owner runs. -/
theorem WI.above (W : WI none t) (ok : TOk c t) {k s : Nat} {x : Tk} (hx : t.tks[k]? = some x) (he : x.en = false) (hi : x.inn = some s) :
    ∃ y z, t.scs[s]? = some y ∧ t.tks[y.ow]? = some z ∧ y.ov = false ∧ some s ∈ z.opn ∧ z.en = false ∧ y.ow < k := by
  obtain ⟨y, hy⟩ : ∃ y, t.scs[s]? = some y := ⟨_, List.getElem?_eq_getElem (ok.inn k x s hx hi)⟩
  obtain ⟨z, hz⟩ : ∃ z, t.tks[y.ow]? = some z := ⟨_, List.getElem?_eq_getElem (ok.ow s y hy)⟩
  have hk : k ∈ y.tks := (W.mem s y k hy).2 ⟨x, hx, hi⟩
  have hov : y.ov = false := by
    cases ho : y.ov with
    | false => rfl
    | true =>
      have h0 := W.ov2 s y hy ho
      rw [W.live s y hy] at h0
      have h1 : y.tks.countP t.rn = 0 := by omega
      rw [List.countP_eq_zero] at h1
      exact absurd (by rw [rn_of hx, he]; rfl) (h1 k hk)
  have hin := (W.ov s y z hy hz).1 hov
  refine ⟨y, z, hy, hz, hov, hin, ?_, W.up k x s y hx hi hy⟩
  cases hen : z.en with
  | false => rfl
  | true => rw [W.en _ z hz hen] at hin; cases hin

theorem chain_loop (a : TAt h ρ t) (ok : TOk c t) (hc : c ≤ 1000) (W : WI none t) {b8 : Nat} :
    ∀ (f k : Nat) (x : Tk) (ki top : Nat) (E : Env) (g : Hp) (v : Value) (acc : List Pr), k < f → t.tks[k]? = some x → x.en = false → ρ (.tk k) = some ki → top ≤ x.opn.length → acc.length + f * 1002 ≤ 70000 → Acc h b8 g v acc →
      EnvLe [(6, ptr ki), (9, .int .i64 (Int.ofNat top)), (8, ptr b8)] E →
      ∃ E1 g' v', EnvLe [(4, v'), (5, .int .i64 0)] E1 ∧ LRun Try.prog 84 false (loopN Try.f19 0) E g .ret E1 g' ∧ Acc h b8 g' v' (acc ++ t.chainG f k top) := by
  intro f
  induction f with
  | zero => intro k x ki top E g v acc hk; omega
  | succ f ih =>
    intro k x ki top E g v acc hk hx he hki htop hacc A hE
    have n64 := ok.n64
    have hlen := ok.len k x hx
    obtain ⟨E1, g1, v1, e1, c1, A1⟩ := ch_links a ok hc hx hki htop A (by omega) hE
    have tl : ((x.opn.take top).reverse.map lkP).length ≤ 1000 := by simp; omega
    obtain ⟨acc1, hacc1⟩ : ∃ acc1, acc1 = acc ++ (x.opn.take top).reverse.map lkP := ⟨_, rfl⟩
    rw [← hacc1] at A1
    have l1 : acc1.length ≤ acc.length + 1000 := by rw [hacc1, List.length_append]; omega
    have ag := a.grow A1.keep
    have S1 : (Asm.ld1 (.is g1) b8 0 v1).holds Try.prog := a_ld1 A1.box rfl
    have S2 : (Asm.ld1 (.is g1) ki 0 (.int .i64 ((k + 1 : Nat) : Int))).holds Try.prog := ag.ld1 rfl hki (by rw [cont_tk hx]; rfl)
    -- the task itself
    have main : ∀ (g2 : Hp) (z m : Nat), Acc h b8 g2 (.slice (some ⟨z, 0, none⟩) (m + 1) 2) (acc1 ++ [(1, ((k + 1 : Nat) : Int))]) →
        (x.inn = none → ∃ E2, EnvLe [(4, .slice (some ⟨z, 0, none⟩) (m + 1) 2), (5, .int .i64 0)] E2 ∧ CRun Try.prog 84 false (partC Try.f19 [1, 1, 1, 1, 1, 0, 0, 0, 1]) E1 g1 .ret E2 g2) →
        (∀ s y zz, x.inn = some s → t.scs[s]? = some y → t.tks[y.ow]? = some zz → y.ov = false → some s ∈ zz.opn → zz.en = false → y.ow < k → ∃ E2 g4 v4 oi, ρ (.tk y.ow) = some oi ∧ EnvLe [(6, ptr oi), (9, .int .i64 (Int.ofNat (ixO (some s) zz.opn))), (8, ptr b8)] E2 ∧ CRun Try.prog 84 false (partC Try.f19 [1, 1, 1, 1, 1, 0, 0, 0, 1]) E1 g1 .normal E2 g4 ∧ Acc h b8 g4 v4 (acc1 ++ [(1, ((k + 1 : Nat) : Int))] ++ [lkP (some s)])) →
        ∃ E1' g' v', EnvLe [(4, v'), (5, .int .i64 0)] E1' ∧ LRun Try.prog 84 false (loopN Try.f19 0) E g .ret E1' g' ∧ Acc h b8 g' v' (acc ++ t.chainG (f + 1) k top) := by
      intro g2 z m A2 hroot hinn
      cases hi : x.inn with
      | none =>
        obtain ⟨E2, w1, w2⟩ := hroot hi
        refine ⟨E2, g2, _, w1, .last (by rw [bodyL19]; exact CRun.blockR 1 (CRun.seq c1 w2)) (by simp), ?_⟩
        have : acc ++ t.chainG (f + 1) k top = acc1 ++ [(1, ((k + 1 : Nat) : Int))] := by simp only [TS.chainG, hx, hi, List.append_nil, hacc1, List.append_assoc]
        rw [this]; exact A2
      | some s =>
        obtain ⟨y, zz, hy, hz, hov, hin, hen, hlt⟩ := W.above ok hx he hi
        obtain ⟨E2, g4, v4, oi, w0, w1, w2, w3⟩ := hinn s y zz hi hy hz hov hin hen hlt
        have ixl := ixO_lt hin
        obtain ⟨E5, g5, v5, u1, u2, u3⟩ := ih y.ow zz oi (ixO (some s) zz.opn) E2 g4 v4 _ (by omega) hz hen w0 (by omega) (by simp only [List.length_append, List.length_singleton]; omega) w3 w1
        refine ⟨E5, g5, v5, u1, .step (by rw [bodyL19]; exact CRun.blockN 1 (CRun.seq c1 w2)) u2, ?_⟩
        have : acc ++ t.chainG (f + 1) k top = acc1 ++ [(1, ((k + 1 : Nat) : Int))] ++ [lkP (some s)] ++ t.chainG f y.ow (ixO (some s) zz.opn) := by
          rw [TS.chainG]
          simp only [hx, hi, hy, hz, hacc1, List.append_assoc, List.singleton_append, List.cons_append, List.nil_append]
        rw [this]; exact u3
    -- behind the task: its scope
    have inn : ∀ {s si oi : Nat} {y : Sc} {zz : Tk} {g2 : Hp} {z m : Nat}, t.scs[s]? = some y → t.tks[y.ow]? = some zz → some s ∈ zz.opn → x.inn = some s → ρ (.sc s) = some si → ρ (.tk y.ow) = some oi → m ≤ 72000 → (acc1 ++ [((1 : Int), ((k + 1 : Nat) : Int))]).length = m + 1 →
        Acc h b8 g2 (.slice (some ⟨z, 0, none⟩) (m + 1) 2) (acc1 ++ [(1, ((k + 1 : Nat) : Int))]) →
        ∃ g3 g4 oa za, Run Try.prog 40 [ptr si] g2 (.agg #[.int .i64 (lkK (some s)), .int .i64 (lkN (some s))]) g3 ∧ g3[z]? = some (.cells (prL (acc1 ++ [(1, ((k + 1 : Nat) : Int))])) true) ∧ b8 + 1 ≤ z ∧ g3[b8]? = some (.cells [.slice (some ⟨z, 0, none⟩) (m + 1) 2] true) ∧
          g4 = ((((g3 ++ [AObj.cells (prC (lkP (some s))) true]).set z .dead) ++ [AObj.cells (prL (acc1 ++ [(1, ((k + 1 : Nat) : Int))]) ++ prC (lkP (some s))) true]).set b8 (.cells [.slice (some ⟨g3.length + 1, 0, none⟩) (m + 1 + 1) 2] true)) ∧
          Acc h b8 g4 (.slice (some ⟨g3.length + 1, 0, none⟩) (m + 1 + 1) 2) (acc1 ++ [(1, ((k + 1 : Nat) : Int))] ++ [lkP (some s)]) ∧ slv (ρ (.op y.ow)) zz.opn.length = .slice oa zz.opn.length za ∧
          Run Try.prog 44 [.slice oa zz.opn.length za, ptr si] g4 (.int .i64 (ixO (some s) zz.opn : Nat)) g4 := by
      intro s si oi y zz g2 z m hy hz hin hi hsi hoi hm hl A2
      have hsl := ok.inn k x s hx hi
      obtain ⟨g3, r1, K3⟩ := link_run (a.grow A2.keep) (some s) (fun s' e => by cases e; exact hsl)
      simp only [inP, hsi, pvv] at r1
      have A3 := A2.grow K3
      rcases A3.cases with ⟨e, _⟩ | ⟨_, o', eo, ho, hlo⟩
      · rw [e] at hl; simp at hl
      rw [hl] at eo
      cases eo
      rw [← hl] at A3
      obtain ⟨A4, _⟩ := A3.appS ho hlo (lkP (some s))
      rw [hl] at A3 A4
      have lzz := ok.len _ zz hz
      obtain ⟨oa, za, ev, _⟩ := slv_ex (ρ (.op y.ow)) zz.opn.length (fun e => by rw [a.sh.op _ zz hz e]; rfl)
      exact ⟨g3, _, oa, za, r1, ho, hlo, A3.box, rfl, A4, ev, indexS_run (a.grow A4.keep) hz hsi (fun s' hs' => ok.opn _ zz s' hz hs') (by omega) hin ev⟩
    rcases A1.cases with ⟨e0, rfl⟩ | ⟨hne, w, rfl, hw, hlo⟩
    · rw [e0] at A1 main inn
      have hS := A1.appN (1, ((k + 1 : Nat) : Int))
      obtain ⟨A2, _⟩ := hS
      have D1 : (Asm.appNil (.push (.is g1) (.cells [.int .i64 1, .int .i64 ((k + 1 : Nat) : Int)] true)) g1.length 0 1 0 2 16 (prC (1, ((k + 1 : Nat) : Int))) (g1.length + 1)).holds Try.prog := a_appGN rfl rfl (by omega) (get_new _ _) (push_len _ _)
      have D2 : (Asm.st (.push (.push (.is g1) (.cells [.int .i64 1, .int .i64 ((k + 1 : Nat) : Int)] true)) (.cells (prC (1, ((k + 1 : Nat) : Int))) true)) b8 0 [.slice (some ⟨g1.length + 1, 0, none⟩) 1 2] [.slice (some ⟨g1.length + 1, 0, none⟩) 1 2]).holds Try.prog := a_st (get_push (get_push A1.box)) (by simp) rfl
      obtain ⟨g2, hg2⟩ : ∃ g2, g2 = ((g1 ++ [AObj.cells (prC (1, ((k + 1 : Nat) : Int))) true]) ++ [AObj.cells (prC (1, ((k + 1 : Nat) : Int))) true]).set b8 (.cells [.slice (some ⟨g1.length + 1, 0, none⟩) 1 2] true) := ⟨_, rfl⟩
      rw [← hg2] at A2
      have ag2 := a.grow A2.keep
      refine main g2 (g1.length + 1) 0 A2 (fun hi => ?_) (fun s y zz hi hy hz hov hin hen hlt => ?_)
      · obtain ⟨E2, q1, q2⟩ := pvC 0 e1 (r38p.ch_pon_root ki b8 g1.length (g1.length + 1) 0 0 0 0 0 0 0 0 none ((k + 1 : Nat) : Int) 0 0 (Int.ofNat top) 0 [] (prC (1, ((k + 1 : Nat) : Int))) [.slice (some ⟨g1.length + 1, 0, none⟩) 1 2] [] [] [] g1 g1 g1)
          ⟨stat19 1 (by simp), S1, S2, rfl, D1, D2, ag2.ld1 (by rw [hg2]; rfl) hki (by rw [cont_tk hx, tkC, hi]; rfl), a_ld1 (by rw [← show g2[b8]? = _ from A2.box, hg2]; rfl) rfl, trivial⟩
        exact ⟨E2, .trans (.add (.add (.nil _) rfl) rfl) q1, by rw [hg2]; exact q2⟩
      · have hsl := ok.inn k x s hx hi
        obtain ⟨si, hsi⟩ := a.sh.sc s hsl
        obtain ⟨oi, hoi⟩ := a.sh.tk _ (ok.ow s y hy)
        obtain ⟨g3, g4, oa, za, r1, i1, i2, i3, i4, A4, i5, r2⟩ := inn (m := 0) hy hz hin hi hsi hoi (by omega) rfl A2
        have ag4 := a.grow A4.keep
        have vr : veqR (.slice (some ⟨g1.length + 1, 0, none⟩) (0 + 1) 2) = true := rfl
        have T1 : ∀ (s' : SH), s'.den = g2 → (Asm.ld1 s' ki 1 (ptr si)).holds Try.prog := fun s' e => by
          have := ag2.ld1 (P := Try.prog) (s := s') e hki (d := 1) (v := inP ρ x.inn) (by rw [cont_tk hx]; rfl)
          rw [hi] at this; simp only [inP, hsi, pvv] at this; exact this
        have T4 : ∀ (s' : SH), s'.den = g4 → (Asm.ld1 s' ki 1 (ptr si)).holds Try.prog := fun s' e => by
          have := ag4.ld1 (P := Try.prog) (s := s') e hki (d := 1) (v := inP ρ x.inn) (by rw [cont_tk hx]; rfl)
          rw [hi] at this; simp only [inP, hsi, pvv] at this; exact this
        have T5 : ∀ (s' : SH), s'.den = g4 → (Asm.ld1 s' si 1 (ptr oi)).holds Try.prog := fun s' e => by
          have := ag4.ld1 (P := Try.prog) (s := s') e hsi (d := 1) (v := pvv (ρ (.tk y.ow))) (by rw [cont_sc hy]; rfl)
          rwa [hoi] at this
        have T6 : ∀ (s' : SH), s'.den = g4 → (Asm.ld1 s' oi 2 (.slice oa zz.opn.length za)).holds Try.prog := fun s' e => by
          rw [← i5]; exact ag4.ld1 e hoi (by rw [cont_tk hz]; rfl)
        have T0 : ∀ (s' : SH), s'.den = g2 → (Asm.again s' 33 (.pointer (some ⟨b8, 0, none⟩)) (.slice (some ⟨g1.length + 1, 0, none⟩) (0 + 1) 2)).holds Try.prog := fun s' e => a_again1 agg33 (by rw [e]; exact A2.box) rfl vr
        have lo := A2.lo
        obtain ⟨E2, q1, q2⟩ := pvC 0 e1 (r38p.ch_pon_in ki b8 g1.length (g1.length + 1) 0 0 g3.length (g3.length + 1) si oi zz.opn.length za oa ((k + 1 : Nat) : Int) (lkK (some s)) (lkN (some s)) (Int.ofNat top) (ixO (some s) zz.opn : Nat) [] (prC (1, ((k + 1 : Nat) : Int))) [.slice (some ⟨g1.length + 1, 0, none⟩) 1 2] (prL ([] ++ [(1, ((k + 1 : Nat) : Int))]) ++ prC (lkP (some s))) (prC (lkP (some s))) [.slice (some ⟨g3.length + 1, 0, none⟩) (0 + 1 + 1) 2] g1 g3 g4)
          ⟨stat19 1 (by simp), S1, S2, rfl, D1, D2, T1 _ (by rw [hg2]; rfl), stat19 2 (by simp), T0 _ (by rw [hg2]; rfl), T0 _ (by rw [hg2]; rfl), a_again1 agg33 i3 rfl vr, a_ld1 (by rw [← show g2[b8]? = _ from A2.box, hg2]; rfl) rfl, T1 _ (by rw [hg2]; rfl), by rw [hg2] at r1; exact r1, rfl,
            a_appGS rfl rfl (by omega) (by omega) (prL_len _) (get_push i1) (get_new _ _) (push_len _ _), a_st (get_push (get_set_ne (get_push i3) (by omega))) (by simp) rfl, stat19 3 (by simp), T4 _ (by rw [i4]; rfl), T5 _ (by rw [i4]; rfl), T6 _ (by rw [i4]; rfl), T4 _ (by rw [i4]; rfl), by rw [i4] at r2 ⊢; exact r2, T4 _ rfl, T5 _ rfl, trivial⟩
        exact ⟨E2, g4, _, oi, hoi, .trans (.add (.add (.add (.nil _) rfl) rfl) rfl) q1, q2, A4⟩
    · have hS := A1.appS hw hlo (1, ((k + 1 : Nat) : Int))
      obtain ⟨A2, _⟩ := hS
      have lo := A1.lo
      have D1 : (Asm.app (.push (.is g1) (.cells [.int .i64 1, .int .i64 ((k + 1 : Nat) : Int)] true)) w 0 acc1.length g1.length 0 1 0 2 16 (prL acc1 ++ prC (1, ((k + 1 : Nat) : Int))) (prC (1, ((k + 1 : Nat) : Int))) (g1.length + 1)).holds Try.prog := a_appGS rfl rfl (by omega) (by omega) (prL_len _) (get_push hw) (get_new _ _) (push_len _ _)
      have D2 : (Asm.st (.push (.set (.push (.is g1) (.cells [.int .i64 1, .int .i64 ((k + 1 : Nat) : Int)] true)) w .dead) (.cells (prL acc1 ++ prC (1, ((k + 1 : Nat) : Int))) true)) b8 0 [.slice (some ⟨g1.length + 1, 0, none⟩) (acc1.length + 1) 2] [.slice (some ⟨g1.length + 1, 0, none⟩) (acc1.length + 1) 2]).holds Try.prog := a_st (get_push (get_set_ne (get_push A1.box) (by omega))) (by simp) rfl
      obtain ⟨g2, hg2⟩ : ∃ g2, g2 = ((((g1 ++ [AObj.cells (prC (1, ((k + 1 : Nat) : Int))) true]).set w .dead) ++ [AObj.cells (prL acc1 ++ prC (1, ((k + 1 : Nat) : Int))) true]).set b8 (.cells [.slice (some ⟨g1.length + 1, 0, none⟩) (acc1.length + 1) 2] true)) := ⟨_, rfl⟩
      rw [← hg2] at A2
      have ag2 := a.grow A2.keep
      refine main g2 (g1.length + 1) acc1.length A2 (fun hi => ?_) (fun s y zz hi hy hz hov hin hen hlt => ?_)
      · obtain ⟨E2, q1, q2⟩ := pvC 0 e1 (r38p.ch_pos_root ki b8 g1.length (g1.length + 1) w acc1.length 0 0 0 0 0 0 none ((k + 1 : Nat) : Int) 0 0 (Int.ofNat top) 0 (prL acc1 ++ prC (1, ((k + 1 : Nat) : Int))) (prC (1, ((k + 1 : Nat) : Int))) [.slice (some ⟨g1.length + 1, 0, none⟩) (acc1.length + 1) 2] [] [] [] g1 g1 g1)
          ⟨stat19 1 (by simp), S1, S2, rfl, D1, D2, ag2.ld1 (by rw [hg2]; rfl) hki (by rw [cont_tk hx, tkC, hi]; rfl), a_ld1 (by rw [← show g2[b8]? = _ from A2.box, hg2]; rfl) rfl, trivial⟩
        exact ⟨E2, .trans (.add (.add (.nil _) rfl) rfl) q1, by rw [hg2]; exact q2⟩
      · have hsl := ok.inn k x s hx hi
        obtain ⟨si, hsi⟩ := a.sh.sc s hsl
        obtain ⟨oi, hoi⟩ := a.sh.tk _ (ok.ow s y hy)
        obtain ⟨g3, g4, oa, za, r1, i1, i2, i3, i4, A4, i5, r2⟩ := inn (m := acc1.length) hy hz hin hi hsi hoi (by omega) (by simp) A2
        have ag4 := a.grow A4.keep
        have vr : veqR (.slice (some ⟨g1.length + 1, 0, none⟩) (acc1.length + 1) 2) = true := rfl
        have T1 : ∀ (s' : SH), s'.den = g2 → (Asm.ld1 s' ki 1 (ptr si)).holds Try.prog := fun s' e => by
          have := ag2.ld1 (P := Try.prog) (s := s') e hki (d := 1) (v := inP ρ x.inn) (by rw [cont_tk hx]; rfl)
          rw [hi] at this; simp only [inP, hsi, pvv] at this; exact this
        have T4 : ∀ (s' : SH), s'.den = g4 → (Asm.ld1 s' ki 1 (ptr si)).holds Try.prog := fun s' e => by
          have := ag4.ld1 (P := Try.prog) (s := s') e hki (d := 1) (v := inP ρ x.inn) (by rw [cont_tk hx]; rfl)
          rw [hi] at this; simp only [inP, hsi, pvv] at this; exact this
        have T5 : ∀ (s' : SH), s'.den = g4 → (Asm.ld1 s' si 1 (ptr oi)).holds Try.prog := fun s' e => by
          have := ag4.ld1 (P := Try.prog) (s := s') e hsi (d := 1) (v := pvv (ρ (.tk y.ow))) (by rw [cont_sc hy]; rfl)
          rwa [hoi] at this
        have T6 : ∀ (s' : SH), s'.den = g4 → (Asm.ld1 s' oi 2 (.slice oa zz.opn.length za)).holds Try.prog := fun s' e => by
          rw [← i5]; exact ag4.ld1 e hoi (by rw [cont_tk hz]; rfl)
        have T0 : ∀ (s' : SH), s'.den = g2 → (Asm.again s' 33 (.pointer (some ⟨b8, 0, none⟩)) (.slice (some ⟨g1.length + 1, 0, none⟩) (acc1.length + 1) 2)).holds Try.prog := fun s' e => a_again1 agg33 (by rw [e]; exact A2.box) rfl vr
        obtain ⟨E2, q1, q2⟩ := pvC 0 e1 (r38p.ch_pos_in ki b8 g1.length (g1.length + 1) w acc1.length g3.length (g3.length + 1) si oi zz.opn.length za oa ((k + 1 : Nat) : Int) (lkK (some s)) (lkN (some s)) (Int.ofNat top) (ixO (some s) zz.opn : Nat) (prL acc1 ++ prC (1, ((k + 1 : Nat) : Int))) (prC (1, ((k + 1 : Nat) : Int))) [.slice (some ⟨g1.length + 1, 0, none⟩) (acc1.length + 1) 2] (prL (acc1 ++ [(1, ((k + 1 : Nat) : Int))]) ++ prC (lkP (some s))) (prC (lkP (some s))) [.slice (some ⟨g3.length + 1, 0, none⟩) (acc1.length + 1 + 1) 2] g1 g3 g4)
          ⟨stat19 1 (by simp), S1, S2, rfl, D1, D2, T1 _ (by rw [hg2]; rfl), stat19 2 (by simp), T0 _ (by rw [hg2]; rfl), T0 _ (by rw [hg2]; rfl), a_again1 agg33 i3 rfl vr, a_ld1 (by rw [← show g2[b8]? = _ from A2.box, hg2]; rfl) rfl, T1 _ (by rw [hg2]; rfl), by rw [hg2] at r1; exact r1, rfl,
            a_appGS rfl rfl (by omega) (by omega) (by rw [prL_len]; simp) (get_push i1) (get_new _ _) (push_len _ _), a_st (get_push (get_set_ne (get_push i3) (by omega))) (by simp) rfl, stat19 3 (by simp), T4 _ (by rw [i4]; rfl), T5 _ (by rw [i4]; rfl), T6 _ (by rw [i4]; rfl), T4 _ (by rw [i4]; rfl), by rw [i4] at r2 ⊢; exact r2, T4 _ rfl, T5 _ rfl, trivial⟩
        exact ⟨E2, g4, _, oi, hoi, .trans (.add (.add (.add (.nil _) rfl) rfl) rfl) q1, q2, A4⟩

theorem chain_run (a : TAt h ρ t) (ok : TOk c t) (hc : c ≤ 1000) (W : WI none t) (hr : ρ .root = some r) (n : Int) :
    ∃ v h', Run Try.prog 19 [ptr r, .int .i64 n] h (.tuple #[v, .int .i64 (t.chain n).2]) h' ∧ Keep (fun _ => False) h h' ∧ SlV h' h.length v (t.chain n).1.length 2 (prL (t.chain n).1) := by
  have R := runs_run a ok hr n
  rcases hq : t.runs n with ⟨k | k, e⟩
  · have e6 := runs_none hq
    subst e6
    rw [hq] at R
    have e' : t.chain n = ([], 6) := by simp only [TS.chain, hq]
    rw [e']
    obtain ⟨E2, q1, q2⟩ := pvC 0 (EnvLe.refl _) (r38p.ch_err r 0 0 0 0 none n 6 h h) ⟨R, neT (by omega), trivial⟩
    exact ⟨_, h, Run.code Try.func19 body19 (.inr rfl) (CRunStop q2 (by simp)) (evResults_two rfl (q1 4 _ rfl) (q1 5 _ rfl)), Keep.refl _ _, .inl ⟨rfl, rfl, rfl⟩⟩
  · obtain ⟨rfl, hn, x, hx, he⟩ := runs_some hq
    have n64 := ok.n64
    have hk := get_lt' hx
    obtain ⟨ki, hki⟩ := a.sh.tk k hk
    rw [hq] at R
    simp only [tkP, hki, pvv] at R
    obtain ⟨oa, za, ev, _⟩ := slv_ex (ρ (.op k)) x.opn.length (fun e => by rw [a.sh.op k x hx e]; rfl)
    have Lo : (Asm.ld1 (.push (.is h) (.cells [.slice none 0 0] true)) ki 2 (.slice oa x.opn.length za)).holds Try.prog := by
      rw [← ev]; exact (a.push _).ld1 rfl hki (by rw [cont_tk hx]; rfl)
    obtain ⟨E2, q1, q2⟩ := pvC 0 (EnvLe.refl _) (r38p.ch_ok r ki h.length x.opn.length za oa n 0 h h) ⟨R, neF rfl, rfl, Lo, trivial⟩
    have A0 : Acc h h.length (h ++ [AObj.cells [.slice none 0 0] true]) (.slice none 0 0) [] := ⟨(Keep.refl _ _).pushN _, Nat.le_refl _, get_new _ _, .inl ⟨rfl, rfl, rfl⟩⟩
    obtain ⟨E3, g3, v3, w1, w2, w3⟩ := chain_loop a ok hc W (k + 1) k x ki x.opn.length E2 _ _ [] (by omega) hx he hki (Nat.le_refl _) (by simp; omega) A0 (.trans (.add (.add (.add (.nil _) rfl) rfl) rfl) q1)
    have e' : t.chain n = (t.chainG (k + 1) k x.opn.length, 0) := by simp only [TS.chain, hq, hx]
    rw [e']
    rw [List.nil_append] at w3
    exact ⟨v3, g3, Run.code Try.func19 body19 (.inr rfl) (CRunChain q2 (CRun.blockR 0 (.of_loop w2))) (evResults_two rfl (w1 4 _ rfl) (w1 5 _ rfl)), w3.keep, w3.sl.mono (by omega)⟩
end

end Go.Proofs.Ytahomnlkkafbjaa.tr

namespace Go.Proofs.Ytahomnlkkafbjaa.tr
open Go Go.Ev
set_option linter.unusedVariables false
set_option linter.constructorNameAsVariable false

/-! ### What is below a scope: the plain law -/

/-- The scopes of a task's open links are in order, and behind the task's own. -/
structure WJ (t : TS) : Prop where
  inc : ∀ (k : Nat) x, t.tks[k]? = some x → (x.opn.filterMap id).Pairwise (· < ·)
  own : ∀ (k : Nat) x s s', t.tks[k]? = some x → x.inn = some s → some s' ∈ x.opn → s < s'

section
variable {t : TS} {c k : Nat}
theorem WJ.upT (J : WJ t) {f : Tk → Tk} (h1 : ∀ x, (f x).inn = x.inn) (h2 : ∀ x, t.tks[k]? = some x → ((f x).opn.filterMap id).Pairwise (· < ·)) (h3 : ∀ x s s', t.tks[k]? = some x → x.inn = some s → some s' ∈ (f x).opn → s < s') : WJ (t.upT k f) := by
  refine ⟨fun j z hz => ?_, fun j z s s' hz hi hs => ?_⟩
  · obtain ⟨w, hw, ⟨rfl, rfl⟩ | ⟨_, rfl⟩⟩ := upT_inv hz
    · exact h2 w hw
    · exact J.inc j z hw
  · obtain ⟨w, hw, ⟨rfl, rfl⟩ | ⟨_, rfl⟩⟩ := upT_inv hz
    · exact h3 w s s' hw (by rw [← h1]; exact hi) hs
    · exact J.own j z s s' hw hi hs
theorem WJ.irrT (J : WJ t) {f : Tk → Tk} (h1 : ∀ x, (f x).inn = x.inn) (h2 : ∀ x, (f x).opn = x.opn) : WJ (t.upT k f) :=
  J.upT h1 (fun x hx => by rw [h2]; exact J.inc k x hx) fun x s s' hx hi hs => J.own k x s s' hx hi (by rw [← h2]; exact hs)
theorem WJ.irrS (J : WJ t) {f : Sc → Sc} : WJ (t.upS k f) := ⟨J.inc, J.own⟩
theorem WJ.newT (J : WJ t) (inn : Option Nat) : WJ (t.newT inn) := by
  refine ⟨fun j z hz => ?_, fun j z s s' hz hi hs => ?_⟩
  · rcases newT_get hz with hz | ⟨_, rfl⟩
    · exact J.inc j z hz
    · exact .nil
  · rcases newT_get hz with hz | ⟨_, rfl⟩
    · exact J.own j z s s' hz hi hs
    · cases hs
theorem WJ.add (J : WJ t) (inn : Option Nat) : WJ (t.add inn) := by
  cases inn with
  | none => exact J.newT none
  | some s => exact ((J.newT (some s)).irrS).irrS
theorem WJ.dropT (J : WJ t) {f : Tk → Tk} (h1 : ∀ x, (f x).inn = x.inn) (h2 : ∀ x, (f x).opn = x.opn.dropLast) : WJ (t.upT k f) :=
  J.upT h1 (fun x hx => by rw [h2]; exact (J.inc k x hx).sublist ((List.dropLast_sublist _).filterMap _)) fun x s s' hx hi hs => J.own k x s s' hx hi (List.dropLast_subset _ (by rw [← h2]; exact hs))
theorem WJ.blame (J : WJ t) (s : Nat) (fk : Int) (ft : ByteArray) : WJ (t.blame s fk ft).1 := by
  unfold TS.blame
  split
  · split
    · exact J.irrS
    · exact J
  · exact J
theorem WJ.fin (J : WJ t) (s : Nat) : WJ (t.fin s).1 := by
  unfold TS.fin
  split
  · exact J
  · split
    · exact J
    · split
      · exact (((J.irrS (k := s) (f := fun y => { y with ov := true })).dropT (f := fun x => { x with opn := x.opn.dropLast }) (fun _ => rfl) fun _ => rfl).irrT (f := fun x => { x with lv := false }) (fun _ => rfl) fun _ => rfl).irrT (f := fun x => { x with fk := 0, ft := ⟨#[]⟩ }) (fun _ => rfl) fun _ => rfl
      · exact J
theorem WJ.run (J : WJ t) (ok : TOk c t) (o : OpV) : WJ (t.run o).1 := by
  unfold TS.run
  split
  · unfold TS.open
    split
    · exact J
    · rename_i k e hq
      split
      · exact J
      · obtain ⟨_, _, x, hx, _⟩ := acts_some hq
        refine WJ.upT (t := t.newS k o.y) ⟨J.inc, J.own⟩ (fun _ => rfl) (fun z hz => ?_) fun z s s' hz hi hs => ?_
        · simp only [List.filterMap_append]
          rw [List.pairwise_append]
          refine ⟨J.inc k z hz, by simp, fun a ha b hb => ?_⟩
          simp at hb
          subst hb
          obtain ⟨v, hv, hv2⟩ := List.mem_filterMap.1 ha
          simp only [id] at hv2
          subst hv2
          exact ok.opn k z a hz hv
        · rcases List.mem_append.1 hs with hs | hs
          · exact J.own k z s s' hz hi hs
          · simp at hs
            subst hs
            exact ok.inn k z s hz hi
  split
  · unfold TS.spawn
    split
    · exact J
    · split
      · exact J
      · split
        · exact J
        · split
          · exact J
          · rename_i s' _ _; exact J.add (some s')
  split
  · unfold TS.end
    split
    · exact J
    · rename_i k e hq
      have J1 : WJ (t.end1 k o.fk o.ft) := (J.irrT (f := fun x => { x with en := true }) (fun _ => rfl) fun _ => rfl).irrT (f := fun x => { x with fk := o.fk, ft := o.ft }) (fun _ => rfl) fun _ => rfl
      split
      · exact J
      · split
        · exact J
        · split
          · exact J
          · split
            · exact J1
            · split
              · exact J
              · refine WJ.fin ?_ _
                unfold TS.end3
                split
                · exact J1.irrS
                · exact WJ.blame J1.irrS _ _ _
  split
  · unfold TS.leave
    split
    · exact J
    · split
      · exact J
      · split
        · exact J
        · split
          · split
            · refine WJ.fin ?_ _
              exact ((J.blame _ _ _).irrT (f := fun x => { x with lv := true }) (fun _ => rfl) fun _ => rfl).irrT (f := fun x => { x with fk := o.fk, ft := o.ft }) (fun _ => rfl) fun _ => rfl
            · exact J
          · exact J
  split
  · unfold TS.shield
    split
    · exact J
    · rename_i k e hq
      split
      · split
        · exact J
        · refine J.upT (fun _ => rfl) (fun z hz => ?_) fun z s s' hz hi hs => ?_
          · simp only [List.filterMap_append, List.filterMap_cons, List.filterMap_nil, id, List.append_nil]
            exact J.inc k z hz
          · simp at hs; exact J.own k z s s' hz hi hs
      · exact J
  split
  · unfold TS.unveil
    split
    · exact J
    · split
      · split
        · exact J.dropT (fun _ => rfl) fun _ => rfl
        · exact J
      · exact J
  split
  · unfold TS.fail
    split
    · exact J
    · split
      · exact J
      · split
        · exact J
        · split
          · exact J.blame _ _ _
          · exact J
  split
  · unfold TS.root
    split
    · exact J
    · exact J.add none
  · exact J
theorem WJ.runL : ∀ {l : List OpV} {t : TS} {c : Nat}, WJ t → TOk c t → WJ (t.runL l)
  | [], t, c, J, ok => J
  | o :: l, t, c, J, ok => WJ.runL (l := l) (J.run ok o) (ok.run (o := o))
theorem WJ.roots (n : Nat) : WJ (TS.roots n) := by
  have g : ∀ (k : Nat) x, (TS.roots n).tks[k]? = some x → x = Tk0 none := fun k x hx => List.eq_of_mem_replicate (List.mem_of_getElem? hx)
  refine ⟨fun k x hx => by rw [g k x hx]; exact .nil, fun k x s s' hx hi => by rw [g k x hx] at hi; cases hi⟩

/-! ### Scopes above scopes -/

theorem mem_lkP {v : Option Nat} {l : List (Option Nat)} : (lkP v ∈ l.map lkP) ↔ v ∈ l := by
  rw [List.mem_map]
  exact ⟨fun ⟨w, h1, h2⟩ => by rw [← lkP_inj h2]; exact h1, fun h => ⟨v, h, rfl⟩⟩

def outerO : List (Option Nat) → Option Nat
  | [] => none
  | some s :: _ => some s
  | none :: l => outerO l
def lastS (l : List (Option Nat)) : Option Nat := (l.filterMap id).getLast?

def Par (t : TS) (s p : Nat) : Prop := ∃ y z, t.scs[s]? = some y ∧ t.tks[y.ow]? = some z ∧ some s ∈ z.opn ∧ (lastS (z.opn.take (ixO (some s) z.opn)) = some p ∨ (lastS (z.opn.take (ixO (some s) z.opn)) = none ∧ z.inn = some p))
inductive Abv (t : TS) : Nat → Nat → Prop
  | refl (s : Nat) : Abv t s s
  | step {s s0 p : Nat} : Par t s0 p → Abv t s p → Abv t s s0

theorem ixO_split {v : Option Nat} : ∀ {l : List (Option Nat)}, v ∈ l → l = l.take (ixO v l) ++ v :: l.drop (ixO v l + 1)
  | x :: l, h => by
    simp only [ixO]
    split
    · rename_i e; subst e; simp
    · rename_i c
      rcases List.mem_cons.1 h with h | h
      · exact absurd h.symm c
      · have := ixO_split h
        simp only [List.take_succ_cons, List.drop_succ_cons, List.cons_append]
        rw [← this]
theorem ixO_app {v : Option Nat} : ∀ {l m : List (Option Nat)}, v ∉ l → ixO v (l ++ v :: m) = l.length
  | [], m, _ => by simp [ixO]
  | x :: l, m, h => by
    simp only [List.mem_cons, not_or] at h
    simp only [List.cons_append, ixO, if_neg (Ne.symm h.1), ixO_app h.2, List.length_cons]
theorem lastS_mem {l : List (Option Nat)} {p : Nat} (h : lastS l = some p) : some p ∈ l := by
  have := List.mem_of_getLast? h
  obtain ⟨v, hv, e⟩ := List.mem_filterMap.1 this
  simp only [id] at e
  subst e; exact hv
theorem lastS_none {l : List (Option Nat)} (h : lastS l = none) : ∀ s : Nat, some s ∉ l := fun s hs => by
  rw [lastS, List.getLast?_eq_none_iff] at h
  have : s ∈ l.filterMap id := List.mem_filterMap.2 ⟨some s, hs, rfl⟩
  rw [h] at this; cases this
theorem outerO_some : ∀ {l : List (Option Nat)} {s : Nat}, outerO l = some s → ∃ a b, l = a ++ some s :: b ∧ ∀ s' : Nat, some s' ∉ a
  | some s' :: l, s, h => by simp [outerO] at h; subst h; exact ⟨[], l, rfl, fun s' h => by cases h⟩
  | none :: l, s, h => by
    obtain ⟨a, b, h1, h2⟩ := outerO_some (l := l) h
    exact ⟨none :: a, b, by rw [h1]; rfl, fun s' hs => by rcases List.mem_cons.1 hs with h | h; cases h; exact h2 s' h⟩
theorem outerO_of {a b : List (Option Nat)} {s : Nat} (h : ∀ s' : Nat, some s' ∉ a) : outerO (a ++ some s :: b) = some s := by
  induction a with
  | nil => rfl
  | cons x a ih =>
    cases x with
    | none => exact ih fun s' hs => h s' (List.mem_cons_of_mem _ hs)
    | some s' => exact absurd (List.mem_cons_self ..) (h s')
theorem nd_parts {l a b : List (Option Nat)} {s : Nat} (h : l = a ++ some s :: b) (hn : (l.filterMap id).Nodup) : some s ∉ a ∧ some s ∉ b := by
  subst h
  simp only [List.filterMap_append, List.filterMap_cons, id] at hn
  rw [List.nodup_append, List.nodup_cons] at hn
  refine ⟨fun hs => hn.2.2 s (List.mem_filterMap.2 ⟨some s, hs, rfl⟩) s (List.mem_cons_self ..) rfl, fun hs => hn.2.1.1 (List.mem_filterMap.2 ⟨some s, hs, rfl⟩)⟩

variable {s p : Nat}
theorem Par.lt (J : WJ t) (W : WI none t) (h : Par t s p) : p < s := by
  obtain ⟨y, z, hy, hz, hs, h | ⟨h, hi⟩⟩ := h
  · have hm := lastS_mem h
    have spl := ixO_split hs
    have inc := J.inc _ z hz
    rw [spl, List.filterMap_append, List.pairwise_append] at inc
    exact inc.2.2 p (List.mem_filterMap.2 ⟨some p, hm, rfl⟩) s (List.mem_filterMap.2 ⟨some s, List.mem_cons_self .., rfl⟩)
  · exact J.own _ z p s hz hi hs
theorem Par.fun {p' : Nat} (h : Par t s p) (h' : Par t s p') : p = p' := by
  obtain ⟨y, z, hy, hz, hs, h⟩ := h
  obtain ⟨y', z', hy', hz', hs', h'⟩ := h'
  rw [hy] at hy'; cases hy'
  rw [hz] at hz'; cases hz'
  rcases h with h | ⟨h, hi⟩ <;> rcases h' with h' | ⟨h', hi'⟩
  · rw [h] at h'; exact Option.some.inj h'
  · rw [h] at h'; cases h'
  · rw [h] at h'; cases h'
  · rw [hi] at hi'; exact Option.some.inj hi'
theorem Abv.le (J : WJ t) (W : WI none t) {s0 : Nat} (h : Abv t s s0) : s ≤ s0 := by
  induction h with
  | refl => exact Nat.le_refl _
  | step h1 _ ih => have := h1.lt J W; omega
theorem Abv.inv {s0 : Nat} (h : Abv t s s0) : s = s0 ∨ ∃ p, Par t s0 p ∧ Abv t s p := by
  cases h with
  | refl => exact .inl rfl
  | step h1 h2 => exact .inr ⟨_, h1, h2⟩
theorem Abv.last {s0 : Nat} (h : Abv t s s0) : s = s0 ∨ ∃ s', Par t s' s ∧ Abv t s' s0 := by
  induction h with
  | refl => exact .inl rfl
  | @step s0 p h1 h2 ih =>
    rcases ih with rfl | ⟨s', h3, h4⟩
    · exact .inr ⟨s0, h1, .refl _⟩
    · exact .inr ⟨s', h3, .step h1 h4⟩
theorem Abv.push {s0 s' : Nat} (h : Abv t s' s0) (hp : Par t s' s) : Abv t s s0 := by
  induction h with
  | refl => exact .step hp (.refl _)
  | step h1 _ ih => exact .step h1 ih
theorem Abv.uniq (J : WJ t) (W : WI none t) {s0 s1 s2 : Nat} (p1 : Par t s1 s) (p2 : Par t s2 s) (h1 : Abv t s1 s0) (h2 : Abv t s2 s0) : s1 = s2 := by
  induction h1 with
  | refl =>
    rcases h2.inv with e | ⟨p, hp, h3⟩
    · exact e.symm
    · have := hp.fun p1
      subst this
      have := h3.le J W
      have := p2.lt J W
      omega
  | @step s0 p hp h3 ih =>
    rcases h2.inv with e | ⟨p', hp', h4⟩
    · subst e
      have := hp.fun p2
      subst this
      have := h3.le J W
      have := p1.lt J W
      omega
    · have := hp.fun hp'
      subst this
      exact ih h4

/-! ### The way up, and what is below -/

/-- The way up behind a task of scope s0. -/
theorem chain_abv (ok : TOk c t) (W : WI none t) (J : WJ t) : ∀ (s0 : Nat) (y : Sc) (z : Tk) (f : Nat), t.scs[s0]? = some y → t.tks[y.ow]? = some z → some s0 ∈ z.opn → y.ow < f → z.en = false →
    ∀ s : Nat, (lkP (some s) ∈ lkP (some s0) :: t.chainG f y.ow (ixO (some s0) z.opn)) ↔ Abv t s s0 := by
  intro s0
  induction s0 using Nat.strongRecOn with
  | _ s0 ih =>
    intro y z f hy hz hs hf hen s
    obtain ⟨f, rfl⟩ : ∃ f', f = f' + 1 := ⟨f - 1, by omega⟩
    have n1 : lkP (some s) ≠ (1, ((y.ow + 1 : Nat) : Int)) := fun e => by simp [lkP, lkK] at e
    rw [TS.chainG]
    simp only [hz]
    have spl := ixO_split hs
    -- the scopes before it in the same list
    have memL : lkP (some s) ∈ (z.opn.take (ixO (some s0) z.opn)).reverse.map lkP ↔ some s ∈ z.opn.take (ixO (some s0) z.opn) := by
      rw [mem_lkP, List.mem_reverse]
    rw [List.mem_cons, List.mem_append, List.mem_append, List.mem_singleton, memL]
    have e0 : lkP (some s) = lkP (some s0) ↔ s = s0 := ⟨fun e => by have := lkP_inj e; simpa using this, fun e => by rw [e]⟩
    rw [e0]
    cases hl : lastS (z.opn.take (ixO (some s0) z.opn)) with
    | none =>
      have hno := lastS_none hl s
      have par : ∀ p, Par t s0 p ↔ z.inn = some p := fun p => by
        constructor
        · rintro ⟨y', z', hy', hz', _, h | ⟨_, h⟩⟩
          · rw [hy] at hy'; cases hy'; rw [hz] at hz'; cases hz'; rw [hl] at h; cases h
          · rw [hy] at hy'; cases hy'; rw [hz] at hz'; cases hz'; exact h
        · intro h; exact ⟨y, z, hy, hz, hs, .inr ⟨hl, h⟩⟩
      constructor
      · rintro (rfl | (h | h) | h)
        · exact .refl _
        · exact absurd h hno
        · exact absurd h n1
        · cases hi : z.inn with
          | none => rw [hi] at h; cases h
          | some s1 =>
            obtain ⟨y1, z1, hy1, hz1, _, hin1, hen1, hlt1⟩ := W.above ok hz hen hi
            have hp : Par t s0 s1 := (par s1).2 hi
            simp only [hi, hy1, hz1] at h
            exact .step hp ((ih s1 (hp.lt J W) y1 z1 f hy1 hz1 hin1 (by omega) hen1 s).1 h)
      · intro h
        rcases h.inv with e | ⟨p, hp, h3⟩
        · exact .inl e
        · have hi := (par p).1 hp
          obtain ⟨y1, z1, hy1, hz1, _, hin1, hen1, hlt1⟩ := W.above ok hz hen hi
          simp only [hi, hy1, hz1]
          exact .inr (.inr ((ih p (hp.lt J W) y1 z1 f hy1 hz1 hin1 (by omega) hen1 s).2 h3))
    | some p =>
      have hm := lastS_mem hl
      have hp : Par t s0 p := ⟨y, z, hy, hz, hs, .inl hl⟩
      have hpl := hp.lt J W
      have hpz : some p ∈ z.opn := List.mem_of_mem_take hm
      obtain ⟨yp, hyp⟩ : ∃ yp, t.scs[p]? = some yp := ⟨_, List.getElem?_eq_getElem (ok.opn _ z p hz hpz)⟩
      have how : yp.ow = y.ow := W.ow1 _ z p yp hz hpz hyp
      have ihp := ih p hpl yp z (f + 1) hyp (by rw [how]; exact hz) hpz (by omega) hen s
      rw [TS.chainG] at ihp
      simp only [how, hz] at ihp
      have memL' : lkP (some s) ∈ (z.opn.take (ixO (some p) z.opn)).reverse.map lkP ↔ some s ∈ z.opn.take (ixO (some p) z.opn) := by
        rw [mem_lkP, List.mem_reverse]
      have ep : lkP (some s) = lkP (some p) ↔ s = p := ⟨fun e => by have := lkP_inj e; simpa using this, fun e => by rw [e]⟩
      rw [List.mem_cons, List.mem_append, List.mem_append, List.mem_singleton, memL', ep] at ihp
      -- the prefix of s0 is that of p, p, and shields
      have key : some s ∈ z.opn.take (ixO (some s0) z.opn) ↔ (s = p ∨ some s ∈ z.opn.take (ixO (some p) z.opn)) := by
        obtain ⟨A, hA⟩ : ∃ A, A = z.opn.take (ixO (some s0) z.opn) := ⟨_, rfl⟩
        rw [← hA] at hm hl spl ⊢
        have splA := ixO_split hm
        have ndz := W.nd _ z hz
        have e1 : z.opn = A.take (ixO (some p) A) ++ some p :: (A.drop (ixO (some p) A + 1) ++ some s0 :: z.opn.drop (ixO (some s0) z.opn + 1)) := by
          conv => lhs; rw [spl, splA]
          simp
        have nd1 := nd_parts e1 ndz
        have e2 : ixO (some p) z.opn = (A.take (ixO (some p) A)).length := by
          conv => lhs; rw [e1]
          exact ixO_app nd1.1
        have e3 : z.opn.take (ixO (some p) z.opn) = A.take (ixO (some p) A) := by
          rw [e2]; conv => lhs; rw [e1]
          simp
        rw [e3]
        have tail : ∀ s' : Nat, some s' ∉ A.drop (ixO (some p) A + 1) := fun s' hs' => by
          rw [splA, lastS, List.filterMap_append, List.filterMap_cons] at hl
          simp only [id] at hl
          have hne : (A.drop (ixO (some p) A + 1)).filterMap id ≠ [] := fun e => by
            have : s' ∈ (A.drop (ixO (some p) A + 1)).filterMap id := List.mem_filterMap.2 ⟨some s', hs', rfl⟩
            rw [e] at this; cases this
          have e9 : ∀ (X B : List Nat), X ++ p :: B = (X ++ [p]) ++ B := fun X B => by simp
          rw [e9, List.getLast?_append, List.getLast?_eq_some_getLast hne] at hl
          simp only [Option.some_or, Option.some.injEq] at hl
          have hmem : some p ∈ A.drop (ixO (some p) A + 1) := by
            have := List.getLast_mem hne
            rw [hl] at this
            obtain ⟨v, hv, e⟩ := List.mem_filterMap.1 this
            simp only [id] at e; subst e; exact hv
          exact nd1.2 (List.mem_append_left _ hmem)
        constructor
        · intro h
          rw [splA] at h
          rcases List.mem_append.1 h with h | h
          · exact .inr h
          · rcases List.mem_cons.1 h with h | h
            · left; simpa using h
            · exact absurd h (tail s)
        · rintro (rfl | h)
          · exact hm
          · exact List.mem_of_mem_take h
      constructor
      · rintro (rfl | (h | h) | h)
        · exact .refl _
        · refine .step hp (ihp.1 ?_)
          rcases key.1 h with h | h
          · exact .inl h
          · exact .inr (.inl (.inl h))
        · exact absurd h n1
        · exact .step hp (ihp.1 (.inr (.inr h)))
      · intro h
        rcases h.inv with e | ⟨p', hp', h3⟩
        · exact .inl e
        · have := hp'.fun hp
          subst this
          rcases ihp.2 h3 with h | (h | h) | h
          · exact .inr (.inl (.inl (key.2 (.inl h))))
          · exact .inr (.inl (.inl (key.2 (.inr h))))
          · exact absurd h n1
          · exact .inr (.inr h)
end

end Go.Proofs.Ytahomnlkkafbjaa.tr

namespace Go.Proofs.Ytahomnlkkafbjaa.tr
open Go Go.Ev
set_option linter.unusedVariables false
set_option linter.constructorNameAsVariable false

/-! ### Below -/

/-- What is walked of one member. -/
def TS.below1 (t : TS) (rec : Nat → List Nat) (j : Nat) : List Nat := match t.tks[j]? with
  | none => []
  | some x => if x.en then [] else j :: match outerO x.opn with
    | none => []
    | some s' => rec s'
/-- The next scope of the same task. -/
def TS.next (t : TS) (s : Nat) : Option Nat := match t.scs[s]? with
  | none => none
  | some y => match t.tks[y.ow]? with
    | none => none
    | some z => if some s ∈ z.opn then outerO (z.opn.drop (ixO (some s) z.opn + 1)) else none
def TS.belowG (t : TS) : Nat → Nat → List Nat
  | 0, _ => []
  | f + 1, s => match t.scs[s]? with
    | none => []
    | some y => y.tks.flatMap (t.below1 (t.belowG f)) ++ match t.next s with
      | none => []
      | some s' => t.belowG f s'

section
variable {t : TS} {c s : Nat}

theorem first_par (W : WI none t) {s0 s' : Nat} {x : Tk} {k : Nat} (hx : t.tks[k]? = some x) (hi : x.inn = some s0) (ho : outerO x.opn = some s') (ok : TOk c t) : Par t s' s0 := by
  obtain ⟨a, b, h1, h2⟩ := outerO_some ho
  have hm : some s' ∈ x.opn := by rw [h1]; simp
  obtain ⟨y, hy⟩ : ∃ y, t.scs[s']? = some y := ⟨_, List.getElem?_eq_getElem (ok.opn k x s' hx hm)⟩
  have how := W.ow1 k x s' y hx hm hy
  refine ⟨y, x, hy, by rw [how]; exact hx, hm, .inr ⟨?_, hi⟩⟩
  have e : ixO (some s') x.opn = a.length := by rw [h1]; exact ixO_app (h2 s')
  rw [e, h1, List.take_left, lastS, List.getLast?_eq_none_iff]
  rw [List.filterMap_eq_nil_iff]
  intro v hv
  cases v with
  | none => rfl
  | some w => exact absurd hv (h2 w)
theorem next_par (W : WI none t) {s' : Nat} (h : t.next s = some s') (ok : TOk c t) : Par t s' s := by
  unfold TS.next at h
  cases hy : t.scs[s]? with
  | none => rw [hy] at h; cases h
  | some y =>
    rw [hy] at h
    simp only at h
    cases hz : t.tks[y.ow]? with
    | none => rw [hz] at h; cases h
    | some z =>
      rw [hz] at h
      simp only at h
      split at h
      · rename_i hm
        obtain ⟨a, b, h1, h2⟩ := outerO_some h
        have spl := ixO_split hm
        rw [h1] at spl
        have hm' : some s' ∈ z.opn := by rw [spl]; simp
        obtain ⟨y', hy'⟩ : ∃ y', t.scs[s']? = some y' := ⟨_, List.getElem?_eq_getElem (ok.opn _ z s' hz hm')⟩
        have how := W.ow1 _ z s' y' hz hm' hy'
        obtain ⟨A, hA⟩ : ∃ A, A = z.opn.take (ixO (some s) z.opn) := ⟨_, rfl⟩
        rw [← hA] at spl
        have e1 : z.opn = (A ++ some s :: a) ++ some s' :: b := by rw [List.append_assoc]; exact spl
        have nd1 := nd_parts e1 (W.nd _ z hz)
        have e : ixO (some s') z.opn = (A ++ some s :: a).length := by
          conv => lhs; rw [e1]
          exact ixO_app nd1.1
        refine ⟨y', z, hy', by rw [how]; exact hz, hm', .inl ?_⟩
        have e3 : z.opn.take (ixO (some s') z.opn) = A ++ some s :: a := by
          rw [e]; conv => lhs; rw [e1]
          exact List.take_left
        have na : a.filterMap id = [] := by
          rw [List.filterMap_eq_nil_iff]
          intro v hv
          cases v with
          | none => rfl
          | some w => exact absurd hv (h2 w)
        rw [e3, lastS, List.filterMap_append, List.filterMap_cons]
        simp only [id, na]
        simp
      · cases h
/-- A scope whose next above is s is walked from s. -/
theorem par_inv (ok : TOk c t) (W : WI none t) {s' : Nat} (h : Par t s' s) : t.next s = some s' ∨ ∃ (k : Nat) (x : Tk), t.tks[k]? = some x ∧ x.en = false ∧ x.inn = some s ∧ outerO x.opn = some s' := by
  obtain ⟨y, z, hy, hz, hs, h | ⟨h, hi⟩⟩ := h
  · left
    have hm := lastS_mem h
    have hms := List.mem_of_mem_take hm
    obtain ⟨A, hA⟩ : ∃ A, A = z.opn.take (ixO (some s') z.opn) := ⟨_, rfl⟩
    have spl := ixO_split hs
    rw [← hA] at h hm spl
    have splA := ixO_split hm
    have ndz := W.nd _ z hz
    have e1 : z.opn = A.take (ixO (some s) A) ++ some s :: (A.drop (ixO (some s) A + 1) ++ some s' :: z.opn.drop (ixO (some s') z.opn + 1)) := by
      conv => lhs; rw [spl, splA]
      simp
    have nd1 := nd_parts e1 ndz
    have e2 : ixO (some s) z.opn = (A.take (ixO (some s) A)).length := by
      conv => lhs; rw [e1]
      exact ixO_app nd1.1
    have e3 : z.opn.drop (ixO (some s) z.opn + 1) = A.drop (ixO (some s) A + 1) ++ some s' :: z.opn.drop (ixO (some s') z.opn + 1) := by
      rw [e2]; conv => lhs; rw [e1]
      rw [show (A.take (ixO (some s) A)).length + 1 = (A.take (ixO (some s) A)).length + 1 from rfl, List.drop_append, List.drop_of_length_le (by omega), List.nil_append, Nat.add_sub_cancel_left, List.drop_succ_cons, List.drop_zero]
    have tail : ∀ w : Nat, some w ∉ A.drop (ixO (some s) A + 1) := fun w hw => by
      rw [splA, lastS, List.filterMap_append, List.filterMap_cons] at h
      simp only [id] at h
      have hne : (A.drop (ixO (some s) A + 1)).filterMap id ≠ [] := fun e => by
        have : w ∈ (A.drop (ixO (some s) A + 1)).filterMap id := List.mem_filterMap.2 ⟨some w, hw, rfl⟩
        rw [e] at this; cases this
      have e9 : ∀ (X B : List Nat), X ++ s :: B = (X ++ [s]) ++ B := fun X B => by simp
      rw [e9, List.getLast?_append, List.getLast?_eq_some_getLast hne] at h
      simp only [Option.some_or, Option.some.injEq] at h
      have hmem : some s ∈ A.drop (ixO (some s) A + 1) := by
        have := List.getLast_mem hne
        rw [h] at this
        obtain ⟨v, hv, e⟩ := List.mem_filterMap.1 this
        simp only [id] at e; subst e; exact hv
      exact nd1.2 (List.mem_append_left _ hmem)
    obtain ⟨ys, hys⟩ : ∃ ys, t.scs[s]? = some ys := ⟨_, List.getElem?_eq_getElem (ok.opn _ z s hz hms)⟩
    have how := W.ow1 _ z s ys hz hms hys
    unfold TS.next
    rw [hys]
    simp only
    rw [how, hz]
    simp only [hms, if_true]
    rw [e3]
    exact outerO_of tail
  · right
    refine ⟨y.ow, z, hz, ?_, hi, ?_⟩
    · cases he : z.en with
      | false => rfl
      | true => rw [W.en _ z hz he] at hs; cases hs
    · have spl := ixO_split hs
      rw [spl]
      exact outerO_of (lastS_none h)

theorem mem_below (ok : TOk c t) (W : WI none t) (J : WJ t) : ∀ (f s : Nat), t.scs.length - s ≤ f → s < t.scs.length → ∀ j : Nat, j ∈ t.belowG f s ↔ ∃ x s0, t.tks[j]? = some x ∧ x.en = false ∧ x.inn = some s0 ∧ Abv t s s0
  | 0, s, h1, h2, j => by omega
  | f + 1, s, h1, h2, j => by
    obtain ⟨y, hy⟩ : ∃ y, t.scs[s]? = some y := ⟨_, List.getElem?_eq_getElem h2⟩
    have plen : ∀ {s'}, Par t s' s → s < s' ∧ s' < t.scs.length := fun hp => by
      have := hp.lt J W
      obtain ⟨y', _, hy', _⟩ := hp
      exact ⟨this, get_lt' hy'⟩
    have rcs := fun {s'} (hp : Par t s' s) => mem_below ok W J f s' (by have := (plen hp).1; omega) (plen hp).2 j
    rw [TS.belowG]
    simp only [hy, List.mem_append]
    constructor
    · rintro (h | h)
      · obtain ⟨m, hm, hj⟩ := List.mem_flatMap.1 h
        obtain ⟨x, hx, hi⟩ := (W.mem s y m hy).1 hm
        simp only [TS.below1, hx] at hj
        split at hj
        · cases hj
        · rename_i hen
          have hen' : x.en = false := by simpa using hen
          rcases List.mem_cons.1 hj with rfl | hj
          · exact ⟨x, s, hx, hen', hi, .refl _⟩
          · cases ho : outerO x.opn with
            | none => rw [ho] at hj; cases hj
            | some s' =>
              rw [ho] at hj
              have hp := first_par W hx hi ho ok
              obtain ⟨x', s0, a1, a2, a3, a4⟩ := (rcs hp).1 hj
              exact ⟨x', s0, a1, a2, a3, a4.push hp⟩
      · cases hn : t.next s with
        | none => rw [hn] at h; cases h
        | some s' =>
          rw [hn] at h
          have hp := next_par W hn ok
          obtain ⟨x', s0, a1, a2, a3, a4⟩ := (rcs hp).1 h
          exact ⟨x', s0, a1, a2, a3, a4.push hp⟩
    · rintro ⟨x, s0, hx, hen, hi, ha⟩
      rcases ha.last with rfl | ⟨s', hp, ha'⟩
      · left
        refine List.mem_flatMap.2 ⟨j, (W.mem s y j hy).2 ⟨x, hx, hi⟩, ?_⟩
        simp [TS.below1, hx, hen]
      · have hj := (rcs hp).2 ⟨x, s0, hx, hen, hi, ha'⟩
        rcases par_inv ok W hp with hn | ⟨k, xk, hk, hke, hki, hko⟩
        · right; rw [hn]; exact hj
        · left
          refine List.mem_flatMap.2 ⟨k, (W.mem s y k hy).2 ⟨xk, hk, hki⟩, ?_⟩
          simp only [TS.below1, hk, hke, hko, Bool.false_eq_true, if_false]
          exact List.mem_cons_of_mem _ hj

theorem nodup_below (ok : TOk c t) (W : WI none t) (J : WJ t) : ∀ (f s : Nat), t.scs.length - s ≤ f → s < t.scs.length → (t.belowG f s).Nodup
  | 0, s, h1, h2 => .nil
  | f + 1, s, h1, h2 => by
    obtain ⟨y, hy⟩ : ∃ y, t.scs[s]? = some y := ⟨_, List.getElem?_eq_getElem h2⟩
    have plen : ∀ {s'}, Par t s' s → s < s' ∧ s' < t.scs.length := fun hp => by
      have := hp.lt J W
      obtain ⟨y', _, hy', _⟩ := hp
      exact ⟨this, get_lt' hy'⟩
    have mem := fun {s'} (hp : Par t s' s) j => mem_below ok W J f s' (by have := (plen hp).1; omega) (plen hp).2 j
    have rcs := fun {s'} (hp : Par t s' s) => nodup_below ok W J f s' (by have := (plen hp).1; omega) (plen hp).2
    -- a member is not below a scope whose next above is s
    have self : ∀ {s' m : Nat}, Par t s' s → m ∈ y.tks → m ∉ t.belowG f s' := fun {s' m} hp hm hj => by
      obtain ⟨x, hx, hi⟩ := (W.mem s y m hy).1 hm
      obtain ⟨x', s0, a1, a2, a3, a4⟩ := (mem hp m).1 hj
      rw [hx] at a1; cases a1
      rw [hi] at a3; cases a3
      have := a4.le J W
      have := (plen hp).1
      omega
    have both : ∀ {s1 s2 j : Nat}, Par t s1 s → Par t s2 s → j ∈ t.belowG f s1 → j ∈ t.belowG f s2 → s1 = s2 := fun p1 p2 h1 h2 => by
      obtain ⟨x, s0, a1, a2, a3, a4⟩ := (mem p1 _).1 h1
      obtain ⟨x', s0', b1, b2, b3, b4⟩ := (mem p2 _).1 h2
      rw [a1] at b1; cases b1
      rw [a3] at b3; cases b3
      exact Abv.uniq J W p1 p2 a4 b4
    have inv1 : ∀ {m j : Nat}, m ∈ y.tks → j ∈ t.below1 (t.belowG f) m → j = m ∨ ∃ x s', t.tks[m]? = some x ∧ some s' ∈ x.opn ∧ Par t s' s ∧ j ∈ t.belowG f s' := fun {m j} hm hj => by
      obtain ⟨x, hx, hi⟩ := (W.mem s y m hy).1 hm
      simp only [TS.below1, hx] at hj
      split at hj
      · cases hj
      · rcases List.mem_cons.1 hj with rfl | hj
        · exact .inl rfl
        · cases ho : outerO x.opn with
          | none => rw [ho] at hj; cases hj
          | some s' =>
            rw [ho] at hj
            obtain ⟨a, b, e1, _⟩ := outerO_some ho
            exact .inr ⟨x, s', hx, by rw [e1]; simp, first_par W hx hi ho ok, hj⟩
    have owner : ∀ {m s' : Nat} {x : Tk} {y' : Sc}, t.tks[m]? = some x → some s' ∈ x.opn → t.scs[s']? = some y' → y'.ow = m := fun hx hs hy' => W.ow1 _ _ _ _ hx hs hy'
    rw [TS.belowG]
    simp only [hy]
    rw [List.nodup_append]
    refine ⟨?_, ?_, fun a ha b hb e => ?_⟩
    · rw [List.Nodup, List.pairwise_flatMap]
      refine ⟨fun m hm => ?_, (W.mnd s y hy).imp_of_mem fun {m1 m2} hm1 hm2 hne a ha b hb e => ?_⟩
      · obtain ⟨x, hx, hi⟩ := (W.mem s y m hy).1 hm
        simp only [TS.below1, hx]
        split
        · exact .nil
        · cases ho : outerO x.opn with
          | none => simp
          | some s' =>
            have hp := first_par W hx hi ho ok
            exact List.nodup_cons.2 ⟨self hp hm, rcs hp⟩
      · subst e
        rcases inv1 hm1 ha with e1 | ⟨x1, s1, a1, a2, a3, a4⟩ <;> rcases inv1 hm2 hb with e2 | ⟨x2, s2, b1, b2, b3, b4⟩
        · exact hne (by rw [← e1, ← e2])
        · subst e1; exact self b3 hm1 b4
        · subst e2; exact self a3 hm2 a4
        · have := both a3 b3 a4 b4
          subst this
          obtain ⟨y', hy'⟩ : ∃ y', t.scs[s1]? = some y' := ⟨_, List.getElem?_eq_getElem (plen a3).2⟩
          exact hne ((owner a1 a2 hy').symm.trans (owner b1 b2 hy'))
    · cases hn : t.next s with
      | none => exact .nil
      | some s' => exact rcs (next_par W hn ok)
    · subst e
      cases hn : t.next s with
      | none => rw [hn] at hb; cases hb
      | some s' =>
        rw [hn] at hb
        have hp := next_par W hn ok
        obtain ⟨m, hm, hj⟩ := List.mem_flatMap.1 ha
        rcases inv1 hm hj with e1 | ⟨x1, s1, a1, a2, a3, a4⟩
        · subst e1; exact self hp hm hb
        · have := both a3 hp a4 hb
          subst this
          obtain ⟨y', hy'⟩ : ∃ y', t.scs[s1]? = some y' := ⟨_, List.getElem?_eq_getElem (plen a3).2⟩
          have o1 := owner a1 a2 hy'
          -- the next scope is of the owner of s
          obtain ⟨x, hx, hi⟩ := (W.mem s y m hy).1 hm
          have hup := W.up m x s y hx hi hy
          unfold TS.next at hn
          rw [hy] at hn
          simp only at hn
          cases hz : t.tks[y.ow]? with
          | none => rw [hz] at hn; cases hn
          | some z =>
            rw [hz] at hn
            simp only at hn
            split at hn
            · obtain ⟨a', b', e1, _⟩ := outerO_some hn
              have hm' : some s1 ∈ z.opn := List.mem_of_mem_drop (by rw [e1]; simp)
              have o2 := owner hz hm' hy'
              omega
            · cases hn

theorem nodup_len : ∀ (n : Nat) (l : List Nat), l.Nodup → (∀ x, x ∈ l → x < n) → l.length ≤ n
  | 0, l, _, h => by
    cases l with
    | nil => exact Nat.le_refl _
    | cons a l => exact absurd (h a (List.mem_cons_self ..)) (by omega)
  | n + 1, l, hn, h => by
    have h2 : (l.filter (· != n)).length ≤ n := nodup_len n _ (hn.filter _) fun x hx => by
      obtain ⟨a, b⟩ := List.mem_filter.1 hx
      have := h x a
      have : x ≠ n := by simpa using b
      omega
    have h3 : l.length ≤ (l.filter (· != n)).length + 1 := by
      clear h2 h
      induction l with
      | nil => simp
      | cons a l ih =>
        rw [List.nodup_cons] at hn
        rw [List.filter_cons]
        by_cases e : a = n
        · subst e
          have : l.filter (· != a) = l := List.filter_eq_self.2 fun x hx => by
            have : x ≠ a := fun e => hn.1 (by rw [← e]; exact hx)
            simpa using this
          simp [this]
        · have := ih hn.2
          simp [e]; exact this
    omega
theorem below_len (ok : TOk c t) (W : WI none t) (J : WJ t) (hs : s < t.scs.length) : (t.belowG t.scs.length s).length ≤ 64 := by
  have n64 := ok.n64
  have := nodup_len t.tks.length _ (nodup_below ok W J t.scs.length s (by omega) hs) fun j hj => by
    obtain ⟨x, _, hx, _⟩ := (mem_below ok W J t.scs.length s (by omega) hs j).1 hj
    exact get_lt' hx
  omega
end

end Go.Proofs.Ytahomnlkkafbjaa.tr

namespace Go.Proofs.Ytahomnlkkafbjaa.tr
open Go Go.Ev
set_option maxRecDepth 100000
set_option linter.unusedVariables false
set_option linter.constructorNameAsVariable false

/-! ### Outer -/

section
variable {h : Hp} {ρ : Lay} {t : TS} {c r : Nat}

theorem outer_run {l : List (Option Nat)} {oa : Option Addr} {za : Nat} (hb : l.length ≤ 1000000) (hp : ∀ s, some s ∈ l → ∃ i, ρ (.sc s) = some i)
    (A : l.length ≠ 0 → ∃ o f c rw, oa = some ⟨o, f, none⟩ ∧ za = 1 ∧ h[o]? = some (.cells c rw) ∧ ∀ i v, l[i]? = some v → c[f + i]? = some (inP ρ v)) :
    Run Try.prog 49 [.slice oa l.length za] h (inP ρ (outerO l)) h := by
  have loop : ∀ (j i : Nat) (E : Env), i + j = l.length → EnvLe [(8, .int .i64 (i : Int)), (7, .int .i64 (Int.ofNat l.length)), (0, .slice oa l.length za), (1, .func (.func 69) #[] #[])] E → (∀ j v, j < i → l[j]? = some v → v = none) →
      (∃ E1 k s, EnvLe [(4, .int .i64 ((k : Nat) : Int))] E1 ∧ LRun Try.prog 19 false (loopN Try.f68 0) E h .ret E1 h ∧ l[k]? = some (some s) ∧ outerO l = some s) ∨
      (∃ E1, LRun Try.prog 19 false (loopN Try.f68 0) E h (.exit 0) E1 h ∧ outerO l = none) := by
    intro j
    induction j with
    | zero =>
      intro i E hi hE hn
      have e : i = l.length := by omega
      subst e
      obtain ⟨E2, q1, q2⟩ := pvC 1 hE (r43p.if_out 0 0 l.length za 0 0 oa l.length 0 h h) ⟨ltF (by simp), trivial⟩
      refine .inr ⟨E2, .last q2 (by simp), ?_⟩
      cases ho : outerO l with
      | none => rfl
      | some s =>
        obtain ⟨a, b, e1, _⟩ := outerO_some ho
        have := hn a.length (some s) (by rw [e1]; simp) (by rw [e1]; simp)
        cases this
    | succ j ih =>
      intro i E hi hE hn
      obtain ⟨w, hw⟩ : ∃ w, l[i]? = some w := ⟨_, List.getElem?_eq_getElem (by omega)⟩
      obtain ⟨o, f, c, rw, rfl, rfl, ho, hc⟩ := A (by omega)
      have B1 : (Asm.cmp .lss (i : Int) (Int.ofNat l.length) true).holds Try.prog := ltT (by simp; omega)
      have B2 : (Asm.off (f + i) f (i : Int) l.length 1).holds Try.prog := offI (q := i) rfl (by omega) (by omega)
      have B3 : (Asm.ld1 (.is h) o (f + i) (inP ρ w)).holds Try.prog := a_ld1 ho (hc i w hw)
      cases w with
      | none =>
        obtain ⟨E2, q1, q2⟩ := pvC 1 hE (r43p.if_nil o f l.length 0 (f + i) 0 none i ((i + 1 : Nat) : Int) h h) ⟨B1, B2, B3, addI rfl (by omega) (by omega), trivial⟩
        have hn' : ∀ j v, j < i + 1 → l[j]? = some v → v = none := fun k v hk e => by
          by_cases e1 : k = i
          · subst e1; rw [hw] at e; cases e; rfl
          · exact hn k v (by omega) e
        rcases ih (i + 1) E2 (by omega) (.trans (.add (.add (.add (.add (.nil _) rfl) rfl) rfl) rfl) q1) hn' with ⟨E3, k, s, s1, s2, s3⟩ | ⟨E3, s2, s3⟩
        · exact .inl ⟨E3, k, s, s1, .step q2 s2, s3⟩
        · exact .inr ⟨E3, .step q2 s2, s3⟩
      | some s =>
        obtain ⟨y, hy⟩ := hp s (List.mem_of_getElem? hw)
        simp only [inP, hy, pvv] at B3
        obtain ⟨E2, q1, q2⟩ := pvC 1 hE (r43p.if_hit o f l.length 0 (f + i) y none i 0 h h) ⟨B1, B2, B3, trivial⟩
        refine .inl ⟨E2, i, s, .trans (.add (.nil _) rfl) q1, .last q2 (by simp), hw, ?_⟩
        have hil := get_lt' hw
        have spl : l = l.take i ++ some s :: l.drop (i + 1) := by
          conv => lhs; rw [← List.take_append_drop i l, List.drop_eq_getElem_cons hil]
          rw [List.getElem?_eq_getElem hil] at hw
          rw [Option.some.inj hw]
        rw [spl]
        refine outerO_of fun s' hs' => ?_
        obtain ⟨k, hk⟩ := List.mem_iff_getElem?.1 hs'
        have hkl := get_lt' hk
        rw [List.length_take] at hkl
        rw [List.getElem?_take_of_lt (by omega)] at hk
        have := hn k (some s') (by omega) hk
        cases this
  rcases loop l.length 0 [(8, .int .i64 (0 : Nat)), (7, .int .i64 (Int.ofNat l.length)), (0, .slice oa l.length za), (1, .func (.func 69) #[] #[])] (by omega) (EnvLe.refl _) (fun j v hj => absurd hj (Nat.not_lt_zero _)) with ⟨E1, k, s, q1, q2, q3, q4⟩ | ⟨E1, q2, q3⟩
  · have R : Run Try.prog 68 [.slice oa l.length za, .func (.func 69) #[] #[]] h (.int .i64 (k : Int)) h := pvF 0 Try.func68 (r43p.if_f 0 0 l.length za 0 0 oa k 0 h h) ⟨a_loop (by kernel_rfl) (.add (.add (.add (.add (.nil _) rfl) rfl) rfl) rfl) q1 q2, trivial⟩
    have hkl := get_lt' q3
    obtain ⟨o, f, c, rw, rfl, rfl, ho, hc⟩ := A (by omega)
    obtain ⟨y, hy⟩ := hp s (List.mem_of_getElem? q3)
    have B3 : (Asm.ld1 (.is h) o (f + k) (inP ρ (some s))).holds Try.prog := a_ld1 ho (hc k _ q3)
    rw [q4]
    simp only [inP, hy, pvv] at B3 ⊢
    exact pvF 0 Try.func49 (r43p.ou_some o f l.length 0 (f + k) y none k 0 h h) ⟨R, ltF (by omega), offI (q := k) rfl (by omega) (by omega), B3, trivial⟩
  · have R : Run Try.prog 68 [.slice oa l.length za, .func (.func 69) #[] #[]] h (.int .i64 (Int.negSucc 0)) h := pvF 0 Try.func68 (r43p.if_n 0 0 l.length za 0 0 oa 0 0 h h) ⟨a_loop (by kernel_rfl) (.add (.add (.add (.add (.nil _) rfl) rfl) rfl) rfl) (.nil _) q2, trivial⟩
    rw [q3]
    exact pvF 0 Try.func49 (r43p.ou_none 0 0 l.length za 0 0 oa (Int.negSucc 0) 0 h h) ⟨R, ltT (by decide), trivial⟩

theorem indexS_none (a : TAt h ρ t) {k s si : Nat} {x : Tk} {oa : Option Addr} {za : Nat} (hx : t.tks[k]? = some x) (hsi : ρ (.sc s) = some si) (hin : ∀ s, some s ∈ x.opn → s < t.scs.length) (hb : x.opn.length ≤ 1000000) (hs : some s ∉ x.opn) (hv : slv (ρ (.op k)) x.opn.length = .slice oa x.opn.length za) :
    Run Try.prog 44 [.slice oa x.opn.length za, ptr si] h (.int .i64 (Int.negSucc 0)) h := by
  have loop : ∀ (j i : Nat) (E : Env), i + j = x.opn.length → EnvLe [(8, .int .i64 (i : Int)), (7, .int .i64 (Int.ofNat x.opn.length)), (0, .slice oa x.opn.length za), (1, ptr si)] E →
      ∃ E1, LRun Try.prog 19 false (loopN Try.f44 0) E h (.exit 0) E1 h := by
    intro j
    induction j with
    | zero =>
      intro i E hi hE
      have e : i = x.opn.length := by omega
      subst e
      obtain ⟨E2, q1, q2⟩ := pvC 0 hE (r38p.ig_out oa 0 x.opn.length za si 0 0 x.opn.length 0 h) ⟨ltF (by simp), trivial⟩
      exact ⟨E2, .last q2 (by simp)⟩
    | succ j ih =>
      intro i E hi hE
      obtain ⟨w, hw⟩ : ∃ w, x.opn[i]? = some w := ⟨_, List.getElem?_eq_getElem (by omega)⟩
      cases ho : ρ (.op k) with
      | none => have := a.sh.op k x hx ho; rw [this] at hi; simp at hi
      | some o =>
      rw [ho] at hv
      cases hv
      have B1 : (Asm.cmp .lss (i : Int) (Int.ofNat x.opn.length) true).holds Try.prog := ltT (by simp; omega)
      have B2 : (Asm.off i 0 (i : Int) x.opn.length 1).holds Try.prog := offI (q := i) rfl (by omega) (by omega)
      have B3 : (Asm.ld1 (.is h) o i (inP ρ w)).holds Try.prog := a.ld1 rfl ho (by rw [cont_op hx, List.getElem?_map, hw]; rfl)
      have B9 : (Asm.arith .add .i64 (i : Int) 1 ((i + 1 : Nat) : Int)).holds Try.prog := addI rfl (by omega) (by omega)
      cases w with
      | none =>
        obtain ⟨E2, q1, q2⟩ := pvC 0 hE (r38p.ig_nil none o x.opn.length 0 si 0 i i ((i + 1 : Nat) : Int) h) ⟨B1, B2, B3, B9, trivial⟩
        obtain ⟨E3, s2⟩ := ih (i + 1) E2 (by omega) (.trans (.add (.add (.add (.add (.nil _) rfl) rfl) rfl) rfl) q1)
        exact ⟨E3, .step q2 s2⟩
      | some s' =>
        have hm := List.mem_of_getElem? hw
        obtain ⟨yi, hyi⟩ := a.sh.sc s' (hin s' hm)
        simp only [inP, hyi, pvv] at B3
        obtain ⟨c1, ho1⟩ := a.own hsi
        obtain ⟨c2, ho2⟩ := a.own hyi
        have hne : si ≠ yi := fun e1 => by subst e1; have := a.inj _ _ _ hsi hyi; cases this; exact hs hm
        obtain ⟨E2, q1, q2⟩ := pvC 0 hE (r38p.ig_ne none o x.opn.length 0 si yi i i ((i + 1 : Nat) : Int) h) ⟨B1, B2, B3, ⟨95, 7, c1, c2, und91, siz95, ho1, ho2, .inl ⟨rfl, by simp [hne]⟩⟩, B9, trivial⟩
        obtain ⟨E3, s2⟩ := ih (i + 1) E2 (by omega) (.trans (.add (.add (.add (.add (.nil _) rfl) rfl) rfl) rfl) q1)
        exact ⟨E3, .step q2 s2⟩
  obtain ⟨E1, q2⟩ := loop x.opn.length 0 [(8, .int .i64 (0 : Nat)), (7, .int .i64 (Int.ofNat x.opn.length)), (0, .slice oa x.opn.length za), (1, ptr si)] (by omega) (EnvLe.refl _)
  exact pvF 0 Try.func44 (r38p.ig_n oa x.opn.length za si 0 h h) ⟨a_loop (by kernel_rfl) (.add (.add (.add (.add (.nil _) rfl) rfl) rfl) rfl) (.nil _) q2, trivial⟩

/-! ### A list of numbers that is made in a cell -/

structure AccN (h : Hp) (b8 : Nat) (g : Hp) (v : Value) (acc : List Nat) : Prop where
  keep : Keep (fun _ => False) h g
  lo : h.length ≤ b8
  box : g[b8]? = some (.cells [v] true)
  sl : SlV g (b8 + 1) v acc.length 1 (nmL acc)
theorem AccN.grow {b8 : Nat} {g g' : Hp} {v : Value} {acc : List Nat} (A : AccN h b8 g v acc) (K : Keep (fun _ => False) g g') : AccN h b8 g' v acc := ⟨A.keep.trans K, A.lo, K.2 _ _ A.box id, A.sl.keep K fun _ e => e.elim⟩
theorem AccN.appN {b8 : Nat} {g : Hp} {v : Value} (A : AccN h b8 g v []) (p : Nat) :
    AccN h b8 (((g ++ [AObj.cells [.int .i64 ((p + 1 : Nat) : Int)] true]) ++ [AObj.cells [.int .i64 ((p + 1 : Nat) : Int)] true]).set b8 (.cells [.slice (some ⟨g.length + 1, 0, none⟩) 1 1] true)) (.slice (some ⟨g.length + 1, 0, none⟩) 1 1) [p] ∧
    Keep (fpA b8 v) g (((g ++ [AObj.cells [.int .i64 ((p + 1 : Nat) : Int)] true]) ++ [AObj.cells [.int .i64 ((p + 1 : Nat) : Int)] true]).set b8 (.cells [.slice (some ⟨g.length + 1, 0, none⟩) 1 1] true)) := by
  have bl := get_lt A.box
  have kl := A.keep.1
  refine ⟨⟨(((A.keep.pushN _).pushN _).setN A.lo _), A.lo, get_set_eq (get_push (get_push A.box)), .inr ⟨by simp, by simp [nmL], g.length + 1, rfl, ?_, by omega⟩⟩, ?_⟩
  · exact get_set_ne (get_new' _ (by simp)) (by omega)
  · exact ((Keep.push _ _ _).trans (Keep.push _ _ _)).trans (Keep.set (fp := fpA b8 v) (.inl rfl) _)
theorem AccN.appS {b8 w : Nat} {g : Hp} {acc : List Nat} (A : AccN h b8 g (.slice (some ⟨w, 0, none⟩) acc.length 1) acc) (hw : g[w]? = some (.cells (nmL acc) true)) (hl : b8 + 1 ≤ w) (p : Nat) :
    AccN h b8 ((((g ++ [AObj.cells [.int .i64 ((p + 1 : Nat) : Int)] true]).set w .dead) ++ [AObj.cells (nmL acc ++ [.int .i64 ((p + 1 : Nat) : Int)]) true]).set b8 (.cells [.slice (some ⟨g.length + 1, 0, none⟩) (acc.length + 1) 1] true)) (.slice (some ⟨g.length + 1, 0, none⟩) (acc.length + 1) 1) (acc ++ [p]) ∧
    Keep (fpA b8 (.slice (some ⟨w, 0, none⟩) acc.length 1)) g ((((g ++ [AObj.cells [.int .i64 ((p + 1 : Nat) : Int)] true]).set w .dead) ++ [AObj.cells (nmL acc ++ [.int .i64 ((p + 1 : Nat) : Int)]) true]).set b8 (.cells [.slice (some ⟨g.length + 1, 0, none⟩) (acc.length + 1) 1] true)) := by
  have bl := get_lt A.box
  have kl := A.keep.1
  have lo := A.lo
  have hb2 : ((g ++ [AObj.cells [.int .i64 ((p + 1 : Nat) : Int)] true]).set w .dead)[b8]? = some (.cells [.slice (some ⟨w, 0, none⟩) acc.length 1] true) := get_set_ne (get_push A.box) (by omega)
  have e : nmL (acc ++ [p]) = nmL acc ++ [.int .i64 ((p + 1 : Nat) : Int)] := by simp [nmL]
  refine ⟨⟨((((A.keep.pushN _).setN (by omega) _).pushN _).setN A.lo _), A.lo, get_set_eq (get_push hb2), .inr ⟨by simp, by rw [nmL_len]; simp, g.length + 1, by simp, ?_, by omega⟩⟩, ?_⟩
  · rw [e]
    exact get_set_ne (get_new' _ (by simp)) (by omega)
  · exact (((Keep.push _ _ _).trans (Keep.set (fp := fpA b8 (.slice (some ⟨w, 0, none⟩) acc.length 1)) (.inr ⟨_, _, rfl⟩) _)).trans (Keep.push _ _ _)).trans (Keep.set (.inl rfl) _)
theorem AccN.cases {b8 : Nat} {g : Hp} {v : Value} {acc : List Nat} (A : AccN h b8 g v acc) : (acc = [] ∧ v = .slice none 0 0) ∨ (acc ≠ [] ∧ ∃ w, v = .slice (some ⟨w, 0, none⟩) acc.length 1 ∧ g[w]? = some (.cells (nmL acc) true) ∧ b8 + 1 ≤ w) := by
  rcases A.sl with ⟨a1, _, a2⟩ | ⟨a1, _, w, a3, a4, a5⟩
  · exact .inl ⟨List.length_eq_zero_iff.1 a1, a2⟩
  · exact .inr ⟨fun e => a1 (by rw [e]; rfl), w, a3, a4, a5⟩
abbrev FV48 (b8 b9 : Nat) : Value := .func (.func 48) #[] #[ptr b8, ptr b9]
theorem AccN.notF {b8 b9 : Nat} {g : Hp} {v : Value} {acc : List Nat} (A : AccN h b8 g v acc) (hl : g[b9]? = some (.cells [FV48 b8 b9] true)) (hn : b9 ≠ b8) : ¬ fpA b8 v b9 := by
  rintro (rfl | ⟨n', z', e⟩)
  · exact hn rfl
  · rcases A.cases with ⟨_, e'⟩ | ⟨a1, w, a3, a4, a5⟩
    · rw [e'] at e; cases e
    · rw [a3] at e; cases e
      rw [a4] at hl
      have := (AObj.cells.inj (Option.some.inj hl)).1
      cases acc with
      | nil => exact a1 rfl
      | cons p acc => simp [nmL] at this

theorem stat48 : (Asm.stat (drawN Try.f48 0)).holds Try.prog := show statOk (drawN Try.f48 0) = true by kernel_rfl

theorem opn_cells (a : TAt h ρ t) {k f : Nat} {x : Tk} (hx : t.tks[k]? = some x) (hf : f ≤ x.opn.length) : (x.opn.drop f).length ≠ 0 → ∃ o c rw, ρ (.op k) = some o ∧ h[o]? = some (.cells c rw) ∧ ∀ i v, (x.opn.drop f)[i]? = some v → c[f + i]? = some (inP ρ v) := fun hne => by
  cases ho : ρ (.op k) with
  | none => rw [a.sh.op k x hx ho] at hne; simp at hne
  | some o =>
    obtain ⟨junk, hj⟩ := a.obj _ _ ho
    rw [cont_op hx] at hj
    refine ⟨o, _, true, rfl, hj, fun i v hv => ?_⟩
    rw [List.getElem?_drop] at hv
    have hl := get_lt' hv
    rw [List.getElem?_append_left (by simp; omega), List.getElem?_map, hv]; rfl

theorem below_walk (a : TAt h ρ t) (ok : TOk c t) (hc : c ≤ 1000) (W : WI none t) (J : WJ t) {b8 b9 : Nat} (h98 : b9 ≠ b8) :
    ∀ (f s si : Nat), t.scs.length - s ≤ f → s < t.scs.length → ρ (.sc s) = some si → ∀ (g : Hp) (v : Value) (acc : List Nat), AccN h b8 g v acc → g[b9]? = some (.cells [FV48 b8 b9] true) → acc.length + (t.belowG f s).length ≤ 100000 →
      ∃ g' v', Run Try.prog 48 [ptr si, ptr b8, ptr b9] g (.tuple #[]) g' ∧ AccN h b8 g' v' (acc ++ t.belowG f s) ∧ g'[b9]? = some (.cells [FV48 b8 b9] true) := by
  intro f
  induction f with
  | zero => intro s si h1 h2; omega
  | succ f ih =>
    intro s si h1 h2 hsi g v acc A hb9 hlen
    have n64 := ok.n64
    obtain ⟨y, hy⟩ : ∃ y, t.scs[s]? = some y := ⟨_, List.getElem?_eq_getElem h2⟩
    have hml := ok.mlen s y hy
    have how := ok.ow s y hy
    obtain ⟨oi, hoi⟩ := a.sh.tk _ how
    obtain ⟨z, hz⟩ : ∃ z, t.tks[y.ow]? = some z := ⟨_, List.getElem?_eq_getElem how⟩
    have hzl := ok.len _ z hz
    have plen : ∀ {s'}, Par t s' s → s < s' ∧ s' < t.scs.length := fun hp => by
      have := hp.lt J W
      obtain ⟨y', _, hy', _⟩ := hp
      exact ⟨this, get_lt' hy'⟩
    have hbel : t.belowG (f + 1) s = y.tks.flatMap (t.below1 (t.belowG f)) ++ match t.next s with
      | none => []
      | some s' => t.belowG f s' := by rw [TS.belowG]; simp only [hy]; try (cases t.next s <;> rfl)
    rw [hbel] at hlen ⊢
    obtain ⟨M, hM⟩ : ∃ M, M = y.tks.flatMap (t.below1 (t.belowG f)) := ⟨_, rfl⟩
    rw [← hM] at hlen ⊢
    rw [List.length_append] at hlen
    obtain ⟨oa, za, ev, ev2⟩ := slv_ex (ρ (.st s)) y.tks.length (fun e => by rw [a.sh.st s y hy e]; rfl)
    -- the members
    have loop : ∀ (r i : Nat) (E : Env) (g : Hp) (v : Value), i + r = y.tks.length → EnvLe [(14, .int .i64 (i : Int)), (13, .int .i64 (Int.ofNat y.tks.length)), (12, .slice oa y.tks.length za), (0, ptr si), (1, ptr b8), (2, ptr b9)] E →
        AccN h b8 g v (acc ++ (y.tks.take i).flatMap (t.below1 (t.belowG f))) → g[b9]? = some (.cells [FV48 b8 b9] true) →
        ∃ E1 g' v', EnvLe [(0, ptr si), (1, ptr b8), (2, ptr b9)] E1 ∧ LRun Try.prog 67 false (loopN Try.f48 0) E g (.exit 0) E1 g' ∧ AccN h b8 g' v' (acc ++ M) ∧ g'[b9]? = some (.cells [FV48 b8 b9] true) := by
      intro r
      induction r with
      | zero =>
        intro i E g v hi hE A hb9
        have e : i = y.tks.length := by omega
        subst e
        rw [List.take_length, ← hM] at A
        obtain ⟨E2, q1, q2⟩ := pvC 0 hE (r43p.bm_out si b8 b9 0 y.tks.length za 0 0 0 0 0 0 0 0 0 oa none y.tks.length 0 0 [] [] [] g g g) ⟨ltF (by simp), trivial⟩
        exact ⟨E2, g, v, .trans (.add (.add (.add (.nil _) rfl) rfl) rfl) q1, .last q2 (by simp), A, hb9⟩
      | succ r ihr =>
        intro i E g v hi hE A hb9
        obtain ⟨w, hw⟩ : ∃ w, y.tks[i]? = some w := ⟨_, List.getElem?_eq_getElem (by omega)⟩
        have hwm := List.mem_of_getElem? hw
        have hwl := ok.mem s y w hy hwm
        obtain ⟨x, hx⟩ : ∃ x, t.tks[w]? = some x := ⟨_, List.getElem?_eq_getElem hwl⟩
        obtain ⟨x', hx', hxi⟩ := (W.mem s y w hy).1 hwm
        rw [hx] at hx'; cases hx'
        obtain ⟨xi, hxo⟩ := a.sh.tk w hwl
        have hxl := ok.len w x hx
        cases hst : ρ (.st s) with
        | none => have := a.sh.st s y hy hst; rw [this] at hi; simp at hi
        | some so =>
        obtain ⟨rfl, rfl⟩ := ev2 so hst
        have ag := a.grow A.keep
        have tk1 : (y.tks.take (i + 1)).flatMap (t.below1 (t.belowG f)) = (y.tks.take i).flatMap (t.below1 (t.belowG f)) ++ t.below1 (t.belowG f) w := by rw [take_one hw, List.flatMap_append]; simp
        have sub : ((y.tks.take (i + 1)).flatMap (t.below1 (t.belowG f))).length ≤ M.length := by
          rw [hM]
          conv => rhs; rw [← List.take_append_drop (i + 1) y.tks, List.flatMap_append, List.length_append]
          omega
        rw [tk1, List.length_append] at sub
        have B1 : (Asm.cmp .lss (i : Int) (Int.ofNat y.tks.length) true).holds Try.prog := ltT (by simp; omega)
        have B2 : (Asm.off i 0 (i : Int) y.tks.length 1).holds Try.prog := offI (q := i) rfl (by omega) (by omega)
        have B3 : (Asm.ld1 (.is g) so i (ptr xi)).holds Try.prog := by
          have := ag.ld1 (P := Try.prog) (s := .is g) rfl hst (d := i) (v := pvv (ρ (.tk w))) (by rw [cont_st hy, List.getElem?_map, hw]; rfl)
          rwa [hxo] at this
        have B4 : (Asm.ld1 (.is g) xi 4 (.bool x.en)).holds Try.prog := ag.ld1 rfl hxo (by rw [cont_tk hx]; rfl)
        have B9 : (Asm.arith .add .i64 (i : Int) 1 ((i + 1 : Nat) : Int)).holds Try.prog := addI rfl (by omega) (by omega)
        have next : ∀ {E2 : Env} {g' : Hp} {v' : Value}, EnvLe [(14, .int .i64 ((i + 1 : Nat) : Int)), (13, .int .i64 (Int.ofNat y.tks.length)), (12, .slice (some ⟨so, 0, none⟩) y.tks.length 1), (0, ptr si), (1, ptr b8), (2, ptr b9)] E2 → CRun Try.prog 67 false (loopN Try.f48 0) E g .normal E2 g' →
            AccN h b8 g' v' (acc ++ (y.tks.take i).flatMap (t.below1 (t.belowG f)) ++ t.below1 (t.belowG f) w) → g'[b9]? = some (.cells [FV48 b8 b9] true) →
            ∃ E1 g' v', EnvLe [(0, ptr si), (1, ptr b8), (2, ptr b9)] E1 ∧ LRun Try.prog 67 false (loopN Try.f48 0) E g (.exit 0) E1 g' ∧ AccN h b8 g' v' (acc ++ M) ∧ g'[b9]? = some (.cells [FV48 b8 b9] true) := fun h1 h2 h3 h4 => by
          rw [List.append_assoc, ← tk1] at h3
          obtain ⟨E3, g3, v3, s1, s2, s3, s4⟩ := ihr (i + 1) _ _ _ (by omega) h1 h3 h4
          exact ⟨E3, g3, v3, s1, .step h2 s2, s3, s4⟩
        cases hen : x.en with
        | true =>
          rw [hen] at B4
          have e0 : t.below1 (t.belowG f) w = [] := by simp only [TS.below1, hx, hen, if_true]
          obtain ⟨E2, q1, q2⟩ := pvC 0 hE (r43p.bm_end si b8 b9 so y.tks.length 0 i xi 0 0 0 0 0 0 0 none none i ((i + 1 : Nat) : Int) 0 [] [] [] g g g) ⟨B1, B2, B3, B4, B9, trivial⟩
          exact next (.trans (.add (.add (.add (.add (.add (.add (.nil _) rfl) rfl) rfl) rfl) rfl) rfl) q1) q2 (by rw [e0, List.append_nil]; exact A) hb9
        | false =>
          rw [hen] at B4
          have e0 : t.below1 (t.belowG f) w = w :: match outerO x.opn with
            | none => []
            | some s' => t.belowG f s' := by simp only [TS.below1, hx, hen, Bool.false_eq_true, if_false]; try (cases outerO x.opn <;> rfl)
          obtain ⟨acc1, hacc1⟩ : ∃ acc1, acc1 = acc ++ (y.tks.take i).flatMap (t.below1 (t.belowG f)) := ⟨_, rfl⟩
          rw [← hacc1] at A next
          have lacc1 : acc1.length ≤ 100000 := by rw [hacc1, List.length_append]; omega
          have B5 : (Asm.ld1 (.is g) b8 0 v).holds Try.prog := a_ld1 A.box rfl
          have B6 : (Asm.ld1 (.is g) xi 0 (.int .i64 ((w + 1 : Nat) : Int))).holds Try.prog := ag.ld1 rfl hxo (by rw [cont_tk hx]; rfl)
          obtain ⟨op, zo, eop, eop2⟩ := slv_ex (ρ (.op w)) x.opn.length (fun e => by rw [a.sh.op w x hx e]; rfl)
          -- behind the append
          have main : ∀ (g2 : Hp) (v2 : Value), AccN h b8 g2 v2 (acc1 ++ [w]) → Keep (fpA b8 v) g g2 →
              (∀ g3, outerO x.opn = none → Run Try.prog 49 [.slice op x.opn.length zo] g2 (.pointer none) g2 → (Asm.ld1 (.is g2) xi 2 (.slice op x.opn.length zo)).holds Try.prog → g3 = g2 → ∃ E2, EnvLe [(14, .int .i64 ((i + 1 : Nat) : Int)), (13, .int .i64 (Int.ofNat y.tks.length)), (12, .slice (some ⟨so, 0, none⟩) y.tks.length 1), (0, ptr si), (1, ptr b8), (2, ptr b9)] E2 ∧ CRun Try.prog 67 false (loopN Try.f48 0) E g .normal E2 g3) →
              (∀ (s' yi : Nat) (g3 : Hp), outerO x.opn = some s' → Run Try.prog 49 [.slice op x.opn.length zo] g2 (ptr yi) g2 → (Asm.ld1 (.is g2) xi 2 (.slice op x.opn.length zo)).holds Try.prog → (Asm.ld1 (.is g2) b9 0 (FV48 b8 b9)).holds Try.prog → Run Try.prog 48 [ptr yi, ptr b8, ptr b9] g2 (.tuple #[]) g3 → ∃ E2, EnvLe [(14, .int .i64 ((i + 1 : Nat) : Int)), (13, .int .i64 (Int.ofNat y.tks.length)), (12, .slice (some ⟨so, 0, none⟩) y.tks.length 1), (0, ptr si), (1, ptr b8), (2, ptr b9)] E2 ∧ CRun Try.prog 67 false (loopN Try.f48 0) E g .normal E2 g3) →
              ∃ E1 g' v', EnvLe [(0, ptr si), (1, ptr b8), (2, ptr b9)] E1 ∧ LRun Try.prog 67 false (loopN Try.f48 0) E g (.exit 0) E1 g' ∧ AccN h b8 g' v' (acc ++ M) ∧ g'[b9]? = some (.cells [FV48 b8 b9] true) := by
            intro g2 v2 A2 K2 hnone hsome
            have ag2 := a.grow A2.keep
            have hb92 := K2.2 _ _ hb9 (A.notF hb9 h98)
            have Lo : (Asm.ld1 (.is g2) xi 2 (.slice op x.opn.length zo)).holds Try.prog := by rw [← eop]; exact ag2.ld1 rfl hxo (by rw [cont_tk hx]; rfl)
            have R := outer_run (ρ := ρ) (h := g2) (l := x.opn) (oa := op) (za := zo) (by omega) (fun s' hs' => a.sh.sc s' (ok.opn w x s' hx hs')) (fun hne => by
              obtain ⟨o, cc, rw, e1, e2, e3⟩ := opn_cells ag2 (f := 0) hx (by omega) (by simpa using hne)
              obtain ⟨rfl, rfl⟩ := eop2 o e1
              exact ⟨o, 0, cc, rw, rfl, rfl, e2, by simpa using e3⟩)
            cases ho : outerO x.opn with
            | none =>
              rw [ho] at R e0
              obtain ⟨E2, q1, q2⟩ := hnone g2 ho R Lo rfl
              exact next q1 q2 (by rw [e0]; exact A2) hb92
            | some s' =>
              rw [ho] at R e0
              have hp := first_par W hx hxi ho ok
              obtain ⟨yi, hyi⟩ := a.sh.sc s' (plen hp).2
              simp only [inP, hyi, pvv] at R
              have l2 : (t.below1 (t.belowG f) w).length = (t.belowG f s').length + 1 := by rw [e0]; simp
              obtain ⟨g3, v3, r3, A3, hb93⟩ := ih s' yi (by have := (plen hp).1; omega) (plen hp).2 hyi g2 v2 _ A2 hb92 (by
                rw [List.length_append, hacc1, List.length_append]
                simp only [List.length_singleton]
                omega)
              obtain ⟨E2, q1, q2⟩ := hsome s' yi g3 ho R Lo (a_ld1 hb92 rfl) r3
              refine next (v' := v3) q1 q2 ?_ hb93
              rw [e0]
              simpa using A3
          rcases A.cases with ⟨e1, rfl⟩ | ⟨hne, o, rfl, hoo, hlo⟩
          · rw [e1] at A main next
            obtain ⟨A2, K2⟩ := A.appN w
            have D1 : (Asm.appNil (.push (.is g) (.cells [.int .i64 ((w + 1 : Nat) : Int)] true)) g.length 0 1 0 1 8 [.int .i64 ((w + 1 : Nat) : Int)] (g.length + 1)).holds Try.prog := a_appGN rfl rfl (by omega) (get_new _ _) (push_len _ _)
            have D2 : (Asm.st (.push (.push (.is g) (.cells [.int .i64 ((w + 1 : Nat) : Int)] true)) (.cells [.int .i64 ((w + 1 : Nat) : Int)] true)) b8 0 [.slice (some ⟨g.length + 1, 0, none⟩) 1 1] [.slice (some ⟨g.length + 1, 0, none⟩) 1 1]).holds Try.prog := a_st (get_push (get_push A.box)) (by simp) rfl
            refine main _ _ A2 K2 (fun g3 ho R Lo e => ?_) (fun s' yi g3 ho R Lo Lf r3 => ?_)
            · subst e
              obtain ⟨E2, q1, q2⟩ := pvC 0 hE (r43p.bm_nn si b8 b9 so y.tks.length 0 i xi g.length (g.length + 1) 0 0 0 x.opn.length zo none op i ((i + 1 : Nat) : Int) ((w + 1 : Nat) : Int) [] [.int .i64 ((w + 1 : Nat) : Int)] [.slice (some ⟨g.length + 1, 0, none⟩) 1 1] g _ g)
                ⟨B1, B2, B3, B4, stat48, B5, B6, rfl, D1, D2, Lo, R, B9, trivial⟩
              exact ⟨E2, .trans (.add (.add (.add (.add (.add (.add (.nil _) rfl) rfl) rfl) rfl) rfl) rfl) q1, q2⟩
            · obtain ⟨E2, q1, q2⟩ := pvC 0 hE (r43p.bm_ns si b8 b9 so y.tks.length 0 i xi g.length (g.length + 1) 0 0 yi x.opn.length zo none op i ((i + 1 : Nat) : Int) ((w + 1 : Nat) : Int) [] [.int .i64 ((w + 1 : Nat) : Int)] [.slice (some ⟨g.length + 1, 0, none⟩) 1 1] g _ g3)
                ⟨B1, B2, B3, B4, stat48, B5, B6, rfl, D1, D2, Lo, R, Lf, r3, B9, trivial⟩
              exact ⟨E2, .trans (.add (.add (.add (.add (.add (.add (.nil _) rfl) rfl) rfl) rfl) rfl) rfl) q1, q2⟩
          · obtain ⟨A2, K2⟩ := A.appS hoo hlo w
            have lo := A.lo
            have D1 : (Asm.app (.push (.is g) (.cells [.int .i64 ((w + 1 : Nat) : Int)] true)) o 0 acc1.length g.length 0 1 0 1 8 (nmL acc1 ++ [.int .i64 ((w + 1 : Nat) : Int)]) [.int .i64 ((w + 1 : Nat) : Int)] (g.length + 1)).holds Try.prog := a_appGS rfl rfl (by omega) (by omega) (by rw [nmL_len, Nat.mul_one]) (get_push hoo) (get_new _ _) (push_len _ _)
            have D2 : (Asm.st (.push (.set (.push (.is g) (.cells [.int .i64 ((w + 1 : Nat) : Int)] true)) o .dead) (.cells (nmL acc1 ++ [.int .i64 ((w + 1 : Nat) : Int)]) true)) b8 0 [.slice (some ⟨g.length + 1, 0, none⟩) (acc1.length + 1) 1] [.slice (some ⟨g.length + 1, 0, none⟩) (acc1.length + 1) 1]).holds Try.prog := a_st (get_push (get_set_ne (get_push A.box) (by omega))) (by simp) rfl
            refine main _ _ A2 K2 (fun g3 ho R Lo e => ?_) (fun s' yi g3 ho R Lo Lf r3 => ?_)
            · subst e
              obtain ⟨E2, q1, q2⟩ := pvC 0 hE (r43p.bm_sn si b8 b9 so y.tks.length 0 i xi g.length (g.length + 1) o acc1.length 0 x.opn.length zo none op i ((i + 1 : Nat) : Int) ((w + 1 : Nat) : Int) (nmL acc1 ++ ([.int .i64 ((w + 1 : Nat) : Int)] : List Value)) [.int .i64 ((w + 1 : Nat) : Int)] [.slice (some ⟨g.length + 1, 0, none⟩) (acc1.length + 1) 1] g _ g)
                ⟨B1, B2, B3, B4, stat48, B5, B6, rfl, D1, D2, Lo, R, B9, trivial⟩
              exact ⟨E2, .trans (.add (.add (.add (.add (.add (.add (.nil _) rfl) rfl) rfl) rfl) rfl) rfl) q1, q2⟩
            · obtain ⟨E2, q1, q2⟩ := pvC 0 hE (r43p.bm_ss si b8 b9 so y.tks.length 0 i xi g.length (g.length + 1) o acc1.length yi x.opn.length zo none op i ((i + 1 : Nat) : Int) ((w + 1 : Nat) : Int) (nmL acc1 ++ ([.int .i64 ((w + 1 : Nat) : Int)] : List Value)) [.int .i64 ((w + 1 : Nat) : Int)] [.slice (some ⟨g.length + 1, 0, none⟩) (acc1.length + 1) 1] g _ g3)
                ⟨B1, B2, B3, B4, stat48, B5, B6, rfl, D1, D2, Lo, R, Lf, r3, B9, trivial⟩
              exact ⟨E2, .trans (.add (.add (.add (.add (.add (.add (.nil _) rfl) rfl) rfl) rfl) rfl) rfl) q1, q2⟩
    have Ls : (Asm.ld1 (.is g) si 4 (.slice oa y.tks.length za)).holds Try.prog := by rw [← ev]; exact (a.grow A.keep).ld1 rfl hsi (by rw [cont_sc hy]; rfl)
    obtain ⟨E1, g1, v1, w1, w2, A1, hb91⟩ := loop y.tks.length 0 [(14, .int .i64 (0 : Nat)), (13, .int .i64 (Int.ofNat y.tks.length)), (12, .slice oa y.tks.length za), (0, ptr si), (1, ptr b8), (2, ptr b9)] g v (by omega) (EnvLe.refl _) (by simpa using A) hb9
    have LP := a_loop (P := Try.prog) (n := 67) (rd := false) (s := .is g) (s' := .is g1) (x := .exit 0) (E' := [(0, ptr si), (1, ptr b8), (2, ptr b9)]) (b := loopN Try.f48 0) (by kernel_rfl) (EnvLe.refl _) w1 w2
    have ag1 := a.grow A1.keep
    obtain ⟨ob, zb, eb, eb2⟩ := slv_ex (ρ (.op y.ow)) z.opn.length (fun e => by rw [a.sh.op _ z hz e]; rfl)
    have T1 : (Asm.ld1 (.is g1) si 1 (ptr oi)).holds Try.prog := by
      have := ag1.ld1 (P := Try.prog) (s := .is g1) rfl hsi (d := 1) (v := pvv (ρ (.tk y.ow))) (by rw [cont_sc hy]; rfl)
      rwa [hoi] at this
    have T2 : (Asm.ld1 (.is g1) oi 2 (.slice ob z.opn.length zb)).holds Try.prog := by rw [← eb]; exact ag1.ld1 rfl hoi (by rw [cont_tk hz]; rfl)
    by_cases hin : some s ∈ z.opn
    · have R44 := indexS_run ag1 hz hsi (fun s' hs' => ok.opn _ z s' hz hs') (by omega) hin eb
      have ixl := ixO_lt hin
      have hnext : t.next s = outerO (z.opn.drop (ixO (some s) z.opn + 1)) := by simp only [TS.next, hy, hz, hin, if_true]
      obtain ⟨oo, cc, rw', e1, e2, _⟩ := opn_cells ag1 (f := ixO (some s) z.opn) hz (by omega) (by simp; omega)
      obtain ⟨rfl, rfl⟩ := eb2 oo e1
      have R49 := outer_run (ρ := ρ) (h := g1) (l := z.opn.drop (ixO (some s) z.opn + 1)) (oa := some ⟨oo, 0 + (ixO (some s) z.opn + 1) * 1, none⟩) (za := 1) (by simp; omega) (fun s' hs' => a.sh.sc s' (ok.opn _ z s' hz (List.mem_of_mem_drop hs'))) (fun hne => by
        obtain ⟨o, cc, rw, e1', e2, e3⟩ := opn_cells ag1 (f := ixO (some s) z.opn + 1) hz (by omega) hne
        rw [e1] at e1'; cases e1'
        exact ⟨oo, _, cc, rw, rfl, rfl, e2, fun i v hv => by rw [Nat.zero_add, Nat.mul_one]; exact e3 i v hv⟩)
      rw [List.length_drop, ← hnext] at R49
      have N1 : (Asm.arith .add .i64 ((ixO (some s) z.opn : Nat) : Int) 1 (Int.ofNat (ixO (some s) z.opn + 1))).holds Try.prog := addI (by simp) (by simp only [Int.ofNat_eq_natCast]; omega) (by simp only [Int.ofNat_eq_natCast]; omega)
      have N2 : (Asm.cut (some (.int .i64 (Int.ofNat (ixO (some s) z.opn + 1)))) none z.opn.length (ixO (some s) z.opn + 1) z.opn.length).holds Try.prog := a_cut3 (by omega)
      cases hn : t.next s with
      | none =>
        rw [hn] at R49
        exact ⟨g1, v1, pvF 0 Try.func48 (r43p.bw_nil si b8 b9 y.tks.length za z.opn.length 0 oo oi 0 (ixO (some s) z.opn + 1) 0 oa none ((ixO (some s) z.opn : Nat) : Int) 0 g g1 g1 g1 g1)
          ⟨Ls, a_loop (by kernel_rfl) (.add (.add (.add (.add (.add (.add (.nil _) rfl) rfl) rfl) rfl) rfl) rfl) w1 w2, T1, T2, R44, ltF (by omega), T1, T2, N1, N2, R49, trivial⟩, by rw [List.append_nil]; exact A1, hb91⟩
      | some s' =>
        rw [hn] at R49 hlen
        have hp := next_par W hn ok
        obtain ⟨yi, hyi⟩ := a.sh.sc s' (plen hp).2
        simp only [inP, hyi, pvv] at R49
        simp only at hlen
        obtain ⟨g3, v3, r3, A3, hb93⟩ := ih s' yi (by have := (plen hp).1; omega) (plen hp).2 hyi g1 v1 _ A1 hb91 (by rw [List.length_append]; omega)
        exact ⟨g3, v3, pvF 0 Try.func48 (r43p.bw_go si b8 b9 y.tks.length za z.opn.length 0 oo oi yi (ixO (some s) z.opn + 1) 0 oa none ((ixO (some s) z.opn : Nat) : Int) 0 g g1 g1 g1 g3)
          ⟨Ls, a_loop (by kernel_rfl) (.add (.add (.add (.add (.add (.add (.nil _) rfl) rfl) rfl) rfl) rfl) rfl) w1 w2, T1, T2, R44, ltF (by omega), T1, T2, N1, N2, R49, a_ld1 hb91 rfl, r3, trivial⟩, by rw [← List.append_assoc]; exact A3, hb93⟩
    · have R44 := indexS_none ag1 hz hsi (fun s' hs' => ok.opn _ z s' hz hs') (by omega) hin eb
      have hn : t.next s = none := by simp only [TS.next, hy, hz, hin, if_false]
      rw [hn]
      exact ⟨g1, v1, pvF 0 Try.func48 (r43p.bw_abs si b8 b9 y.tks.length za z.opn.length zb 0 oi 0 0 0 oa ob (Int.negSucc 0) 0 g g1 g1 g1 g1)
        ⟨Ls, a_loop (by kernel_rfl) (.add (.add (.add (.add (.add (.add (.nil _) rfl) rfl) rfl) rfl) rfl) rfl) w1 w2, T1, T2, R44, ltT (by decide), trivial⟩, by rw [List.append_nil]; exact A1, hb91⟩

def TS.below (t : TS) (n : Int) : List Nat × Int := match t.scope n with
  | (none, e) => ([], e)
  | (some s, _) => (t.belowG t.scs.length s, 0)

theorem below_run (a : TAt h ρ t) (ok : TOk c t) (hc : c ≤ 1000) (W : WI none t) (J : WJ t) (hr : ρ .root = some r) (n : Int) :
    ∃ v h', Run Try.prog 27 [ptr r, .int .i64 n] h (.tuple #[v, .int .i64 (t.below n).2]) h' ∧ Keep (fun _ => False) h h' ∧ SlV h' h.length v (t.below n).1.length 1 (nmL (t.below n).1) := by
  have R := scope_run a ok hr n
  rcases hq : t.scope n with ⟨s | s, e⟩
  · have e6 := scope_none hq
    subst e6
    rw [hq] at R
    have e' : t.below n = ([], 6) := by simp only [TS.below, hq]
    rw [e']
    exact ⟨_, h, pvF 0 Try.func27 (r43p.bl_err r 0 0 0 0 0 none n 6 h h h) ⟨R, neT (by omega), trivial⟩, Keep.refl _ _, .inl ⟨rfl, rfl, rfl⟩⟩
  · obtain ⟨rfl, hn, hs⟩ := scope_some hq
    obtain ⟨si, hsi⟩ := a.sh.sc s hs
    rw [hq] at R
    simp only [inP, hsi, pvv] at R
    have e' : t.below n = (t.belowG t.scs.length s, 0) := by simp only [TS.below, hq]
    rw [e']
    obtain ⟨g2, hg2⟩ : ∃ g2, g2 = ((h ++ [AObj.cells [.slice none 0 0] true]) ++ [AObj.cells [.nilFunc] true]).set (h.length + 1) (.cells [FV48 h.length (h.length + 1)] true) := ⟨_, rfl⟩
    have l1 := push_len h (AObj.cells [.slice none 0 0] true)
    have K2 : Keep (fun _ => False) h g2 := by rw [hg2]; exact (((Keep.refl _ h).pushN _).pushN _).setN (by omega) _
    have hb8 : g2[h.length]? = some (.cells [.slice none 0 0] true) := by rw [hg2]; exact get_set_ne (get_push (get_new _ _)) (by omega)
    have hb9 : g2[h.length + 1]? = some (.cells [FV48 h.length (h.length + 1)] true) := by rw [hg2]; exact get_set_eq (get_new' _ l1)
    have A0 : AccN h h.length g2 (.slice none 0 0) [] := ⟨K2, Nat.le_refl _, hb8, .inl ⟨rfl, rfl, rfl⟩⟩
    have bl := below_len ok W J hs
    obtain ⟨g3, v3, r3, A3, hb93⟩ := below_walk a ok hc W J (b8 := h.length) (b9 := h.length + 1) (by omega) t.scs.length s si (by omega) hs hsi g2 _ [] A0 hb9 (by simp; omega)
    rw [List.nil_append] at A3
    obtain ⟨oa, la, za, ev⟩ : ∃ oa la za, v3 = .slice oa la za := by rcases A3.cases with ⟨_, e⟩ | ⟨_, w, e, _⟩ <;> exact ⟨_, _, _, e⟩
    subst ev
    rw [hg2] at r3
    exact ⟨_, g3, pvF 0 Try.func27 (r43p.bl_ok r si h.length (h.length + 1) la za oa n 0 h h g3) ⟨R, neF rfl, rfl, l1, a_st (get_new' _ l1) (by simp) rfl, a_ld1 (get_set_eq (get_new' _ l1)) rfl, r3, a_ld1 A3.box rfl, trivial⟩, A3.keep, A3.sl.mono (by omega)⟩
end

end Go.Proofs.Ytahomnlkkafbjaa.tr

-- printed by wip/tools/pvgen.py; each is checked by the kernel
namespace Go.Proofs.Ytahomnlkkafbjaa.r40p
open Go Go.Ev
set_option maxRecDepth 100000
set_option linter.unusedVariables false

end Go.Proofs.Ytahomnlkkafbjaa.r40p

namespace Go.Proofs.Ytahomnlkkafbjaa.tr
open Go Go.Ev
set_option maxRecDepth 100000
set_option linter.unusedVariables false
set_option linter.constructorNameAsVariable false

/-! ### TreeWithin: the plain law -/

/-- What stands in a way up. -/
def okL (t : TS) (p : Pr) : Prop := (p.1 = 1 ∧ ∃ m x, p.2 = ((m + 1 : Nat) : Int) ∧ t.tks[m]? = some x ∧ x.en = false) ∨ (p.1 = 2 ∧ ∃ s y, p.2 = ((s + 1 : Nat) : Int) ∧ t.scs[s]? = some y ∧ y.ov = false) ∨ p.1 = 3
theorem chainG_ok {t : TS} {c : Nat} (ok : TOk c t) (W : WI none t) : ∀ (f k top : Nat) (x : Tk), k < f → t.tks[k]? = some x → x.en = false →
    (∀ p, p ∈ t.chainG f k top → okL t p) ∧ ∃ m z, (t.chainG f k top).getLast? = some (1, ((m + 1 : Nat) : Int)) ∧ t.tks[m]? = some z ∧ z.inn = none := by
  intro f
  induction f with
  | zero => intro k top x hk; omega
  | succ f ih =>
    intro k top x hk hx he
    have pre : ∀ p, p ∈ (x.opn.take top).reverse.map lkP ++ [((1 : Int), ((k + 1 : Nat) : Int))] → okL t p := fun p hp => by
      rcases List.mem_append.1 hp with hp | hp
      · obtain ⟨v, hv, rfl⟩ := List.mem_map.1 hp
        have hm := List.mem_of_mem_take (List.mem_reverse.1 hv)
        cases v with
        | none => exact .inr (.inr rfl)
        | some s =>
          obtain ⟨y, hy⟩ : ∃ y, t.scs[s]? = some y := ⟨_, List.getElem?_eq_getElem (ok.opn k x s hx hm)⟩
          exact .inr (.inl ⟨rfl, s, y, rfl, hy, (open_ov W hx hm hy).1⟩)
      · rw [List.mem_singleton] at hp
        subst hp
        exact .inl ⟨rfl, k, x, rfl, hx, he⟩
    rw [TS.chainG]
    simp only [hx]
    cases hi : x.inn with
    | none =>
      simp only [List.append_nil]
      exact ⟨pre, k, x, by simp, hx, hi⟩
    | some s =>
      obtain ⟨y, zz, hy, hz, hov, hin, hen, hlt⟩ := W.above ok hx he hi
      simp only [hy, hz]
      obtain ⟨h1, m, w, h2, h3, h4⟩ := ih y.ow (ixO (some s) zz.opn) zz (by omega) hz hen
      refine ⟨fun p hp => ?_, m, w, ?_, h3, h4⟩
      · rcases List.mem_append.1 hp with hp | hp
        · exact pre p hp
        · rcases List.mem_cons.1 hp with rfl | hp
          · exact .inr (.inl ⟨rfl, s, y, rfl, hy, hov⟩)
          · exact h1 p hp
      · have hne : t.chainG f y.ow (ixO (some s) zz.opn) ≠ [] := fun e => by rw [e] at h2; cases h2
        rw [List.getLast?_append, List.getLast?_cons, h2]
        simp

section
variable {h : Hp} {ρ : Lay} {t : TS} {c b : Nat}

theorem chainG_len {t : TS} {c : Nat} (ok : TOk c t) : ∀ (f k top : Nat), (t.chainG f k top).length ≤ f * (c + 2)
  | 0, _, _ => by simp [TS.chainG]
  | f + 1, k, top => by
    rw [TS.chainG]
    cases hx : t.tks[k]? with
    | none => simp
    | some x =>
      have hl := ok.len k x hx
      have e : (f + 1) * (c + 2) = f * (c + 2) + (c + 2) := by rw [Nat.add_mul, Nat.one_mul]
      have h1 : ((x.opn.take top).reverse.map lkP).length ≤ c := by simp; omega
      simp only [List.length_append, List.length_singleton]
      rw [e]
      cases hi : x.inn with
      | none => simp only [List.length_nil]; omega
      | some s =>
        simp only
        cases hy : t.scs[s]? with
        | none => simp only [List.length_nil]; omega
        | some y =>
          simp only
          cases hz : t.tks[y.ow]? with
          | none => simp only [List.length_nil]; omega
          | some z =>
            have := chainG_len ok f y.ow (ixO (some s) z.opn)
            simp only [List.length_cons]
            omega

theorem runs_at {t : TS} {k : Nat} {x : Tk} (hx : t.tks[k]? = some x) : t.runs ((k + 1 : Nat) : Int) = if x.en then (none, 6) else (some k, 0) := by
  have hl := get_lt' hx
  unfold TS.runs
  have e : (((k + 1 : Nat) : Int) - 1).toNat = k := by omega
  simp only [e, hx]
  rw [if_neg (by omega)]
theorem runs_out {t : TS} {k : Nat} (h : t.tks.length ≤ k) : t.runs ((k + 1 : Nat) : Int) = (none, 6) := by
  unfold TS.runs
  rw [if_pos (by omega)]
end

end Go.Proofs.Ytahomnlkkafbjaa.tr

namespace Go.Proofs.Ytahomnlkkafbjaa.tr
open Go Go.Ev
set_option maxRecDepth 100000
set_option linter.unusedVariables false
set_option linter.constructorNameAsVariable false

section
variable {h : Hp} {ρ : Lay} {t : TS} {c b : Nat}

theorem containsN_run {l : List Nat} {v : Value} (hb : l.length ≤ 1000000) (A : SlG h v l.length 1 (nmL l)) (p : Nat) : Run Try.prog 28 [v, .int .i64 ((p + 1 : Nat) : Int)] h (.bool (decide (p ∈ l))) h := by
  obtain ⟨_, oa, za, rfl, A⟩ := A
  have loop : ∀ (j i : Nat) (E : Env), i + j = l.length → EnvLe [(8, .int .i64 (i : Int)), (7, .int .i64 (Int.ofNat l.length)), (0, .slice oa l.length za), (1, .int .i64 ((p + 1 : Nat) : Int))] E → (∀ j, j < i → l[j]? ≠ some p) →
      (∃ E1 k, EnvLe [(4, .int .i64 ((k : Nat) : Int))] E1 ∧ LRun Try.prog 19 false (loopN Try.f50 0) E h .ret E1 h ∧ p ∈ l) ∨
      (∃ E1, LRun Try.prog 19 false (loopN Try.f50 0) E h (.exit 0) E1 h ∧ p ∉ l) := by
    intro j
    induction j with
    | zero =>
      intro i E hi hE hn
      have e : i = l.length := by omega
      subst e
      obtain ⟨E2, q1, q2⟩ := pvC 0 hE (r43p.in_out oa 0 l.length za 0 ((p + 1 : Nat) : Int) 0 l.length 0 false h h) ⟨ltF (by simp), trivial⟩
      refine .inr ⟨E2, .last q2 (by simp), fun hm => ?_⟩
      obtain ⟨k, hk⟩ := List.mem_iff_getElem?.1 hm
      exact hn k (get_lt' hk) hk
    | succ j ih =>
      intro i E hi hE hn
      obtain ⟨w, hw⟩ : ∃ w, l[i]? = some w := ⟨_, List.getElem?_eq_getElem (by omega)⟩
      obtain ⟨o, junk, rw1, rfl, rfl, ho⟩ := A (by omega)
      have B1 : (Asm.cmp .lss (i : Int) (Int.ofNat l.length) true).holds Try.prog := ltT (by simp; omega)
      have B2 : (Asm.off i 0 (i : Int) l.length 1).holds Try.prog := offI (q := i) rfl (by omega) (by omega)
      have B3 : (Asm.ld1 (.is h) o i (.int .i64 ((w + 1 : Nat) : Int))).holds Try.prog := a_ld1 ho (by rw [List.getElem?_append_left (by rw [nmL_len]; omega), nmL, List.getElem?_map, hw]; rfl)
      by_cases hp : p = w
      · obtain ⟨E2, q1, q2⟩ := pvC 0 hE (r43p.in_eq none o l.length 0 i ((p + 1 : Nat) : Int) ((w + 1 : Nat) : Int) i 0 false h h) ⟨B1, B2, B3, eqT (by omega), trivial⟩
        exact .inl ⟨E2, i, .trans (.add (.nil _) rfl) q1, .last q2 (by simp), by rw [hp]; exact List.mem_of_getElem? hw⟩
      · obtain ⟨E2, q1, q2⟩ := pvC 0 hE (r43p.in_ne none o l.length 0 i ((p + 1 : Nat) : Int) ((w + 1 : Nat) : Int) i ((i + 1 : Nat) : Int) false h h) ⟨B1, B2, B3, eqF (by omega), addI rfl (by omega) (by omega), trivial⟩
        have hn' : ∀ j, j < i + 1 → l[j]? ≠ some p := fun k hk e => by
          by_cases e1 : k = i
          · subst e1; rw [hw] at e; cases e; exact hp rfl
          · exact hn k (by omega) e
        rcases ih (i + 1) E2 (by omega) (.trans (.add (.add (.add (.add (.nil _) rfl) rfl) rfl) rfl) q1) hn' with ⟨E3, k, s1, s2, s3⟩ | ⟨E3, s2, s3⟩
        · exact .inl ⟨E3, k, s1, .step q2 s2, s3⟩
        · exact .inr ⟨E3, .step q2 s2, s3⟩
  rcases loop l.length 0 [(8, .int .i64 (0 : Nat)), (7, .int .i64 (Int.ofNat l.length)), (0, .slice oa l.length za), (1, .int .i64 ((p + 1 : Nat) : Int))] (by omega) (EnvLe.refl _) (fun j hj => absurd hj (Nat.not_lt_zero _)) with ⟨E1, k, q1, q2, q3⟩ | ⟨E1, q2, q3⟩
  · rw [decide_eq_true q3]
    exact pvF 0 Try.func28 (r43p.cn oa 0 l.length za 0 ((p + 1 : Nat) : Int) 0 k 0 true h h) ⟨pvF 0 Try.func50 (r43p.in_f oa 0 l.length za 0 ((p + 1 : Nat) : Int) 0 k 0 false h h) ⟨a_loop (by kernel_rfl) (.add (.add (.add (.add (.nil _) rfl) rfl) rfl) rfl) q1 q2, trivial⟩, geT (by omega), trivial⟩
  · rw [decide_eq_false q3]
    exact pvF 0 Try.func28 (r43p.cn oa 0 l.length za 0 ((p + 1 : Nat) : Int) 0 (Int.negSucc 0) 0 false h h) ⟨pvF 0 Try.func50 (r43p.in_n oa 0 l.length za 0 ((p + 1 : Nat) : Int) 0 0 0 false h h) ⟨a_loop (by kernel_rfl) (.add (.add (.add (.add (.nil _) rfl) rfl) rfl) rfl) (.nil _) q2, trivial⟩, geF (by decide), trivial⟩

/-- Contains, from some place of a list on. -/
theorem containsO_run {l : List Pr} {o f : Nat} {cs junk : List Value} {rw : Bool} (hb : l.length ≤ 1000000) (ho : h[o]? = some (.cells cs rw)) (hc : cs.drop f = prL l ++ junk) (hf : f ≤ cs.length) (p : Pr) :
    ∃ h', Run Try.prog 17 [.slice (some ⟨o, f, none⟩) l.length 2, .agg (prC p).toArray] h (.bool (decide (p ∈ l))) h' ∧ Keep (fun _ => False) h h' := by
  have K0 : Keep (fun _ => False) h (h ++ [AObj.cells (prC p) true]) := (Keep.refl (fun _ => False) h).pushN _
  have K1 : Keep (fun _ => False) h (h ++ [AObj.cells (prC p) true] ++ [AObj.cells (prC p) true]) := K0.pushN _
  obtain ⟨g, hg⟩ : ∃ g, g = h ++ [AObj.cells (prC p) true] ++ [AObj.cells (prC p) true] := ⟨_, rfl⟩
  rw [← hg] at K1
  have h3 : g[h.length + 1]? = some (.cells (prC p) true) := by rw [hg]; exact get_new' _ (push_len _ _)
  have ho' := K1.2 _ _ ho id
  have clen : cs.length = f + (l.length * 2 + junk.length) := by
    have := congrArg List.length hc
    rw [List.length_drop, List.length_append, prL_len] at this
    omega
  have loop : ∀ (j i : Nat) (E : Env), i + j = l.length → EnvLe [(8, .int .i64 (i : Int)), (7, .int .i64 (Int.ofNat l.length)), (0, .slice (some ⟨o, f, none⟩) l.length 2), (3, ptr (h.length + 1))] E → (∀ j, j < i → l[j]? ≠ some p) →
      (∃ E1 k, EnvLe [(4, .int .i64 ((k : Nat) : Int))] E1 ∧ LRun Try.prog 19 false (loopN Try.f26 0) E g .ret E1 g ∧ p ∈ l) ∨
      (∃ E1, LRun Try.prog 19 false (loopN Try.f26 0) E g (.exit 0) E1 g ∧ p ∉ l) := by
    intro j
    induction j with
    | zero =>
      intro i E hi hE hn
      have e : i = l.length := by omega
      subst e
      obtain ⟨E2, q1, q2⟩ := pvC 0 hE (r35p.ix_out (some ⟨o, f, none⟩) 0 l.length 2 (h.length + 1) 0 0 0 0 0 l.length 0 g) ⟨ltF (by simp), trivial⟩
      refine .inr ⟨E2, .last q2 (by simp), fun hm => ?_⟩
      obtain ⟨k, hk⟩ := List.mem_iff_getElem?.1 hm
      exact hn k (get_lt' hk) hk
    | succ j ih =>
      intro i E hi hE hn
      obtain ⟨w, hw⟩ : ∃ w, l[i]? = some w := ⟨_, List.getElem?_eq_getElem (by omega)⟩
      have a1 : (cs.drop (f + i * 2)).take 2 = prC w := by
        rw [← List.drop_drop, hc]; exact prL_at junk hw
      by_cases hp : p = w
      · obtain ⟨E2, q1, q2⟩ := pvC 0 hE (r43p.iy_eq o f l.length (h.length + 1) (f + i * 2) p.1 p.2 w.1 w.2 i 0 g)
          ⟨ltT (by simp; omega), stat26, a_ldn h3 (by simp [prC]) rfl, offI (q := i) rfl (by omega) (by omega), a_ldn ho' (by omega) a1, aeq44T hp, trivial⟩
        exact .inl ⟨E2, i, .trans (.add (.nil _) rfl) q1, .last q2 (by simp), by rw [hp]; exact List.mem_of_getElem? hw⟩
      · obtain ⟨E2, q1, q2⟩ := pvC 0 hE (r43p.iy_ne o f l.length (h.length + 1) (f + i * 2) p.1 p.2 w.1 w.2 i ((i + 1 : Nat) : Int) g)
          ⟨ltT (by simp; omega), stat26, a_ldn h3 (by simp [prC]) rfl, offI (q := i) rfl (by omega) (by omega), a_ldn ho' (by omega) a1, aeq44F hp, addI rfl (by omega) (by omega), trivial⟩
        have hn' : ∀ j, j < i + 1 → l[j]? ≠ some p := fun k hk e => by
          by_cases e1 : k = i
          · subst e1; rw [hw] at e; cases e; exact hp rfl
          · exact hn k (by omega) e
        rcases ih (i + 1) E2 (by omega) (.trans (.add (.add (.add (.add (.nil _) rfl) rfl) rfl) rfl) q1) hn' with ⟨E3, k, s1, s2, s3⟩ | ⟨E3, s2, s3⟩
        · exact .inl ⟨E3, k, s1, .step q2 s2, s3⟩
        · exact .inr ⟨E3, .step q2 s2, s3⟩
  have L5 : (Asm.ldn (.push (.is h) (.cells (prC p) true)) h.length 0 2 (prC p)).holds Try.prog := a_ldn (get_new _ _) (by simp [prC]) rfl
  rcases loop l.length 0 [(8, .int .i64 (0 : Nat)), (7, .int .i64 (Int.ofNat l.length)), (0, .slice (some ⟨o, f, none⟩) l.length 2), (3, ptr (h.length + 1))] (by omega) (EnvLe.refl _) (fun j hj => absurd hj (Nat.not_lt_zero _)) with ⟨E1, k, q1, q2, q3⟩ | ⟨E1, q2, q3⟩
  · rw [decide_eq_true q3]
    have R : Run Try.prog 26 [.slice (some ⟨o, f, none⟩) l.length 2, .agg (prC p).toArray] (h ++ [AObj.cells (prC p) true]) (.int .i64 (k : Int)) g :=
      pvF 0 Try.func26 (r35p.ix_f (some ⟨o, f, none⟩) l.length 2 (h.length + 1) p.1 p.2 k false (h ++ [AObj.cells (prC p) true]) g) ⟨push_len _ _, a_loop (by kernel_rfl) (.add (.add (.add (.add (.nil _) rfl) rfl) rfl) rfl) q1 (by rw [hg] at q2 ⊢; exact q2), trivial⟩
    exact ⟨g, pvF 0 Try.func17 (r35p.ct (some ⟨o, f, none⟩) l.length 2 h.length p.1 p.2 k true h g) ⟨rfl, L5, R, geT (by omega), trivial⟩, K1⟩
  · rw [decide_eq_false q3]
    have R : Run Try.prog 26 [.slice (some ⟨o, f, none⟩) l.length 2, .agg (prC p).toArray] (h ++ [AObj.cells (prC p) true]) (.int .i64 (Int.negSucc 0)) g :=
      pvF 0 Try.func26 (r35p.ix_n (some ⟨o, f, none⟩) l.length 2 (h.length + 1) p.1 p.2 0 false (h ++ [AObj.cells (prC p) true]) g) ⟨push_len _ _, a_loop (by kernel_rfl) (.add (.add (.add (.add (.nil _) rfl) rfl) rfl) rfl) (.nil _) (by rw [hg] at q2 ⊢; exact q2), trivial⟩
    exact ⟨g, pvF 0 Try.func17 (r35p.ct (some ⟨o, f, none⟩) l.length 2 h.length p.1 p.2 (Int.negSucc 0) false h g) ⟨rfl, L5, R, geF (by decide), trivial⟩, K1⟩

/-! ### TreeBelow -/

/-- What stands in a way up from the task itself on. -/
theorem own_at (ok : TOk c t) (W : WI none t) (J : WJ t) {k : Nat} {x : Tk} (hx : t.tks[k]? = some x) (he : x.en = false) {r : Int} (hr : IxR (t.chainG (k + 1) k x.opn.length) (1, ((k + 1 : Nat) : Int)) r) :
    ∃ a : Nat, r = a ∧ a ≤ (t.chainG (k + 1) k x.opn.length).length ∧ ∀ s : Nat, s < t.scs.length → (((2 : Int), ((s + 1 : Nat) : Int)) ∈ (t.chainG (k + 1) k x.opn.length).drop a ↔ k ∈ t.belowG t.scs.length s) := by
  have e1 : t.chainG (k + 1) k x.opn.length = x.opn.reverse.map lkP ++ ((1 : Int), ((k + 1 : Nat) : Int)) :: (match x.inn with
      | none => []
      | some s => match t.scs[s]? with
        | none => []
        | some y => match t.tks[y.ow]? with
          | none => []
          | some z => lkP (some s) :: t.chainG k y.ow (ixO (some s) z.opn)) := by
    rw [TS.chainG]
    simp only [hx, List.take_length, List.append_assoc, List.singleton_append]
    all_goals
      cases x.inn with
      | none => rfl
      | some s =>
        simp only
        cases t.scs[s]? with
        | none => rfl
        | some y =>
          simp only
          cases t.tks[y.ow]? <;> rfl
  obtain ⟨R, hR⟩ : ∃ R, R = (match x.inn with
      | none => ([] : List Pr)
      | some s => match t.scs[s]? with
        | none => []
        | some y => match t.tks[y.ow]? with
          | none => []
          | some z => lkP (some s) :: t.chainG k y.ow (ixO (some s) z.opn)) := ⟨_, rfl⟩
  rw [← hR] at e1
  obtain ⟨L, hL⟩ : ∃ L, L = x.opn.reverse.map lkP := ⟨_, rfl⟩
  rw [← hL] at e1
  have nL : ((1 : Int), ((k + 1 : Nat) : Int)) ∉ L := fun hm => by
    rw [hL] at hm
    obtain ⟨v, _, e⟩ := List.mem_map.1 hm
    cases v <;> simp [lkP, lkK] at e
  rw [e1] at hr ⊢
  rcases hr with ⟨a, rfl, h1, h2⟩ | ⟨_, h1⟩
  · have ha : a = L.length := by
      have g : ¬ a < L.length := fun hlt => by
        rw [List.getElem?_append_left hlt] at h1
        exact nL (List.mem_of_getElem? h1)
      have g2 : ¬ L.length < a := fun hlt => h2 L.length hlt (by simp)
      omega
    subst ha
    refine ⟨L.length, rfl, by simp, fun s hs => ?_⟩
    rw [List.drop_left, List.mem_cons, mem_below ok W J t.scs.length s (by omega) hs k]
    constructor
    · rintro (h | h)
      · simp at h
      · rw [hR] at h
        cases hi : x.inn with
        | none => rw [hi] at h; cases h
        | some s0 =>
          obtain ⟨y, z, hy, hz, hov, hin, hen, hlt⟩ := W.above ok hx he hi
          simp only [hi, hy, hz] at h
          exact ⟨x, s0, hx, he, hi, (chain_abv ok W J s0 y z k hy hz hin hlt hen s).1 h⟩
    · rintro ⟨x', s0, hx', he', hi, ha⟩
      rw [hx] at hx'; cases hx'
      obtain ⟨y, z, hy, hz, hov, hin, hen, hlt⟩ := W.above ok hx he hi
      right
      rw [hR]
      simp only [hi, hy, hz]
      exact (chain_abv ok W J s0 y z k hy hz hin hlt hen s).2 ha
  · exact absurd (by simp) h1

theorem below_at {t : TS} {s : Nat} (h : s < t.scs.length) : t.below ((s + 1 : Nat) : Int) = (t.belowG t.scs.length s, 0) := by
  have e : t.scope ((s + 1 : Nat) : Int) = (some s, 0) := by
    unfold TS.scope
    rw [if_neg (by omega), show (((s + 1 : Nat) : Int) - 1).toNat = s by omega]
  simp only [TS.below, e]
theorem below_out {t : TS} {s : Nat} (h : t.scs.length ≤ s) : t.below ((s + 1 : Nat) : Int) = ([], 6) := by
  have e : t.scope ((s + 1 : Nat) : Int) = (none, 6) := by
    unfold TS.scope
    rw [if_pos (by omega)]
  simp only [TS.below, e]

theorem below_scopes (a : TAt h ρ t) (ok : TOk c t) (hc : c ≤ 1000) (W : WI none t) (J : WJ t) (hr : ρ .root = some b) {k : Nat} {e own : Int} {oa : Option Addr} {ln za : Nat} {g0 : Hp} (K0 : Keep (fun _ => False) h g0)
    (H : (e ≠ 0 ∧ ∀ s : Nat, s < t.scs.length → k ∉ t.belowG t.scs.length s) ∨ (e = 0 ∧ ∃ (o w : Nat) (l : List Pr), oa = some ⟨o, 0, none⟩ ∧ za = 2 ∧ ln = l.length ∧ own = Int.ofNat w ∧ w ≤ l.length ∧ l.length ≤ 1000000 ∧ g0[o]? = some (.cells (prL l) true) ∧ ∀ s : Nat, s < t.scs.length → (((2 : Int), ((s + 1 : Nat) : Int)) ∈ l.drop w ↔ k ∈ t.belowG t.scs.length s))) :
    ∀ (r s : Nat) (E : Env) (g : Hp), s + r = 200 → EnvLe [(10, .int .i64 ((s + 1 : Nat) : Int)), (7, .slice oa ln za), (8, .int .i64 e), (9, .int .i64 own), (6, .int .i64 ((k + 1 : Nat) : Int)), (5, ptr b)] E → Keep (fun _ => False) g0 g →
      ∃ E1 g', EnvLe [(6, .int .i64 ((k + 1 : Nat) : Int)), (5, ptr b)] E1 ∧ LRun Try.prog 68 false (loopN Try.f7 1) E g (.exit 2) E1 g' ∧ Keep (fun _ => False) g0 g' := by
  intro r
  induction r with
  | zero =>
    intro s E g hs hE K
    obtain ⟨E2, q1, q2⟩ := pvC 0 hE (r43p.bs_out b 0 ln za 0 oa ((k + 1 : Nat) : Int) e own ((s + 1 : Nat) : Int) 0 0 (.bool true) g g g g) ⟨leF (by omega), trivial⟩
    exact ⟨E2, g, .trans (.add (.add (.nil _) rfl) rfl) q1, .last q2 (by simp), K⟩
  | succ r ih =>
    intro s E g hs hE K
    have n64 := ok.n64
    obtain ⟨v, g1, r1, K1, V1⟩ := below_run (a.grow (K0.trans K)) ok hc W J hr ((s + 1 : Nat) : Int)
    have D1 : (Asm.cmp .leq ((s + 1 : Nat) : Int) 200 true).holds Try.prog := leT (by omega)
    have DA : (Asm.arith .add .i64 ((s + 1 : Nat) : Int) 1 ((s + 1 + 1 : Nat) : Int)).holds Try.prog := addI rfl (by omega) (by omega)
    by_cases hsl : t.scs.length ≤ s
    · rw [below_out hsl] at r1
      obtain ⟨E2, q1, q2⟩ := pvC 0 hE (r43p.bs_end b 0 ln za 0 oa ((k + 1 : Nat) : Int) e own ((s + 1 : Nat) : Int) 0 6 v g g1 g1 g1) ⟨D1, r1, neT (by omega), trivial⟩
      exact ⟨E2, g1, .trans (.add (.add (.nil _) rfl) rfl) q1, .last q2 (by simp), K.trans K1⟩
    · rw [below_at (by omega)] at r1 V1
      have bl := below_len ok W J (s := s) (by omega)
      rcases H with ⟨he, hno⟩ | ⟨he, o, w, l, rfl, rfl, rfl, rfl, hw, hll, ho, hiff⟩
      · have R := containsN_run (by simp only; omega) V1.g k
        rw [decide_eq_false (hno s (by omega))] at R
        obtain ⟨E2, q1, q2⟩ := pvC 0 hE (r43p.bs_no b 0 ln za 0 oa ((k + 1 : Nat) : Int) e own ((s + 1 : Nat) : Int) ((s + 1 + 1 : Nat) : Int) 0 v g g1 g1 g1) ⟨D1, r1, neF rfl, eqF he, R, DA, trivial⟩
        obtain ⟨E3, g3, s1, s2, s3⟩ := ih (s + 1) E2 g1 (by omega) (.trans (.add (.add (.add (.add (.add (.add (.nil _) rfl) rfl) rfl) rfl) rfl) rfl) q1) (K.trans K1)
        exact ⟨E3, g3, s1, .step q2 s2, s3⟩
      · have ho1 := K1.2 _ _ (K.2 _ _ ho id) id
        have ll := prL_len l
        have hdr : ∀ (w : Nat) (l : List Pr), w ≤ l.length → (prL l).drop (0 + w * 2) = prL (l.drop w) ++ [] := fun w l hw => by
          rw [Nat.zero_add, List.append_nil]
          induction w generalizing l with
          | zero => simp
          | succ w ihw =>
            cases l with
            | nil => simp at hw
            | cons p l =>
              rw [List.drop_succ_cons, ← ihw l (by simpa using hw), prL_cons, List.drop_append, List.drop_of_length_le (by simp [prC]; omega), List.nil_append]
              congr 1
              simp [prC]; omega
        obtain ⟨g2, r2, K2⟩ := containsO_run (l := l.drop w) (f := 0 + w * 2) (by rw [List.length_drop]; omega) ho1 (hdr w l hw) (by omega) (2, ((s + 1 : Nat) : Int))
        rw [decide_eq_decide.2 (hiff s (by omega)), List.length_drop] at r2
        have R := containsN_run (by simp only; omega) (V1.g.keep K2) k
        have N2 : (Asm.cut (some (.int .i64 (Int.ofNat w))) none l.length w l.length).holds Try.prog := a_cut3 hw
        have fin : ∀ E2, EnvLe [(10, .int .i64 ((s + 1 + 1 : Nat) : Int)), (7, .slice (some ⟨o, 0, none⟩) l.length 2), (8, .int .i64 e), (9, .int .i64 (Int.ofNat w)), (6, .int .i64 ((k + 1 : Nat) : Int)), (5, ptr b)] E2 → CRun Try.prog 68 false (loopN Try.f7 1) E g .normal E2 g2 →
            ∃ E1 g', EnvLe [(6, .int .i64 ((k + 1 : Nat) : Int)), (5, ptr b)] E1 ∧ LRun Try.prog 68 false (loopN Try.f7 1) E g (.exit 2) E1 g' ∧ Keep (fun _ => False) g0 g' := fun E2 h1 h2 => by
          obtain ⟨E3, g3, s1, s2, s3⟩ := ih (s + 1) E2 g2 (by omega) h1 (K.trans (K1.trans K2))
          exact ⟨E3, g3, s1, .step h2 s2, s3⟩
        by_cases hm : k ∈ t.belowG t.scs.length s
        · rw [decide_eq_true hm] at r2 R
          obtain ⟨E2, q1, q2⟩ := pvC 0 hE (r43p.bs_true b o l.length 0 w none ((k + 1 : Nat) : Int) e 0 ((s + 1 : Nat) : Int) ((s + 1 + 1 : Nat) : Int) 0 v g g1 g2 g2) ⟨D1, r1, neF rfl, eqT he, N2, r2, R, DA, trivial⟩
          exact fin E2 (.trans (.add (.add (.add (.add (.add (.add (.nil _) rfl) rfl) rfl) rfl) rfl) rfl) q1) q2
        · rw [decide_eq_false hm] at r2 R
          obtain ⟨E2, q1, q2⟩ := pvC 0 hE (r43p.bs_false b o l.length 0 w none ((k + 1 : Nat) : Int) e 0 ((s + 1 : Nat) : Int) ((s + 1 + 1 : Nat) : Int) 0 v g g1 g2 g2) ⟨D1, r1, neF rfl, eqT he, N2, r2, R, DA, trivial⟩
          exact fin E2 (.trans (.add (.add (.add (.add (.add (.add (.nil _) rfl) rfl) rfl) rfl) rfl) rfl) q1) q2

theorem below_tasks (a : TAt h ρ t) (ok : TOk c t) (hc : c ≤ 1000) (W : WI none t) (J : WJ t) (hr : ρ .root = some b) :
    ∀ (r k : Nat) (E : Env) (g : Hp), k + r = 64 → EnvLe [(6, .int .i64 ((k + 1 : Nat) : Int)), (5, ptr b)] E → Keep (fun _ => False) h g →
      ∃ E1 g', LRun Try.prog 68 false (loopN Try.f7 0) E g (.exit 0) E1 g' := by
  intro r
  induction r with
  | zero =>
    intro k E g hk hE K
    obtain ⟨E2, q1, q2⟩ := pvC 0 hE (r43p.be_out b 0 0 none ((k + 1 : Nat) : Int) 0 0 0 g g g g) ⟨leF (by omega), trivial⟩
    exact ⟨E2, g, .last q2 (by simp)⟩
  | succ r ih =>
    intro k E g hk hE K
    have ag := a.grow K
    obtain ⟨v, g1, r1, K1, V1⟩ := chain_run ag ok hc W hr ((k + 1 : Nat) : Int)
    have D1 : (Asm.cmp .leq ((k + 1 : Nat) : Int) 64 true).holds Try.prog := leT (by omega)
    have DA : (Asm.arith .add .i64 ((k + 1 : Nat) : Int) 1 ((k + 1 + 1 : Nat) : Int)).holds Try.prog := addI rfl (by omega) (by omega)
    have next : ∀ {E2 : Env} {g' : Hp}, EnvLe [(6, .int .i64 ((k + 1 + 1 : Nat) : Int)), (5, ptr b)] E2 → CRun Try.prog 68 false (loopN Try.f7 0) E g .normal E2 g' → Keep (fun _ => False) g g' → ∃ E1 g', LRun Try.prog 68 false (loopN Try.f7 0) E g (.exit 0) E1 g' := fun h1 h2 h3 => by
      obtain ⟨E3, g9, s1⟩ := ih (k + 1) _ _ (by omega) h1 (K.trans h3)
      exact ⟨E3, g9, .step h2 s1⟩
    by_cases hrun : ∃ x, t.tks[k]? = some x ∧ x.en = false
    · obtain ⟨x, hx, he⟩ := hrun
      have e1 : t.chain ((k + 1 : Nat) : Int) = (t.chainG (k + 1) k x.opn.length, 0) := by simp only [TS.chain, runs_at hx, he, Bool.false_eq_true, if_false, hx]
      have hll := chainG_len ok (k + 1) k x.opn.length
      have hlb : (t.chainG (k + 1) k x.opn.length).length ≤ 1000000 := Nat.le_trans hll (Nat.le_trans (Nat.mul_le_mul (show k + 1 ≤ 64 by omega) (show c + 2 ≤ 1002 by omega)) (by omega))
      obtain ⟨_, m, zz, hlast, _, _⟩ := chainG_ok ok W (k + 1) k x.opn.length x (by omega) hx he
      rw [e1] at r1 V1
      have own := fun r => own_at (r := r) ok W J hx he
      obtain ⟨cl, hcl⟩ : ∃ cl, cl = t.chainG (k + 1) k x.opn.length := ⟨_, rfl⟩
      rw [← hcl] at r1 V1 hlb hlast own
      simp only at r1 V1
      have hln : cl.length ≠ 0 := fun e => by rw [List.length_eq_zero_iff.1 e] at hlast; cases hlast
      obtain ⟨own', g2, r2, K2, hix⟩ := index_run hlb V1.g (1, ((k + 1 : Nat) : Int))
      obtain ⟨w, hw, hwl, hiff⟩ := own own' hix
      obtain ⟨o, rfl, ho, hol⟩ := V1.at hln
      obtain ⟨E5, g5, m1, m2, m3⟩ := below_scopes (k := k) (e := 0) (own := own') (oa := some ⟨o, 0, none⟩) (ln := cl.length) (za := 2) a ok hc W J hr (K.trans (K1.trans K2)) (.inr ⟨rfl, o, w, cl, rfl, rfl, rfl, by rw [hw]; rfl, hwl, hlb, K2.2 _ _ ho id, hiff⟩) 200 0
        [(10, .int .i64 ((0 + 1 : Nat) : Int)), (7, .slice (some ⟨o, 0, none⟩) cl.length 2), (8, .int .i64 0), (9, .int .i64 own'), (6, .int .i64 ((k + 1 : Nat) : Int)), (5, ptr b)] g2 (by omega) (EnvLe.refl _) (Keep.refl _ _)
      obtain ⟨E2, q1, q2⟩ := pvC 0 hE (r43p.be_ok b cl.length 2 (some ⟨o, 0, none⟩) ((k + 1 : Nat) : Int) ((k + 1 + 1 : Nat) : Int) 0 own' g g1 g2 g5)
        ⟨D1, r1, r2, eqT rfl, ltF (by omega), a_loop (by kernel_rfl) (.add (.add (.add (.add (.add (.add (.nil _) rfl) rfl) rfl) rfl) rfl) rfl) m1 m2, DA, trivial⟩
      exact next (.trans (.add (.add (.nil _) rfl) rfl) q1) q2 (K1.trans (K2.trans m3))
    · have e1 : t.chain ((k + 1 : Nat) : Int) = ([], 6) := by
        by_cases hkl : t.tks.length ≤ k
        · simp only [TS.chain, runs_out hkl]
        · obtain ⟨x, hx⟩ : ∃ x, t.tks[k]? = some x := ⟨_, List.getElem?_eq_getElem (by omega)⟩
          have he : x.en = true := by
            cases h : x.en with
            | true => rfl
            | false => exact absurd ⟨x, hx, h⟩ hrun
          simp only [TS.chain, runs_at hx, he, if_true]
      rw [e1] at r1 V1
      obtain ⟨own', g2, r2, K2, hix⟩ := index_run (l := ([] : List Pr)) (by simp) V1.g (1, ((k + 1 : Nat) : Int))
      obtain ⟨_, oa, za, rfl, _⟩ := V1.g
      obtain ⟨E5, g5, m1, m2, m3⟩ := below_scopes (k := k) (e := 6) (own := own') (oa := oa) (ln := 0) (za := za) a ok hc W J hr (K.trans (K1.trans K2)) (.inl ⟨by omega, fun s hs hm => by
          obtain ⟨x, s0, hx, he, _⟩ := (mem_below ok W J t.scs.length s (by omega) hs k).1 hm
          exact hrun ⟨x, hx, he⟩⟩) 200 0
        [(10, .int .i64 ((0 + 1 : Nat) : Int)), (7, .slice oa 0 za), (8, .int .i64 6), (9, .int .i64 own'), (6, .int .i64 ((k + 1 : Nat) : Int)), (5, ptr b)] g2 (by omega) (EnvLe.refl _) (Keep.refl _ _)
      obtain ⟨E2, q1, q2⟩ := pvC 0 hE (r43p.be_no b 0 za oa ((k + 1 : Nat) : Int) ((k + 1 + 1 : Nat) : Int) 6 own' g g1 g2 g5)
        ⟨D1, r1, r2, eqF (by omega), a_loop (by kernel_rfl) (.add (.add (.add (.add (.add (.add (.nil _) rfl) rfl) rfl) rfl) rfl) rfl) m1 m2, DA, trivial⟩
      exact next (.trans (.add (.add (.nil _) rfl) rfl) q1) q2 (K1.trans (K2.trans m3))

theorem belowlaw_run {ops : List OpV} {vl : Value} (n : Int) (hv : OpsAt h vl ops) : ∃ h', Run Try.prog 7 [.int .i64 n, vl] h (.bool true) h' := by
  rcases made_run n hv with ⟨hn, r1⟩ | ⟨h1, h2, b, ρ, g1, r1, a, m⟩
  · exact ⟨_, pvF 0 Try.func7 (r43p.be_nil 0 n vl h _ _ h) ⟨r1, awake_run _, trivial⟩⟩
  · have ok0 := roots_ok n.toNat (by omega)
    have W : WI none ((TS.roots n.toNat).runL (ops.take 60)) := (WI.roots n.toNat).runL ok0
    have J : WJ ((TS.roots n.toNat).runL (ops.take 60)) := (WJ.roots n.toNat).runL ok0
    have ok : TOk 124 ((TS.roots n.toNat).runL (ops.take 60)) := (ok0.runL (l := ops.take 60)).mono (by simp; omega)
    generalize (TS.roots n.toNat).runL (ops.take 60) = t at a ok W J
    obtain ⟨E2, g2, q1⟩ := below_tasks a ok (by omega) W J m.root 64 0 [(6, .int .i64 ((0 + 1 : Nat) : Int)), (5, ptr b)] g1 (by omega) (EnvLe.refl _) (Keep.refl _ _)
    exact ⟨_, pvF 0 Try.func7 (r43p.be b n vl h g1 g2 g2) ⟨r1, a_loop (by kernel_rfl) (.add (.add (.nil _) rfl) rfl) (.nil _) q1, awake_run _, trivial⟩⟩
end

end Go.Proofs.Ytahomnlkkafbjaa.tr
