import Derived.Test.YtkkhokgpcifckaaCopiesD
set_option linter.unusedVariables false
namespace Go.Proofs.Ytkkhokgpcifckaa.wd
open Go Go.Ev

theorem byte_at {s : ByteArray} {k : Nat} (hk : k < s.size) : s[k]? = some (s.data.toList[k]'(by simpa using hk)) := by
  rw [getElem?_pos s k hk]; rfl

def okB (b : UInt8) : Bool := decide (32 ≤ b.toNat) && decide (b.toNat ≤ 126)

theorem text_run : TextRun := by
  intro g s
  by_cases hl : s.size ≤ 60
  · have f0 : (Asm.cmp .gtr (Int.ofNat s.size) 60 false).holds Try.prog := by simp [Asm.holds, cmpB]; omega
    have hlen : s.data.toList.length = s.size := Array.length_toList
    have body : ∀ (k : Nat) (E : Env), k < s.size → EnvLe [(9, .int .i64 k), (8, .int .i64 (Int.ofNat s.size)), (0, .string s)] E → ∀ b, s.data.toList[k]? = some b →
        (okB b = true → ∃ E1, EnvLe [(9, .int .i64 ((k + 1 : Nat) : Int)), (8, .int .i64 (Int.ofNat s.size)), (0, .string s)] E1 ∧ CRun Try.prog 23 false (loopN Try.f44 0) E g .normal E1 g) ∧
        (okB b = false → ∃ E1, EnvLe [(2, .bool false)] E1 ∧ CRun Try.prog 23 false (loopN Try.f44 0) E g .ret E1 g) := by
      intro k E hk hE b hb
      have hat : s[k]? = some b := by rw [byte_at hk, ← hb, List.getElem?_eq_getElem]
      have f1 : (Asm.cmp .lss (k : Int) (Int.ofNat s.size) true).holds Try.prog := by simp [Asm.holds, cmpB]; omega
      have f2 : (Asm.sidx s k b.toNat).holds Try.prog := ⟨by omega, b, by simpa using hat, rfl⟩
      refine ⟨fun ho => ?_, fun ho => ?_⟩
      · simp [okB] at ho
        obtain ⟨E2, q1, q2⟩ := pvC 0 hE (w9p.tx_go s k (Int.ofNat s.size) g b.toNat ((k + 1 : Nat) : Int)) ⟨f1, f2, by simp [Asm.holds, cmpB]; omega, f2, by simp [Asm.holds, cmpB]; omega, by simp only [Asm.holds, arithI, add1 (show k < 1000000000000 by omega)], trivial⟩
        exact ⟨E2, .trans (.add (.add (.add (.nil _) rfl) rfl) rfl) q1, q2⟩
      · by_cases h1 : b.toNat < 32
        · obtain ⟨E2, q1, q2⟩ := pvC 0 hE (w9p.tx_low s k (Int.ofNat s.size) g b.toNat) ⟨f1, f2, by simp [Asm.holds, cmpB]; omega, trivial⟩
          exact ⟨E2, .trans (.add (.nil _) rfl) q1, q2⟩
        · have h2 : 126 < b.toNat := by simp [okB] at ho; omega
          obtain ⟨E2, q1, q2⟩ := pvC 0 hE (w9p.tx_high s k (Int.ofNat s.size) g b.toNat) ⟨f1, f2, by simp [Asm.holds, cmpB]; omega, f2, by simp [Asm.holds, cmpB]; omega, trivial⟩
          exact ⟨E2, .trans (.add (.nil _) rfl) q1, q2⟩
    have pl : plainC (loopN Try.f44 0) = true := by kernel_rfl
    by_cases hall : s.data.toList.all okB = true
    · have e : textB s = true := by
        have : (s.data.toList.all fun b => decide (32 ≤ b.toNat) && decide (b.toNat ≤ 126)) = true := hall
        simp only [textB, this, decide_eq_true hl, Bool.and_self]
      rw [e]
      obtain ⟨x', E1, h1, hl1, rfl, rfl⟩ := loop_inv (P := Try.prog) (n := 23) (rd := false) (b := loopN Try.f44 0) (Q := fun x' _ h1 => x' = .exit 0 ∧ g = h1)
        (fun m E g' => ∃ k : Nat, k ≤ s.size ∧ m = s.size - k ∧ EnvLe [(9, .int .i64 k), (8, .int .i64 (Int.ofNat s.size)), (0, .string s)] E ∧ g = g')
        (fun m E g' ⟨k, k1, k2, k3, k4⟩ => by
          subst k4
          by_cases ek : k = s.size
          · right
            obtain ⟨E2, q1, q2⟩ := pvC 0 k3 (w9p.tx_end s k (Int.ofNat s.size) g) ⟨by simp [Asm.holds, cmpB]; omega, trivial⟩
            exact ⟨_, E2, _, by simp, q2, rfl, rfl⟩
          · left
            obtain ⟨b, hb⟩ : ∃ b, s.data.toList[k]? = some b := ⟨_, List.getElem?_eq_getElem (by omega)⟩
            obtain ⟨E2, q1, q2⟩ := (body k E (by omega) k3 b hb).1 (List.all_eq_true.1 hall b (List.mem_of_getElem? hb))
            exact ⟨s.size - (k + 1), E2, _, by omega, q2, k + 1, by omega, rfl, q1, rfl⟩)
        s.size [(9, .int .i64 ((0 : Nat) : Int)), (8, .int .i64 (Int.ofNat s.size)), (0, .string s)] g ⟨0, by omega, rfl, EnvLe.refl _, rfl⟩
      exact pvF 0 Try.func44 (w9p.tx_yes s g) ⟨f0, a_loop pl (.add (.add (.add (.nil _) rfl) rfl) rfl) (.nil _) hl1, trivial⟩
    · have e : textB s = false := by
        have : (s.data.toList.all fun b => decide (32 ≤ b.toNat) && decide (b.toNat ≤ 126)) = false := Bool.eq_false_iff.2 hall
        simp only [textB, this, Bool.and_false]
      rw [e]
      obtain ⟨k0, hk0, hmin⟩ : ∃ k0, (∃ b, s.data.toList[k0]? = some b ∧ okB b = false) ∧ ∀ m b, m < k0 → s.data.toList[m]? = some b → okB b = true := by
        have hlt : s.data.toList.findIdx (fun b => !okB b) < s.data.toList.length := by
          rw [List.findIdx_lt_length]
          obtain ⟨b, hb, hn⟩ : ∃ b ∈ s.data.toList, okB b = false := by
            obtain ⟨b, hb, hn⟩ := List.all_eq_false.1 (Bool.eq_false_iff.2 hall)
            exact ⟨b, hb, by simpa using hn⟩
          exact ⟨b, hb, by simp [hn]⟩
        refine ⟨s.data.toList.findIdx (fun b => !okB b), ⟨_, List.getElem?_eq_getElem hlt, ?_⟩, fun m b hm hb => ?_⟩
        · have := List.findIdx_getElem (w := hlt); simpa using this
        · have h1 := List.not_of_lt_findIdx hm
          rw [List.getElem?_eq_getElem (by omega)] at hb
          simp only [Option.some.injEq] at hb
          rw [hb] at h1
          simpa using h1
      obtain ⟨b0, hb0, hn0⟩ := hk0
      have hk0l := get_lt' hb0
      obtain ⟨x', E1, h1, hl1, rfl, hE1, rfl⟩ := loop_inv (P := Try.prog) (n := 23) (rd := false) (b := loopN Try.f44 0) (Q := fun x' E1 h1 => x' = .ret ∧ EnvLe [(2, .bool false)] E1 ∧ g = h1)
        (fun m E g' => ∃ k : Nat, k ≤ k0 ∧ m = k0 - k ∧ EnvLe [(9, .int .i64 k), (8, .int .i64 (Int.ofNat s.size)), (0, .string s)] E ∧ g = g')
        (fun m E g' ⟨k, k1, k2, k3, k4⟩ => by
          subst k4
          by_cases ek : k = k0
          · right
            subst ek
            obtain ⟨E2, q1, q2⟩ := (body k E (by omega) k3 b0 hb0).2 hn0
            exact ⟨_, E2, _, by simp, q2, rfl, q1, rfl⟩
          · left
            obtain ⟨b, hb⟩ : ∃ b, s.data.toList[k]? = some b := ⟨_, List.getElem?_eq_getElem (by omega)⟩
            obtain ⟨E2, q1, q2⟩ := (body k E (by omega) k3 b hb).1 (hmin k b (by omega) hb)
            exact ⟨k0 - (k + 1), E2, _, by omega, q2, k + 1, by omega, rfl, q1, rfl⟩)
        k0 [(9, .int .i64 ((0 : Nat) : Int)), (8, .int .i64 (Int.ofNat s.size)), (0, .string s)] g ⟨0, by omega, rfl, EnvLe.refl _, rfl⟩
      exact pvF 0 Try.func44 (w9p.tx_no s g) ⟨f0, a_loop pl (.add (.add (.add (.nil _) rfl) rfl) rfl) hE1 hl1, trivial⟩
  · have e : textB s = false := by simp [textB, hl]
    rw [e]
    exact pvF 0 Try.func44 (w9p.tx_long s g) ⟨by simp [Asm.holds, cmpB]; omega, trivial⟩

end Go.Proofs.Ytkkhokgpcifckaa.wd

namespace Go.Proofs.Ytkkhokgpcifckaa.wd
open Go Go.Ev

variable {h : Hp} {i j : Nat} {t : Option Nat} {w : WS}

/-! ### A call of the law's -/

structure OpV where
  kind : Int
  n : Int
  at' : Int
  fk : Int
  ft : ByteArray

def OpV.cells (o : OpV) : List Value := [.int .i64 o.kind, .int .i64 o.n, .int .i64 o.at', .int .i64 o.fk, .string o.ft]

def runF (w : WS) (o : OpV) : WS × List Sv := if o.kind = 0 then ((endedF w o.n o.fk o.ft o.at').1, (endedF w o.n o.fk o.ft o.at').2.1) else ((startedF w o.n o.at').1, [])

theorem run_run (a : WAt h i j t w) (hw : WOk w) (ht : w.times.length < 10000) (o : OpV) :
    ∃ v h' t', Run Try.prog 17 [.pointer (some ⟨i, 0, none⟩), .agg o.cells.toArray] h v h' ∧ WAt h' i j t' (runF w o).1 ∧ (∃ b, h.length ≤ b ∧ (∀ q, t' = some q → q < b) ∧ OrdAt h' b v (runF w o).2) ∧ Keep (fpW i j t) h h' ∧
      (∀ q, t' = some q → t = some q ∨ h.length ≤ q) := by
  have a0 := a.app [AObj.cells o.cells true]
  have K0 : Keep (fpW i j t) h (h ++ [AObj.cells o.cells true]) := Keep.push _ _ _
  have hb := get_new h (AObj.cells o.cells true)
  have htl : ∀ q, t = some q → q < h.length := fun q e => a.lts q (.inr (.inr e))
  unfold runF
  by_cases c : o.kind = 0
  · rw [if_pos c]
    obtain ⟨v, h', t', r1, r2, ⟨b, b1, b2, b3⟩, r4, r5⟩ := ended_run text_run a0 hw ht o.n o.fk o.at' o.ft
    refine ⟨v, h', t', pvF 0 Try.func17 (w10p.run0 i h.length o.kind o.n o.at' o.fk _ o.ft v h h') ⟨rfl, a_ld1 hb rfl, by simpa [Asm.holds, cmpB] using c, a_ld1 hb rfl, a_ldn hb (by simp [OpV.cells]) rfl, a_ld1 hb rfl, r1, trivial⟩, r2, ⟨b, by simp at b1; omega, b2, b3⟩, K0.trans r4,
      fun q e => by rcases r5 q e with e | e; exact .inl e; exact .inr (by simp at e; omega)⟩
  · rw [if_neg c]
    obtain ⟨h', r1, r2, r3⟩ := started_run a0 hw o.n o.at'
    refine ⟨_, h', t, pvF 0 Try.func17 (w10p.run1 i h.length o.kind o.n o.at' o.fk _ o.ft .nilFunc h h') ⟨rfl, a_ld1 hb rfl, by simpa [Asm.holds, cmpB] using c, a_ld1 hb rfl, a_ld1 hb rfl, r1, trivial⟩, r2, ⟨h.length, Nat.le_refl _, htl, .inl ⟨rfl, rfl⟩⟩,
      K0.trans (r3.mono fun q _ e => by rcases e with e | e; exact .inl e; exact .inr (.inl e)), fun q e => .inl e⟩

end Go.Proofs.Ytkkhokgpcifckaa.wd

namespace Go.Proofs.Ytkkhokgpcifckaa.wd
open Go Go.Ev

variable {w : WS}

theorem begin_times (w : WS) : (beginF w).1.times = w.times := by unfold beginF; split <;> rfl
theorem again_times (w : WS) (n : Int) : (againF w n).1.times = w.times ++ [w.now] := by
  unfold againF
  split
  · rfl
  · rw [begin_times]; rfl
theorem follow_times (w : WS) (n fk : Int) (x : Sv) : (followF w n fk x).1.times = w.times ∨ (followF w n fk x).1.times = w.times ++ [w.now] := by
  unfold followF
  split
  · exact .inl rfl
  · split
    · exact .inl (begin_times _)
    · split
      · exact .inl rfl
      · exact .inr (again_times _ _)

theorem WOk.ended (hw : WOk w) (ht : w.times.length < 10000) (n fk : Int) (ft : ByteArray) (now : Int) :
    WOk (endedF w n fk ft now).1 ∧ (endedF w n fk ft now).1.svs.length = w.svs.length ∧ (endedF w n fk ft now).1.times.length ≤ w.times.length + 1 := by
  unfold endedF
  split
  · exact ⟨hw, rfl, by simp⟩
  · rename_i hc
    split
    · exact ⟨hw, rfl, by simp⟩
    · rename_i x hx
      split
      · have hnw : 0 ≤ now ∧ now ≤ 1000000000000 := by
          simp [lateB] at hc; have := hw.now; omega
        have hwn : WOk { w with now := now } := ⟨hw.n1, hw.n8, hw.most, hw.within, hw.base, hw.cap, hnw, hw.delay, hw.times, hw.rule⟩
        obtain ⟨h1, h2⟩ := hwn.follow ht n fk x
        refine ⟨h1, h2, ?_⟩
        rcases follow_times { w with now := now } n fk x with e | e
        · simp only [doneF, e]; omega
        · simp only [doneF, e, List.length_append, List.length_cons, List.length_nil]; omega
      · exact ⟨hw, rfl, by simp⟩

theorem WOk.started (hw : WOk w) (n now : Int) : WOk (startedF w n now).1 ∧ (startedF w n now).1.svs.length = w.svs.length ∧ (startedF w n now).1.times = w.times := by
  unfold startedF
  split
  · exact ⟨hw, rfl, rfl⟩
  · rename_i hc
    split
    · exact ⟨hw, rfl, rfl⟩
    · split
      · split
        · exact ⟨hw, rfl, rfl⟩
        · have hnw : 0 ≤ now ∧ now ≤ 1000000000000 := by
            simp [lateB] at hc; have := hw.now; omega
          exact ⟨⟨by simp only [putSv_len]; exact hw.n1, by simp only [putSv_len]; exact hw.n8, hw.most, hw.within, hw.base, hw.cap, hnw, hw.delay, hw.times, hw.rule⟩, putSv_len _ _ _, rfl⟩
      · exact ⟨hw, rfl, rfl⟩

theorem run_ok (hw : WOk w) (ht : w.times.length < 10000) (o : OpV) : WOk (runF w o).1 ∧ (runF w o).1.svs.length = w.svs.length ∧ (runF w o).1.times.length ≤ w.times.length + 1 := by
  unfold runF
  split
  · exact hw.ended ht _ _ _ _
  · obtain ⟨h1, h2, h3⟩ := hw.started o.n o.at'
    exact ⟨h1, h2, by rw [h3]; omega⟩

end Go.Proofs.Ytkkhokgpcifckaa.wd

namespace Go.Proofs.Ytkkhokgpcifckaa.wd
open Go Go.Ev

theorem awake_run (h : Hp) : Run Try.prog 12 [] h (.bool true) h := Run.of_ev (k := 40) (by kernel_rfl)

end Go.Proofs.Ytkkhokgpcifckaa.wd

namespace Go.Proofs.Ytkkhokgpcifckaa.wd
open Go Go.Ev

variable {h : Hp}

/-! ### Clone -/

theorem iC_ones : ∀ l : List Int, (iC l).all Value.oneCell' = true
  | [] => rfl
  | x :: l => by simp only [iC, List.map_cons, List.all_cons]; exact iC_ones l

theorem clone35_run {o : Nat} {l : List Sv} {rw : Bool} (ho : h[o]? = some (.cells (svC l) rw)) (hn : l ≠ []) (hb : l.length ≤ 1000) :
    ∃ d h', Run Try.prog 35 [.slice (some ⟨o, 0, none⟩) l.length 3] h (.slice (some ⟨d, 0, none⟩) l.length 3) h' ∧ h'[d]? = some (.cells (svC l) true) ∧ h.length ≤ d ∧ Keep (fun _ => False) h h' := by
  have hol := get_lt ho
  have hp := a_app3 (P := Try.prog) (s := .push (.is h) (.cells [] true)) (o1 := h.length) (o2 := o) (d := h.length + 1) (l1 := []) (l2 := l) (get_new h _) (get_push ho) hn (by simpa using hb) (by simp [SH.den])
  have hr := pvF 0 Try.func35 (w13p.cl35_some o l.length (l.length - 1) h.length (h.length + 1) (svC ([] ++ l)) (svC l) h) ⟨rfl, hp, trivial⟩
  rw [Nat.zero_add] at hr
  refine ⟨_, _, hr, get_new' _ (by simp [SH.den]), by omega, ?_⟩
  have K1 : Keep (fun q => q = h.length) (h ++ [AObj.cells [] true]) (((h ++ [AObj.cells [] true]).set h.length .dead) ++ [AObj.cells (svC ([] ++ l)) true]) := (Keep.set (fp := fun q => q = h.length) rfl _).trans (Keep.push _ _ _)
  exact (Keep.push (fun _ => False) h (AObj.cells [] true)).trans_new K1 (fun q hq e => by omega)

theorem clone36_run {o : Nat} {l : List Int} {rw : Bool} (ho : h[o]? = some (.cells (iC l) rw)) (hn : l ≠ []) (hb : l.length ≤ 1000000) :
    ∃ d h', Run Try.prog 36 [.slice (some ⟨o, 0, none⟩) l.length 1] h (.slice (some ⟨d, 0, none⟩) l.length 1) h' ∧ h'[d]? = some (.cells (iC l) true) ∧ h.length ≤ d ∧ Keep (fun _ => False) h h' := by
  have hol := get_lt ho
  have hl := iC_len l
  have hne : l.length ≠ 0 := fun e => hn (List.length_eq_zero_iff.1 e)
  have hp : (Asm.app (.push (.is h) (.cells [] true)) h.length 0 0 o 0 l.length (l.length - 1) 1 8 (iC l) (iC l) (h.length + 1)).holds Try.prog :=
    ⟨by omega, ⟨_, cells_of (get_push ho), by omega, by rw [List.drop_zero, List.take_of_length_le (by omega)]⟩, iC_ones l, by omega, by omega, ⟨_, own_of (get_new h _), by simp, by simp⟩, by simp [SH.den]⟩
  have hr := pvF 0 Try.func36 (w13p.cl36_some o l.length (l.length - 1) h.length (h.length + 1) (iC l) (iC l) h) ⟨rfl, hp, trivial⟩
  rw [Nat.zero_add] at hr
  refine ⟨_, _, hr, get_new' _ (by simp [SH.den]), by omega, ?_⟩
  have K1 : Keep (fun q => q = h.length) (h ++ [AObj.cells [] true]) (((h ++ [AObj.cells [] true]).set h.length .dead) ++ [AObj.cells (iC l) true]) := (Keep.set (fp := fun q => q = h.length) rfl _).trans (Keep.push _ _ _)
  exact (Keep.push (fun _ => False) h (AObj.cells [] true)).trans_new K1 (fun q hq e => by omega)

theorem clone36_nil : Run Try.prog 36 [.slice none 0 0] h (.slice none 0 0) h := pvF 0 Try.func36 (w13p.cl36_nil h) trivial

end Go.Proofs.Ytkkhokgpcifckaa.wd

namespace Go.Proofs.Ytkkhokgpcifckaa.wd
open Go Go.Ev

variable {h : Hp} {i j : Nat} {t : Option Nat} {w : WS}

theorem stat21 : statOk (drawN Try.f21 0) = true := by kernel_rfl
theorem agg32 : aggSize Try.prog 32 = some none := by kernel_rfl

end Go.Proofs.Ytkkhokgpcifckaa.wd

namespace Go.Proofs.Ytkkhokgpcifckaa.wd
open Go Go.Ev

variable {h : Hp}

/-! ### valid.Value, valid.Values -/

structure VV where
  k : Int
  n : Int
  s : ByteArray

def VV.cells (x : VV) : List Value := [.int .i64 x.k, .int .i64 x.n, .string x.s]
def vvC : List VV → List Value
  | [] => []
  | x :: l => .int .i64 x.k :: .int .i64 x.n :: .string x.s :: vvC l

theorem vvC_len : ∀ l : List VV, (vvC l).length = l.length * 3
  | [] => rfl
  | x :: l => by simp [vvC, vvC_len l]; omega
theorem vvC_cut : ∀ {l : List VV} {k : Nat} {x : VV}, l[k]? = some x → ((vvC l).drop (k * 3)).take 3 = x.cells
  | [], k, x, h => by simp at h
  | y :: l, 0, x, h => by simp at h; subst h; simp [vvC, VV.cells]
  | y :: l, k + 1, x, h => by
    have := vvC_cut (l := l) (k := k) (x := x) (by simpa using h)
    rw [show (k + 1) * 3 = k * 3 + 3 by omega]
    simpa [vvC] using this
theorem vvC_ones : ∀ l : List VV, (vvC l).all Value.oneCell' = true
  | [] => rfl
  | x :: l => by simp only [vvC, List.all_cons, vvC_ones l]; rfl
theorem vvC_take : ∀ (l : List VV) (n : Nat), (vvC l).take (n * 3) = vvC (l.take n)
  | [], n => by simp [vvC]
  | x :: l, 0 => by simp [vvC]
  | x :: l, n + 1 => by
    rw [show (n + 1) * 3 = n * 3 + 1 + 1 + 1 by omega]
    simp [vvC, vvC_take l n]

def emptyB (s : ByteArray) : Bool := s.toList == (⟨#[]⟩ : ByteArray).toList

def valueB (x : VV) : Bool :=
  if x.k = 0 then decide (x.n = 0) && decide (x.s.data.toList = []) else
  if x.k = 1 then emptyB x.s && (decide (x.n ≥ -1000000000000) && decide (x.n ≤ 1000000000000)) else
  if x.k = 2 then emptyB x.s && (decide (x.n = 0) || decide (x.n = 1)) else
  if x.k = 3 then decide (x.n = 0) && textB x.s else
  if x.k = 4 ∨ x.k = 5 ∨ x.k = 6 then emptyB x.s && (decide (x.n ≥ 1) && decide (x.n ≤ 1000000000000)) else false

theorem value_run (g : Hp) (x : VV) : Run Try.prog 54 [.agg x.cells.toArray] g (.bool (valueB x)) (g ++ [.cells x.cells true]) := by
  obtain ⟨k, n, s⟩ := x
  have L0 : (Asm.ld1 (.push (.is g) (.cells [.int .i64 k, .int .i64 n, .string s] true)) g.length 0 (.int .i64 k)).holds Try.prog := a_ld1 (get_new g _) rfl
  have L1 : (Asm.ld1 (.push (.is g) (.cells [.int .i64 k, .int .i64 n, .string s] true)) g.length 1 (.int .i64 n)).holds Try.prog := a_ld1 (get_new g _) rfl
  have L2 : (Asm.ld1 (.push (.is g) (.cells [.int .i64 k, .int .i64 n, .string s] true)) g.length 2 (.string s)).holds Try.prog := a_ld1 (get_new g _) rfl
  have N : ∀ c : Int, k ≠ c → (Asm.cmp .eql k c false).holds Try.prog := fun c e => by simpa [Asm.holds, cmpB] using e
  have Y : ∀ c : Int, k = c → (Asm.cmp .eql k c true).holds Try.prog := fun c e => by simpa [Asm.holds, cmpB] using e
  have S1 : ∀ b, emptyB s = b → (Asm.scmp .eql s ⟨⟨[]⟩⟩ b).holds Try.prog := fun b e => .inl ⟨rfl, e⟩
  unfold valueB
  simp only
  by_cases c0 : k = 0
  · rw [if_pos c0]
    subst c0
    obtain ⟨⟨sl⟩⟩ := s
    match n, sl with
    | .ofNat 0, [] => exact pvF 0 Try.func54 (w15p.va_unit g.length 0 0 ⟨⟨[]⟩⟩ g) ⟨rfl, L0, Y 0 rfl, a_ldn (get_new g _) (by simp) rfl, trivial⟩
    | .ofNat 0, y :: l => exact pvF 0 Try.func54 (w15p.va_unit_s g.length 0 0 ⟨⟨y :: l⟩⟩ y l g) ⟨rfl, L0, Y 0 rfl, a_ldn (get_new g _) (by simp) rfl, trivial⟩
    | .ofNat (m + 1), sl =>
      have e : decide (Int.ofNat (m + 1) = 0) = false := decide_eq_false (by intro h; cases h)
      rw [e]
      exact pvF 0 Try.func54 (w15p.va_unit_p g.length m 0 (Int.ofNat (m + 1)) ⟨⟨sl⟩⟩ g) ⟨rfl, L0, Y 0 rfl, a_ldn (get_new g _) (by simp) rfl, trivial⟩
    | .negSucc m, sl =>
      have e : decide (Int.negSucc m = 0) = false := by simp
      rw [e]
      exact pvF 0 Try.func54 (w15p.va_unit_n g.length m 0 (Int.negSucc m) ⟨⟨sl⟩⟩ g) ⟨rfl, L0, Y 0 rfl, a_ldn (get_new g _) (by simp) rfl, trivial⟩
  · rw [if_neg c0]
    by_cases c1 : k = 1
    · rw [if_pos c1]
      cases es : emptyB s with
      | false => exact pvF 0 Try.func54 (w15p.va_int0 g.length k n s false false false g) ⟨rfl, L0, N 0 c0, Y 1 c1, L2, S1 _ es, trivial⟩
      | true =>
        rw [Bool.true_and]
        by_cases d : n ≥ -1000000000000
        · rw [decide_eq_true d, Bool.true_and]
          exact pvF 0 Try.func54 (w15p.va_int2 g.length k n s false false _ g) ⟨rfl, L0, N 0 c0, Y 1 c1, L2, S1 _ es, L1, by simpa [Asm.holds, cmpB] using d, L1, by simp [Asm.holds, cmpB], trivial⟩
        · rw [decide_eq_false d, Bool.false_and]
          exact pvF 0 Try.func54 (w15p.va_int1 g.length k n s false false false g) ⟨rfl, L0, N 0 c0, Y 1 c1, L2, S1 _ es, L1, by simp [Asm.holds, cmpB]; omega, trivial⟩
    · rw [if_neg c1]
      by_cases c2 : k = 2
      · rw [if_pos c2]
        cases es : emptyB s with
        | false => exact pvF 0 Try.func54 (w15p.va_bool0 g.length k n s false false false g) ⟨rfl, L0, N 0 c0, N 1 c1, Y 2 c2, L2, S1 _ es, trivial⟩
        | true =>
          rw [Bool.true_and]
          by_cases d : n = 0
          · rw [decide_eq_true d, Bool.true_or]
            exact pvF 0 Try.func54 (w15p.va_bool1 g.length k n s false false false g) ⟨rfl, L0, N 0 c0, N 1 c1, Y 2 c2, L2, S1 _ es, L1, by simpa [Asm.holds, cmpB] using d, trivial⟩
          · rw [decide_eq_false d, Bool.false_or]
            exact pvF 0 Try.func54 (w15p.va_bool2 g.length k n s false false _ g) ⟨rfl, L0, N 0 c0, N 1 c1, Y 2 c2, L2, S1 _ es, L1, by simpa [Asm.holds, cmpB] using d, L1, by simp [Asm.holds, cmpB]; rfl, trivial⟩
      · rw [if_neg c2]
        by_cases c3 : k = 3
        · rw [if_pos c3]
          by_cases d : n = 0
          · rw [decide_eq_true d, Bool.true_and]
            exact pvF 0 Try.func54 (w15p.va_text1 g.length k n s false false _ g) ⟨rfl, L0, N 0 c0, N 1 c1, N 2 c2, Y 3 c3, L1, by simpa [Asm.holds, cmpB] using d, L2, text_run _ s, trivial⟩
          · rw [decide_eq_false d, Bool.false_and]
            exact pvF 0 Try.func54 (w15p.va_text0 g.length k n s false false false g) ⟨rfl, L0, N 0 c0, N 1 c1, N 2 c2, Y 3 c3, L1, by simpa [Asm.holds, cmpB] using d, trivial⟩
        · rw [if_neg c3]
          by_cases c4 : k = 4
          · rw [if_pos (.inl c4)]
            cases es : emptyB s with
            | false => exact pvF 0 Try.func54 (w15p.va_chan0 g.length k n s false false false g) ⟨rfl, L0, N 0 c0, N 1 c1, N 2 c2, N 3 c3, Y 4 c4, L2, S1 _ es, trivial⟩
            | true =>
              rw [Bool.true_and]
              by_cases d : n ≥ 1
              · rw [decide_eq_true d, Bool.true_and]
                exact pvF 0 Try.func54 (w15p.va_chan2 g.length k n s false false _ g) ⟨rfl, L0, N 0 c0, N 1 c1, N 2 c2, N 3 c3, Y 4 c4, L2, S1 _ es, L1, by simpa [Asm.holds, cmpB] using d, L1, by simp [Asm.holds, cmpB], trivial⟩
              · rw [decide_eq_false d, Bool.false_and]
                exact pvF 0 Try.func54 (w15p.va_chan1 g.length k n s false false false g) ⟨rfl, L0, N 0 c0, N 1 c1, N 2 c2, N 3 c3, Y 4 c4, L2, S1 _ es, L1, by simp [Asm.holds, cmpB]; omega, trivial⟩
          · by_cases c5 : k = 5
            · rw [if_pos (.inr (.inl c5))]
              cases es : emptyB s with
              | false => exact pvF 0 Try.func54 (w15p.va_task0 g.length k n s false false false g) ⟨rfl, L0, N 0 c0, N 1 c1, N 2 c2, N 3 c3, N 4 c4, Y 5 c5, L2, S1 _ es, trivial⟩
              | true =>
                rw [Bool.true_and]
                by_cases d : n ≥ 1
                · rw [decide_eq_true d, Bool.true_and]
                  exact pvF 0 Try.func54 (w15p.va_task2 g.length k n s false false _ g) ⟨rfl, L0, N 0 c0, N 1 c1, N 2 c2, N 3 c3, N 4 c4, Y 5 c5, L2, S1 _ es, L1, by simpa [Asm.holds, cmpB] using d, L1, by simp [Asm.holds, cmpB], trivial⟩
                · rw [decide_eq_false d, Bool.false_and]
                  exact pvF 0 Try.func54 (w15p.va_task1 g.length k n s false false false g) ⟨rfl, L0, N 0 c0, N 1 c1, N 2 c2, N 3 c3, N 4 c4, Y 5 c5, L2, S1 _ es, L1, by simp [Asm.holds, cmpB]; omega, trivial⟩
            · by_cases c6 : k = 6
              · rw [if_pos (.inr (.inr c6))]
                cases es : emptyB s with
                | false => exact pvF 0 Try.func54 (w15p.va_lock0 g.length k n s false false false g) ⟨rfl, L0, N 0 c0, N 1 c1, N 2 c2, N 3 c3, N 4 c4, N 5 c5, Y 6 c6, L2, S1 _ es, trivial⟩
                | true =>
                  rw [Bool.true_and]
                  by_cases d : n ≥ 1
                  · rw [decide_eq_true d, Bool.true_and]
                    exact pvF 0 Try.func54 (w15p.va_lock2 g.length k n s false false _ g) ⟨rfl, L0, N 0 c0, N 1 c1, N 2 c2, N 3 c3, N 4 c4, N 5 c5, Y 6 c6, L2, S1 _ es, L1, by simpa [Asm.holds, cmpB] using d, L1, by simp [Asm.holds, cmpB], trivial⟩
                  · rw [decide_eq_false d, Bool.false_and]
                    exact pvF 0 Try.func54 (w15p.va_lock1 g.length k n s false false false g) ⟨rfl, L0, N 0 c0, N 1 c1, N 2 c2, N 3 c3, N 4 c4, N 5 c5, Y 6 c6, L2, S1 _ es, L1, by simp [Asm.holds, cmpB]; omega, trivial⟩
              · rw [if_neg (by omega)]
                exact pvF 0 Try.func54 (w15p.va_other g.length k n s false false false g) ⟨rfl, L0, N 0 c0, N 1 c1, N 2 c2, N 3 c3, N 4 c4, N 5 c5, N 6 c6, trivial⟩

/-- A list of values where it lies. -/
def ArgsAt (h : Hp) (v : Value) (l : List VV) : Prop := (v = .slice none 0 0 ∧ l = []) ∨ ∃ a rw, v = .slice (some ⟨a, 0, none⟩) l.length 3 ∧ h[a]? = some (.cells (vvC l) rw)
theorem ArgsAt.keep {h' : Hp} {v : Value} {l : List VV} (a : ArgsAt h v l) (k : Keep (fun _ => False) h h') : ArgsAt h' v l := by
  rcases a with h1 | ⟨o, rw, h1, h2⟩
  · exact .inl h1
  · exact .inr ⟨o, rw, h1, k.2 _ _ h2 id⟩

theorem values_run {v : Value} {l : List VV} (a : ArgsAt h v l) (hl : l.length ≤ 1000000) : ∃ h', Run Try.prog 38 [v] h (.bool (l.all valueB)) h' ∧ Keep (fun _ => False) h h' := by
  rcases a with ⟨rfl, rfl⟩ | ⟨o, rw, rfl, ho⟩
  · exact ⟨h, pvF 0 Try.func38 (w15p.vs_nil h) trivial, .refl _ _⟩
  · have hlc := vvC_len l
    obtain ⟨x', E1, h1, hl1, hQ⟩ := loop_inv (P := Try.prog) (n := 15) (rd := false) (b := loopN Try.f38 0)
      (Q := fun x' E1 h1 => Keep (fun _ => False) h h1 ∧ ((x' = .exit 0 ∧ l.all valueB = true) ∨ (x' = .ret ∧ EnvLe [(2, .bool false)] E1 ∧ l.all valueB = false)))
      (fun m E g => ∃ k, k ≤ l.length ∧ m = l.length - k ∧ EnvLe [(7, .int .i64 (k : Nat)), (6, .int .i64 (Int.ofNat l.length)), (5, .slice (some ⟨o, 0, none⟩) l.length 3)] E ∧ (l.take k).all valueB = true ∧ Keep (fun _ => False) h g)
      (fun m E g ⟨k, k1, k2, k3, k4, k5⟩ => by
        by_cases e : k = l.length
        · right
          subst e
          obtain ⟨E2, q1, q2⟩ := pvC 0 k3 (w15p.vl_out o l.length (l.length : Nat) g) ⟨by simp [Asm.holds, cmpB], trivial⟩
          exact ⟨_, E2, _, by simp, q2, k5, .inl ⟨rfl, by rwa [List.take_length] at k4⟩⟩
        · obtain ⟨x, hx⟩ : ∃ x, l[k]? = some x := ⟨_, List.getElem?_eq_getElem (by omega)⟩
          have hog := k5.2 _ _ ho id
          have hgl := get_lt hog
          have ak1 : IntKind.i64.wrap ((k : Int) + 1) = ((k + 1 : Nat) : Int) := add1 (by omega)
          have pre1 : (Asm.cmp .lss (k : Int) (Int.ofNat l.length) true).holds Try.prog := by simp [Asm.holds, cmpB]; omega
          have hv := value_run ((g ++ [AObj.cells [.int .i64 0, .int .i64 0, .string ⟨⟨[]⟩⟩] true]).set g.length (.cells x.cells true)) x
          have hK : Keep (fun _ => False) g (((g ++ [AObj.cells [.int .i64 0, .int .i64 0, .string ⟨⟨[]⟩⟩] true]).set g.length (.cells x.cells true)) ++ [.cells x.cells true]) :=
            ((Keep.push (fun _ => False) g _).trans_new (Keep.set (fp := fun q => q = g.length) rfl _) (fun q hq e => by omega)).trans (Keep.push _ _ _)
          have hta : (l.take (k + 1)).all valueB = ((l.take k).all valueB && valueB x) := by rw [take_snoc hx]; simp [List.all_append]
          cases hb : valueB x with
          | true =>
            left
            rw [hb] at hv
            obtain ⟨E2, q1, q2⟩ := pvC 0 k3 (w15p.vl_go o l.length (k * 3) g.length k ((k + 1 : Nat) : Int) x.k x.n x.s g _)
              ⟨pre1, ⟨by omega, by omega, by simp⟩, a_ldn hog (by omega) (vvC_cut hx), rfl, a_st (get_new g _) (by simp) rfl, a_ldn (get_set_eq (get_new g _)) (by simp) rfl, hv, by simp only [Asm.holds, arithI, ak1], trivial⟩
            exact ⟨l.length - (k + 1), E2, _, by omega, q2, k + 1, by omega, rfl, .trans (.add (.add (.add (.nil _) rfl) rfl) rfl) q1, by rw [hta, k4, hb]; rfl, k5.trans hK⟩
          | false =>
            right
            rw [hb] at hv
            obtain ⟨E2, q1, q2⟩ := pvC 0 k3 (w15p.vl_no o l.length (k * 3) g.length k ((k + 1 : Nat) : Int) x.k x.n x.s g _)
              ⟨pre1, ⟨by omega, by omega, by simp⟩, a_ldn hog (by omega) (vvC_cut hx), rfl, a_st (get_new g _) (by simp) rfl, a_ldn (get_set_eq (get_new g _)) (by simp) rfl, hv, trivial⟩
            refine ⟨_, E2, _, by simp, q2, k5.trans hK, .inr ⟨rfl, .trans (.add (.nil _) rfl) q1, ?_⟩⟩
            exact List.all_eq_false.2 ⟨x, List.mem_of_getElem? hx, by simp [hb]⟩)
      l.length [(7, .int .i64 ((0 : Nat) : Int)), (6, .int .i64 (Int.ofNat l.length)), (5, .slice (some ⟨o, 0, none⟩) l.length 3)] h ⟨0, by omega, rfl, EnvLe.refl _, rfl, .refl _ _⟩
    have pl : plainC (loopN Try.f38 0) = true := by kernel_rfl
    obtain ⟨hK, ⟨rfl, hv⟩ | ⟨rfl, hE1, hv⟩⟩ := hQ
    · rw [hv]
      exact ⟨h1, pvF 0 Try.func38 (w15p.vs_some o l.length E1 h h1) ⟨a_loop pl (.add (.add (.add (.nil _) rfl) rfl) rfl) (.refl _) hl1, trivial⟩, hK⟩
    · rw [hv]
      exact ⟨h1, pvF 0 Try.func38 (w15p.vs_no o l.length [] h h1) ⟨a_loop pl (.add (.add (.add (.nil _) rfl) rfl) rfl) hE1 hl1, trivial⟩, hK⟩

/-! ### Clone of services and of values -/

theorem clone_run {f : FuncId} (hf : f = 28 ∨ f = 29) {o n : Nat} {c : List Value} {rw : Bool} (ho : h[o]? = some (.cells c rw)) (hc : n * 3 ≤ c.length) (h1 : (c.take (n * 3)).all Value.oneCell' = true) (hb : n ≤ 1000) :
    ∃ d h', Run Try.prog f [.slice (some ⟨o, 0, none⟩) n 3] h (.slice (some ⟨d, 0, none⟩) n 3) h' ∧ h'[d]? = some (.cells (c.take (n * 3)) true) ∧ h.length ≤ d ∧ Keep (fun _ => False) h h' := by
  have hol := get_lt ho
  by_cases hn : n = 0
  · subst hn
    have ha : (Asm.app0 (.push (.is h) (.cells [] true)) o 0 0).holds Try.prog := ⟨rfl, c, cells_of (get_push ho), by omega⟩
    refine ⟨h.length, h ++ [.cells [] true], ?_, ?_, by omega, Keep.push _ _ _⟩
    · rcases hf with rfl | rfl
      · exact pvF 0 Try.func28 (w15p.cl28_none o 0 h.length h) ⟨rfl, ha, trivial⟩
      · exact pvF 0 Try.func29 (w15p.cl29_none o 0 h.length h) ⟨rfl, ha, trivial⟩
    · rw [Nat.zero_mul, List.take_zero]; exact get_new h _
  · have hp : ∀ by', by' ≤ 1000 → (Asm.app (.push (.is h) (.cells [] true)) h.length 0 0 o 0 n (n - 1) 3 by' (c.take (n * 3)) (c.take (n * 3)) (h.length + 1)).holds Try.prog := fun by' hby =>
      ⟨by omega, ⟨_, cells_of (get_push ho), by omega, by rw [List.drop_zero]⟩, h1, by have := Nat.mul_le_mul (show 0 + n ≤ 1000 by omega) hby; omega, by omega, ⟨_, own_of (get_new h _), by simp, by simp⟩, by simp [SH.den]⟩
    have K1 : Keep (fun q => q = h.length) (h ++ [AObj.cells [] true]) (((h ++ [AObj.cells [] true]).set h.length .dead) ++ [AObj.cells (c.take (n * 3)) true]) := (Keep.set (fp := fun q => q = h.length) rfl _).trans (Keep.push _ _ _)
    refine ⟨h.length + 1, ((h ++ [AObj.cells [] true]).set h.length .dead) ++ [AObj.cells (c.take (n * 3)) true], ?_, get_new' _ (by simp), by omega, (Keep.push (fun _ => False) h (AObj.cells [] true)).trans_new K1 (fun q hq e => by omega)⟩
    rcases hf with rfl | rfl
    · have hr := pvF 0 Try.func28 (w15p.cl28_some o n (n - 1) h.length (h.length + 1) _ _ h) ⟨rfl, hp 40 (by omega), trivial⟩
      rw [Nat.zero_add] at hr; exact hr
    · have hr := pvF 0 Try.func29 (w15p.cl29_some o n (n - 1) h.length (h.length + 1) _ _ h) ⟨rfl, hp 32 (by omega), trivial⟩
      rw [Nat.zero_add] at hr; exact hr

end Go.Proofs.Ytkkhokgpcifckaa.wd

namespace Go.Proofs.Ytkkhokgpcifckaa.wd
open Go Go.Ev

variable {h : Hp}

theorem a_cut {P : Program} {n len : Nat} (hn : n ≤ len) : (Asm.cut none (some (.int .i64 (Int.ofNat n))) len 0 n).holds P := by
  have h1 : (0 : Int) ≤ Int.ofNat n := Int.natCast_nonneg n
  have h2 : Int.ofNat n ≤ (len : Int) := Int.ofNat_le.2 hn
  refine ⟨?_, rfl⟩
  simp only [boundO, decide_eq_true h1, decide_eq_true h2]
  rfl

/-! ### Services of a specification -/

structure SvH where
  fn : Int
  av : Value
  wh : Int

def SvH.cells (x : SvH) : List Value := [.int .i64 x.fn, x.av, .int .i64 x.wh]
def svhC : List SvH → List Value
  | [] => []
  | x :: l => .int .i64 x.fn :: x.av :: .int .i64 x.wh :: svhC l

theorem svhC_len : ∀ l : List SvH, (svhC l).length = l.length * 3
  | [] => rfl
  | x :: l => by simp [svhC, svhC_len l]; omega
theorem svhC_cut : ∀ {l : List SvH} {k : Nat} {x : SvH}, l[k]? = some x → ((svhC l).drop (k * 3)).take 3 = x.cells
  | [], k, x, h => by simp at h
  | y :: l, 0, x, h => by simp at h; subst h; simp [svhC, SvH.cells]
  | y :: l, k + 1, x, h => by
    have := svhC_cut (l := l) (k := k) (x := x) (by simpa using h)
    rw [show (k + 1) * 3 = k * 3 + 3 by omega]
    simpa [svhC] using this
theorem svhC_av : ∀ {l : List SvH} {k : Nat} {x : SvH}, l[k]? = some x → (svhC l)[k * 3 + 1]? = some x.av
  | [], k, x, h => by simp at h
  | y :: l, 0, x, h => by simp at h; subst h; simp [svhC]
  | y :: l, k + 1, x, h => by
    have := svhC_av (l := l) (k := k) (x := x) (by simpa using h)
    rw [show (k + 1) * 3 + 1 = (k * 3 + 1) + 3 by omega]
    simpa [svhC] using this
theorem svhC_put : ∀ {l : List SvH} {k : Nat} {x : SvH} (v : Value), l[k]? = some x → (svhC l).take (k * 3 + 1) ++ [v] ++ (svhC l).drop (k * 3 + 1 + 1) = svhC (l.set k { x with av := v })
  | [], k, x, s, h => by simp at h
  | z :: l, 0, x, s, h => by simp at h; subst h; simp [svhC]
  | z :: l, k + 1, x, s, h => by
    have := svhC_put (l := l) (k := k) (x := x) s (by simpa using h)
    rw [show (k + 1) * 3 = k * 3 + 3 by omega]
    simp only [svhC, List.set_cons_succ, ← this]
    rw [show k * 3 + 3 + 1 = (k * 3 + 1) + 3 by omega, show k * 3 + 1 + 3 + 1 = (k * 3 + 1 + 1) + 3 by omega]
    simp
theorem svhC_take : ∀ (l : List SvH) (n : Nat), (svhC l).take (n * 3) = svhC (l.take n)
  | [], n => by simp [svhC]
  | x :: l, 0 => by simp [svhC]
  | x :: l, n + 1 => by
    rw [show (n + 1) * 3 = n * 3 + 1 + 1 + 1 by omega]
    simp [svhC, svhC_take l n]
theorem svhC_ones : ∀ {l : List SvH}, (∀ x ∈ l, Value.oneCell' x.av = true) → (svhC l).all Value.oneCell' = true
  | [], _ => rfl
  | x :: l, h => by simp only [svhC, List.all_cons, svhC_ones (fun y hy => h y (List.mem_cons_of_mem _ hy)), h x (List.mem_cons_self ..)]; rfl
theorem vvC_pos : ∀ {l : List VV} {p : Nat} {v : Value}, (vvC l)[p]? = some v → (∃ n, v = .int .i64 n) ∨ ∃ s, v = .string s
  | [], p, v, h => by simp [vvC] at h
  | x :: l, 0, v, h => by simp [vvC] at h; exact .inl ⟨_, h.symm⟩
  | x :: l, 1, v, h => by simp [vvC] at h; exact .inl ⟨_, h.symm⟩
  | x :: l, 2, v, h => by simp [vvC] at h; exact .inr ⟨_, h.symm⟩
  | x :: l, p + 3, v, h => vvC_pos (l := l) (p := p) (by simpa [vvC] using h)

structure SvV where
  fn : Int
  args : List VV
  wh : Int

theorem ArgsAt.one {v : Value} {l : List VV} (a : ArgsAt h v l) : Value.oneCell' v = true := by
  rcases a with ⟨rfl, _⟩ | ⟨o, rw, rfl, _⟩ <;> rfl

def SvsAt (h : Hp) (xs : List SvH) (l : List SvV) : Prop := xs.length = l.length ∧ ∀ (k : Nat) x y, xs[k]? = some x → l[k]? = some y → x.fn = y.fn ∧ x.wh = y.wh ∧ ArgsAt h x.av y.args
def SlAt (h : Hp) (v : Value) (l : List SvV) : Prop := (v = .slice none 0 0 ∧ l = []) ∨ ∃ o rw xs, v = .slice (some ⟨o, 0, none⟩) l.length 3 ∧ h[o]? = some (.cells (svhC xs) rw) ∧ SvsAt h xs l

theorem SvsAt.keep {h' : Hp} {xs : List SvH} {l : List SvV} (a : SvsAt h xs l) (k : Keep (fun _ => False) h h') : SvsAt h' xs l :=
  ⟨a.1, fun q x y hx hy => let ⟨h1, h2, h3⟩ := a.2 q x y hx hy; ⟨h1, h2, h3.keep k⟩⟩
theorem SlAt.keep {h' : Hp} {v : Value} {l : List SvV} (a : SlAt h v l) (k : Keep (fun _ => False) h h') : SlAt h' v l := by
  rcases a with h1 | ⟨o, rw, xs, h1, h2, h3⟩
  · exact .inl h1
  · exact .inr ⟨o, rw, xs, h1, k.2 _ _ h2 id, h3.keep k⟩

/-- The services' own object is no list of values. -/
theorem ArgsAt.keepD {h' : Hp} {d : Nat} {xs : List SvH} {rw : Bool} {k : Nat} {x : SvH} {l : List VV} (hd : h[d]? = some (.cells (svhC xs) rw)) (hx : xs[k]? = some x) (a : ArgsAt h x.av l) (K : Keep (fun q => q = d) h h') : ArgsAt h' x.av l := by
  rcases a with h1 | ⟨o, rw', h1, h2⟩
  · exact .inl h1
  · refine .inr ⟨o, rw', h1, K.2 _ _ h2 fun e => ?_⟩
    subst e
    rw [hd] at h2
    simp only [Option.some.injEq, AObj.cells.injEq] at h2
    have := svhC_av hx
    rw [h2.1] at this
    rcases vvC_pos this with ⟨n, e⟩ | ⟨s, e⟩ <;> rw [h1] at e <;> cases e

/-! ### clipped -/

structure SpecV where
  r : Int
  m : Int
  wi : Int
  ba : Int
  ca : Int

def SpecV.cells (s : SpecV) (v : Value) : List Value := [.int .i64 s.r, .int .i64 s.m, .int .i64 s.wi, .int .i64 s.ba, .int .i64 s.ca, v]
def cutA (y : SvV) : SvV := { y with args := y.args.take 6 }
def clipF (l : List SvV) : List SvV := (l.take 10).map cutA
set_option maxRecDepth 100000 in
theorem clip_loop {b c d : Nat} {xs : List SvH} {l : List SvV} (hd : h[d]? = some (.cells (svhC xs) true)) (ha : SvsAt h xs l) (hl : l.length ≤ 10) :
    ∃ E1 h1 ys, EnvLe [(3, .slice (some ⟨d, 0, none⟩) l.length 3), (2, .pointer (some ⟨c, 0, none⟩)), (1, .pointer (some ⟨b, 0, none⟩))] E1 ∧
      LRun Try.prog 37 false (loopN Try.f10 0) [(16, .int .i64 0), (15, .int .i64 (Int.ofNat l.length)), (14, .slice (some ⟨d, 0, none⟩) l.length 3), (3, .slice (some ⟨d, 0, none⟩) l.length 3), (2, .pointer (some ⟨c, 0, none⟩)), (1, .pointer (some ⟨b, 0, none⟩))] h (.exit 0) E1 h1 ∧
      h1[d]? = some (.cells (svhC ys) true) ∧ SvsAt h1 ys (l.map cutA) ∧ Keep (fun q => q = d) h h1 := by
  obtain ⟨x', E1, h1, hl1, rfl, ys, q1, q2, q3, q4⟩ := loop_inv (P := Try.prog) (n := 37) (rd := false) (b := loopN Try.f10 0)
    (Q := fun x' E1 h1 => x' = .exit 0 ∧ ∃ ys, EnvLe [(3, .slice (some ⟨d, 0, none⟩) l.length 3), (2, .pointer (some ⟨c, 0, none⟩)), (1, .pointer (some ⟨b, 0, none⟩))] E1 ∧ h1[d]? = some (.cells (svhC ys) true) ∧ SvsAt h1 ys (l.map cutA) ∧ Keep (fun q => q = d) h h1)
    (fun m E g => ∃ k ys, k ≤ l.length ∧ m = l.length - k ∧ EnvLe [(16, .int .i64 (k : Nat)), (15, .int .i64 (Int.ofNat l.length)), (14, .slice (some ⟨d, 0, none⟩) l.length 3), (3, .slice (some ⟨d, 0, none⟩) l.length 3), (2, .pointer (some ⟨c, 0, none⟩)), (1, .pointer (some ⟨b, 0, none⟩))] E ∧
      g[d]? = some (.cells (svhC ys) true) ∧ SvsAt g ys ((l.take k).map cutA ++ l.drop k) ∧ Keep (fun q => q = d) h g)
    (fun m E g ⟨k, ys, k1, k2, k3, k4, k5, k6⟩ => by
      have hyl : ys.length = l.length := by rw [k5.1]; simp; omega
      by_cases e : k = l.length
      · right
        subst e
        obtain ⟨E2, q1, q2⟩ := pvC 0 k3 (w15p.cpl_out b c d l.length (l.length : Nat) g) ⟨by simp [Asm.holds, cmpB], trivial⟩
        exact ⟨_, E2, _, by simp, q2, rfl, ys, .trans (.add (.add (.add (.nil _) rfl) rfl) rfl) q1, k4, by simpa [SH.den] using k5, k6⟩
      · left
        obtain ⟨y, hy⟩ : ∃ y, l[k]? = some y := ⟨_, List.getElem?_eq_getElem (by omega)⟩
        obtain ⟨x, hx⟩ : ∃ x, ys[k]? = some x := ⟨_, List.getElem?_eq_getElem (by omega)⟩
        obtain ⟨f1, f2⟩ := front_step cutA hy
        obtain ⟨x1, x2, x3⟩ := k5.2 k x y hx f1
        obtain ⟨fn, av, wh⟩ := x
        simp only at x1 x2 x3
        have hdl := get_lt k4
        have hcl := svhC_len ys
        have ak1 : IntKind.i64.wrap ((k : Int) + 1) = ((k + 1 : Nat) : Int) := add1 (by omega)
        have pre1 : (Asm.cmp .lss (k : Int) (Int.ofNat l.length) true).holds Try.prog := by simp [Asm.holds, cmpB]; omega
        let gA : Hp := (g ++ [AObj.cells [.int .i64 0, .slice none 0 0, .int .i64 0] true]).set g.length (.cells [.int .i64 fn, av, .int .i64 wh] true)
        have KA : Keep (fun _ => False) g gA := (Keep.push (fun _ => False) g _).trans_new (Keep.set (fp := fun q => q = g.length) rfl _) (fun q hq e => by omega)
        -- what the clone comes to, and what follows
        have fin : ∀ (av' : Value) (g2 : Hp), Keep (fun _ => False) gA g2 → ArgsAt g2 av' (y.args.take 6) → (∀ a n, av' = .slice (some ⟨a, 0, none⟩) n 3 → a ≠ d) →
            g2[d]? = some (.cells (svhC ys) true) ∧ (g2.set d (.cells (svhC (ys.set k ⟨fn, av', wh⟩)) true))[d]? = some (.cells (svhC (ys.set k ⟨fn, av', wh⟩)) true) ∧
            SvsAt (g2.set d (.cells (svhC (ys.set k ⟨fn, av', wh⟩)) true)) (ys.set k ⟨fn, av', wh⟩) ((l.take (k + 1)).map cutA ++ l.drop (k + 1)) ∧ Keep (fun q => q = d) h (g2.set d (.cells (svhC (ys.set k ⟨fn, av', wh⟩)) true)) := by
          intro av' g2 K2 ha' hne
          have K3 := KA.trans K2
          have hd2 := K3.2 _ _ k4 id
          have KD : Keep (fun q => q = d) g2 (g2.set d (.cells (svhC (ys.set k ⟨fn, av', wh⟩)) true)) := Keep.set (fp := fun q => q = d) rfl _
          refine ⟨hd2, get_set_eq hd2, ⟨?_, fun q x' y' hx' hy' => ?_⟩, (k6.trans (K3.mono fun q _ e => e.elim)).trans KD⟩
          · rw [← f2, List.length_set, List.length_set]; exact k5.1
          · rw [← f2] at hy'
            by_cases eq : q = k
            · subst eq
              rw [List.getElem?_set_self (by omega)] at hx'
              rw [List.getElem?_set_self (get_lt' f1)] at hy'
              cases hx'; cases hy'
              refine ⟨x1, x2, ?_⟩
              rcases ha' with h1 | ⟨o, rw', h1, h2⟩
              · exact .inl h1
              · exact .inr ⟨o, rw', h1, by rw [List.getElem?_set_ne (Ne.symm (hne _ _ h1))]; exact h2⟩
            · rw [List.getElem?_set_ne (Ne.symm eq)] at hx' hy'
              obtain ⟨z1, z2, z3⟩ := k5.2 q x' y' hx' hy'
              exact ⟨z1, z2, (z3.keep K3).keepD hd2 hx' KD⟩
        rcases x3 with ⟨rfl, hnil⟩ | ⟨a, rw', rfl, hao⟩
        · obtain ⟨z1, z2, z3, z4⟩ := fin (.slice none 0 0) gA (.refl _ _) (.inl ⟨rfl, by rw [hnil]; rfl⟩) (fun a n e => by cases e)
          have hc29 : Run Try.prog 29 [.slice none 0 0] gA (.slice none 0 0) gA := pvF 0 Try.func29 (w15p.cl29_nil gA) trivial
          obtain ⟨E2, q1, q2⟩ := pvC 0 k3 (w15p.cpl_nil b c d l.length (k * 3) g.length k ((k + 1 : Nat) : Int) fn wh (svhC (ys.set k ⟨fn, .slice none 0 0, wh⟩)) g gA)
            ⟨pre1, ⟨by omega, by omega, by simp⟩, a_ldn k4 (by omega) (svhC_cut hx), rfl, a_st (get_new g _) (by simp) rfl, a_ld1 (get_set_eq (get_new g _)) rfl, a_ld1 (get_set_eq (get_new g _)) rfl, by simp [Asm.holds],
              hc29, ⟨by omega, by omega, by simp⟩, a_st (d := k * 3 + 1) z1 (by simp; omega) (svhC_put _ hx), by simp only [Asm.holds, arithI, ak1], trivial⟩
          exact ⟨l.length - (k + 1), E2, _, by omega, q2, k + 1, _, by omega, rfl, .trans (.add (.add (.add (.add (.add (.add (.nil _) rfl) rfl) rfl) rfl) rfl) rfl) q1, z2, z3, z4⟩
        · have hvl := vvC_len y.args
          have hoA := KA.2 _ _ hao id
          have hmin : min 6 y.args.length = min y.args.length 6 := Nat.min_comm _ _
          obtain ⟨e, g2, r1, r2, r3, r4⟩ := clone_run (f := 29) (.inr rfl) (n := min y.args.length 6) hoA (by omega) (by
            rw [vvC_take]; exact vvC_ones _) (by omega)
          have hta : (vvC y.args).take (min y.args.length 6 * 3) = vvC (y.args.take 6) := by
            rw [vvC_take, ← hmin, ← List.take_eq_take_min]
          have htl : (y.args.take 6).length = min y.args.length 6 := by simp [hmin]
          rw [hta] at r2
          have hgAl : gA.length = g.length + 1 := by simp [gA]
          obtain ⟨z1, z2, z3, z4⟩ := fin (.slice (some ⟨e, 0, none⟩) (min y.args.length 6) 3) g2 r4 (.inr ⟨e, true, by rw [htl], r2⟩) (fun a n he => by
            have : a = e := by injection he with h1; injection h1 with h1; injection h1 with h1; exact h1.symm
            omega)
          obtain ⟨E2, q1, q2⟩ := pvC 0 k3 (w15p.cpl_some b c d l.length (k * 3) g.length a y.args.length (min y.args.length 6) e k ((k + 1 : Nat) : Int) fn wh (svhC (ys.set k ⟨fn, .slice (some ⟨e, 0, none⟩) (min y.args.length 6) 3, wh⟩)) g g2)
            ⟨pre1, ⟨by omega, by omega, by simp⟩, a_ldn k4 (by omega) (svhC_cut hx), rfl, a_st (get_new g _) (by simp) rfl, a_ld1 (get_set_eq (get_new g _)) rfl, a_ld1 (get_set_eq (get_new g _)) rfl,
              .inr ⟨rfl, by simp only [Int.ofNat_eq_natCast]; split <;> omega⟩, a_cut (by omega),
              r1, ⟨by omega, by omega, by simp⟩, a_st (d := k * 3 + 1) z1 (by simp; omega) (svhC_put _ hx), by simp only [Asm.holds, arithI, ak1], trivial⟩
          exact ⟨l.length - (k + 1), E2, _, by omega, q2, k + 1, _, by omega, rfl, .trans (.add (.add (.add (.add (.add (.add (.nil _) rfl) rfl) rfl) rfl) rfl) rfl) q1, z2, z3, z4⟩)
    l.length [(16, .int .i64 ((0 : Nat) : Int)), (15, .int .i64 (Int.ofNat l.length)), (14, .slice (some ⟨d, 0, none⟩) l.length 3), (3, .slice (some ⟨d, 0, none⟩) l.length 3), (2, .pointer (some ⟨c, 0, none⟩)), (1, .pointer (some ⟨b, 0, none⟩))] h
    ⟨0, xs, by omega, rfl, EnvLe.refl _, hd, by simpa using ha, .refl _ _⟩
  exact ⟨E1, h1, ys, q1, hl1, q2, q3, q4⟩

set_option maxRecDepth 100000 in
theorem clipped_run {v : Value} {l : List SvV} (s : SpecV) (a : SlAt h v l) : ∃ v' h', Run Try.prog 10 [.agg (s.cells v).toArray] h (.agg (s.cells v').toArray) h' ∧ SlAt h' v' (clipF l) ∧ Keep (fun _ => False) h h' := by
  obtain ⟨r, m, wi, ba, ca⟩ := s
  let S := fun v => SpecV.cells ⟨r, m, wi, ba, ca⟩ v
  have K0 : ∀ v w, Keep (fun _ => False) h ((h ++ [AObj.cells (S v) true]) ++ [AObj.cells (S w) true]) := fun v w => (Keep.push _ _ _).trans (Keep.push _ _ _)
  let Z : AObj := .cells [.int .i64 0, .int .i64 0, .int .i64 0, .int .i64 0, .int .i64 0, .slice none 0 0] true
  rcases a with ⟨rfl, rfl⟩ | ⟨o, rw, xs, rfl, ho, ha⟩
  · let hA : Hp := (h ++ [AObj.cells (S (.slice none 0 0)) true]) ++ [Z]
    have g1 : hA[h.length]? = some (.cells (S (.slice none 0 0)) true) := get_push (get_new h _)
    have g2 : hA[h.length + 1]? = some Z := get_new' _ (by simp)
    have hr : Run Try.prog 28 [.slice none 0 0] hA (.slice none 0 0) hA := pvF 0 Try.func28 (w15p.cl28_nil hA) trivial
    refine ⟨_, _, pvF 0 Try.func10 (w15p.cp_nil h.length (h.length + 1) r m wi ba ca h hA)
      ⟨rfl, by simp [Asm.holds, SH.den], a_ld1 g1 rfl, a_ld1 g1 rfl, by simp [Asm.holds], hr, a_st g1 (by simp [S, SpecV.cells]) rfl, a_ldn (get_set_eq g1) (by simp) rfl, a_st (get_set_ne g2 (by omega)) (by simp) rfl, a_ldn (get_set_eq (get_set_ne g2 (by omega))) (by simp) rfl, trivial⟩, .inl ⟨rfl, rfl⟩, ?_⟩
    exact (((Keep.push (fun _ => False) h _).trans (Keep.push _ _ _)).trans_new ((Keep.set (fp := fun q => h.length ≤ q) (Nat.le_refl _) _).trans (Keep.set (fp := fun q => h.length ≤ q) (by omega) _)) (fun q hq e => by omega))
  · let V := Value.slice (some ⟨o, 0, none⟩) l.length 3
    let hA : Hp := (h ++ [AObj.cells (S V) true]) ++ [Z]
    have g1 : hA[h.length]? = some (.cells (S V) true) := get_push (get_new h _)
    have g2 : hA[h.length + 1]? = some Z := get_new' _ (by simp)
    have KA : Keep (fun _ => False) h hA := (Keep.push _ _ _).trans (Keep.push _ _ _)
    have hcl := svhC_len xs
    have hxl := ha.1
    have hmin : min 10 l.length = min l.length 10 := Nat.min_comm _ _
    obtain ⟨d, hB, r1, r2, r3, KB⟩ := clone_run (f := 28) (.inl rfl) (n := min l.length 10) (KA.2 _ _ ho id) (by omega) (by
      rw [svhC_take]
      refine svhC_ones fun x hx => ?_
      obtain ⟨q, hq⟩ := List.mem_iff_getElem?.1 (List.mem_of_mem_take hx)
      have hql := get_lt' hq
      exact (ha.2 q x _ hq (List.getElem?_eq_getElem (by omega))).2.2.one) (by omega)
    have hta : (svhC xs).take (min l.length 10 * 3) = svhC (xs.take 10) := by
      rw [svhC_take, ← hmin, ← hxl, ← List.take_eq_take_min]
    have htl : (l.take 10).length = min l.length 10 := by simp [hmin]
    rw [hta] at r2
    have aB : SvsAt hB (xs.take 10) (l.take 10) := by
      refine ⟨by simp [hxl], fun q x y hx hy => ?_⟩
      rw [List.getElem?_take] at hx hy
      split at hx
      · rename_i hq
        rw [if_pos hq] at hy
        obtain ⟨z1, z2, z3⟩ := ha.2 q x y hx hy
        exact ⟨z1, z2, (z3.keep KA).keep KB⟩
      · cases hx
    obtain ⟨E1, hC, ys, e1, hl1, e2, e3, KC⟩ := clip_loop (b := h.length) (c := h.length + 1) r2 aB (by omega)
    rw [htl] at e1 hl1
    have hAl : hA.length = h.length + 2 := by simp [hA]
    have gb := KC.2 _ _ (KB.2 _ _ g1 id) (show ¬ h.length = d by omega)
    have gc := KC.2 _ _ (KB.2 _ _ g2 id) (show ¬ h.length + 1 = d by omega)
    have pl : plainC (loopN Try.f10 0) = true := by kernel_rfl
    have hrun := pvF 0 Try.func10 (w15p.cp_some h.length (h.length + 1) o l.length d (min l.length 10) r m wi ba ca [] [] h hB hC)
      ⟨rfl, by simp [Asm.holds, SH.den], a_ld1 g1 rfl, a_ld1 g1 rfl, .inr ⟨rfl, by simp only [Int.ofNat_eq_natCast]; split <;> omega⟩, a_cut (by omega), r1,
        a_loop pl (.add (.add (.add (.add (.add (.add (.nil _) rfl) rfl) rfl) rfl) rfl) rfl) e1 hl1,
        a_st gb (by simp [S, SpecV.cells]) rfl, a_ldn (get_set_eq gb) (by simp) rfl, a_st (get_set_ne gc (by omega)) (by simp) rfl, a_ldn (get_set_eq (get_set_ne gc (by omega))) (by simp) rfl, trivial⟩
    have KD : Keep (fun q => h.length ≤ q ∧ q ≤ h.length + 1) hC ((hC.set h.length (.cells (S (.slice (some ⟨d, 0, none⟩) (min l.length 10) 3)) true)).set (h.length + 1) (.cells (S (.slice (some ⟨d, 0, none⟩) (min l.length 10) 3)) true)) :=
      (Keep.set (fp := fun q => h.length ≤ q ∧ q ≤ h.length + 1) (by omega) _).trans (Keep.set (fp := fun q => h.length ≤ q ∧ q ≤ h.length + 1) (by omega) _)
    refine ⟨_, _, hrun, .inr ⟨d, true, ys, ?_, KD.2 _ _ e2 (show ¬ (h.length ≤ d ∧ d ≤ h.length + 1) by omega), ?_⟩, ((KA.trans KB).trans_new (fp' := fun q => q = d) KC (fun q hq e => by omega)).trans_new KD (fun q hq e => by omega)⟩
    · simp [clipF, hmin]
    · refine ⟨e3.1, fun q x y hx hy => ?_⟩
      obtain ⟨z1, z2, z3⟩ := e3.2 q x y hx hy
      refine ⟨z1, z2, ?_⟩
      rcases z3 with z | ⟨a, rw', z4, z5⟩
      · exact .inl z
      · refine .inr ⟨a, rw', z4, KD.2 _ _ z5 fun e => ?_⟩
        rcases Nat.lt_or_ge h.length a with c1 | c1
        · have : a = h.length + 1 := by omega
          subst this
          rw [gc] at z5; simp [Z] at z5
          have := vvC_pos (l := y.args) (p := 5) (v := .slice none 0 0) (by rw [← z5.1]; rfl)
          rcases this with ⟨n, e⟩ | ⟨s, e⟩ <;> cases e
        · have : a = h.length := by omega
          subst this
          rw [gb] at z5; simp [S, SpecV.cells] at z5
          have := vvC_pos (l := y.args) (p := 5) (v := .slice (some ⟨o, 0, none⟩) l.length 3) (by rw [← z5.1]; rfl)
          rcases this with ⟨n, e⟩ | ⟨s, e⟩ <;> cases e

end Go.Proofs.Ytkkhokgpcifckaa.wd

namespace Go.Proofs.Ytkkhokgpcifckaa.wd
open Go Go.Ev

variable {h : Hp}

/-! ### Check -/

def svOk (y : SvV) : Bool := decide (0 ≤ y.fn) && decide (y.args.length ≤ 4) && y.args.all valueB && decide (1 ≤ y.wh) && decide (y.wh ≤ 3)
def headOk (s : SpecV) (n : Nat) : Prop := 1 ≤ s.r ∧ s.r ≤ 3 ∧ 0 ≤ s.m ∧ s.m ≤ 20 ∧ 1 ≤ s.wi ∧ s.wi ≤ 1000000000000 ∧ 0 ≤ s.ba ∧ s.ba ≤ s.ca ∧ s.ca ≤ 1000000000000 ∧ 1 ≤ n ∧ n ≤ 8
instance (s : SpecV) (n : Nat) : Decidable (headOk s n) := by unfold headOk; infer_instance
def checkF (s : SpecV) (l : List SvV) : Int := if headOk s l.length ∧ l.all svOk = true then 0 else 2

theorem check_loop {o : Nat} {xs : List SvH} {rw : Bool} {l : List SvV} (ho : h[o]? = some (.cells (svhC xs) rw)) (ha : SvsAt h xs l) (hl : l.length ≤ 8) :
    ∃ x' E1 h1, LRun Try.prog 93 false (loopN Try.f25 0) [(63, .int .i64 0), (62, .int .i64 (Int.ofNat l.length)), (61, .slice (some ⟨o, 0, none⟩) l.length 3)] h x' E1 h1 ∧ Keep (fun _ => False) h h1 ∧
      ((x' = .exit 0 ∧ l.all svOk = true) ∨ (x' = .ret ∧ EnvLe [(2, .int .i64 2)] E1 ∧ l.all svOk = false)) := by
  have hcl := svhC_len xs
  have hxl := ha.1
  exact loop_inv (P := Try.prog) (n := 93) (rd := false) (b := loopN Try.f25 0)
    (Q := fun x' E1 h1 => Keep (fun _ => False) h h1 ∧ ((x' = .exit 0 ∧ l.all svOk = true) ∨ (x' = .ret ∧ EnvLe [(2, .int .i64 2)] E1 ∧ l.all svOk = false)))
    (fun m E g => ∃ k, k ≤ l.length ∧ m = l.length - k ∧ EnvLe [(63, .int .i64 (k : Nat)), (62, .int .i64 (Int.ofNat l.length)), (61, .slice (some ⟨o, 0, none⟩) l.length 3)] E ∧ (l.take k).all svOk = true ∧ Keep (fun _ => False) h g)
    (fun m E g ⟨k, k1, k2, k3, k4, k5⟩ => by
      by_cases e : k = l.length
      · right
        subst e
        obtain ⟨E2, q1, q2⟩ := pvC 0 k3 (w15p.ckl_out o l.length (l.length : Nat) g) ⟨by simp [Asm.holds, cmpB], trivial⟩
        exact ⟨_, E2, _, by simp, q2, k5, .inl ⟨rfl, by rwa [List.take_length] at k4⟩⟩
      · obtain ⟨y, hy⟩ : ∃ y, l[k]? = some y := ⟨_, List.getElem?_eq_getElem (by omega)⟩
        obtain ⟨x, hx⟩ : ∃ x, xs[k]? = some x := ⟨_, List.getElem?_eq_getElem (by omega)⟩
        obtain ⟨x1, x2, x3⟩ := ha.2 k x y hx hy
        obtain ⟨fn, av, wh⟩ := x
        obtain ⟨fn', args, wh'⟩ := y
        simp only at x1 x2 x3
        subst x1; subst x2
        have hog := k5.2 _ _ ho id
        have ak1 : IntKind.i64.wrap ((k : Int) + 1) = ((k + 1 : Nat) : Int) := add1 (by omega)
        have pre1 : (Asm.cmp .lss (k : Int) (Int.ofNat l.length) true).holds Try.prog := by simp [Asm.holds, cmpB]; omega
        have pre2 : (Asm.off (k * 3) 0 (k : Int) l.length 3).holds Try.prog := ⟨by omega, by omega, by simp⟩
        have pre3 : (Asm.ldn (.is g) o (k * 3) 3 [.int .i64 fn, av, .int .i64 wh]).holds Try.prog := a_ldn hog (by omega) (svhC_cut hx)
        let gA : Hp := (g ++ [AObj.cells [.int .i64 0, .slice none 0 0, .int .i64 0] true]).set g.length (.cells [.int .i64 fn, av, .int .i64 wh] true)
        have KA : Keep (fun _ => False) g gA := (Keep.push (fun _ => False) g _).trans_new (Keep.set (fp := fun q => q = g.length) rfl _) (fun q hq e => by omega)
        have gx : gA[g.length]? = some (.cells [.int .i64 fn, av, .int .i64 wh] true) := get_set_eq (get_new g _)
        have hta : (l.take (k + 1)).all svOk = ((l.take k).all svOk && svOk ⟨fn, args, wh⟩) := by rw [take_snoc hy]; simp [List.all_append]
        have bad : svOk ⟨fn, args, wh⟩ = false → l.all svOk = false := fun hb => List.all_eq_false.2 ⟨_, List.mem_of_getElem? hy, by simp [hb]⟩
        have c63 : ∀ {E2 : Env}, EnvLe [(2, .int .i64 2)] E2 → EnvLe [(2, .int .i64 2)] E2 := fun h => h
        by_cases d1 : fn < 0
        · right
          have hb : svOk ⟨fn, args, wh⟩ = false := by simp [svOk]; omega
          rcases x3 with ⟨rfl, hnil⟩ | ⟨a, rw', rfl, hao⟩
          · obtain ⟨E2, q1, q2⟩ := pvC 0 k3 (w15p.ckl_fnn o l.length (k * 3) g.length k 0 fn wh g g) ⟨pre1, pre2, pre3, rfl, a_st (get_new g _) (by simp) rfl, a_ld1 gx rfl, by simpa [Asm.holds, cmpB] using d1, trivial⟩
            exact ⟨_, E2, _, by simp, q2, k5.trans KA, .inr ⟨rfl, .trans (.add (.nil _) rfl) q1, bad hb⟩⟩
          · obtain ⟨E2, q1, q2⟩ := pvC 0 k3 (w15p.ckl_fns o l.length (k * 3) g.length k 0 fn wh g g a args.length) ⟨pre1, pre2, pre3, rfl, a_st (get_new g _) (by simp) rfl, a_ld1 gx rfl, by simpa [Asm.holds, cmpB] using d1, trivial⟩
            exact ⟨_, E2, _, by simp, q2, k5.trans KA, .inr ⟨rfl, .trans (.add (.nil _) rfl) q1, bad hb⟩⟩
        · have f1 : (Asm.cmp .lss fn 0 false).holds Try.prog := by simpa [Asm.holds, cmpB] using d1
          by_cases d2 : args.length > 4
          · right
            have hb : svOk ⟨fn, args, wh⟩ = false := by simp [svOk]; omega
            rcases x3 with ⟨rfl, hnil⟩ | ⟨a, rw', rfl, hao⟩
            · rw [hnil] at d2; simp at d2
            · obtain ⟨E2, q1, q2⟩ := pvC 0 k3 (w15p.ckl_lens o l.length (k * 3) g.length k 0 fn wh g g a args.length) ⟨pre1, pre2, pre3, rfl, a_st (get_new g _) (by simp) rfl, a_ld1 gx rfl, f1, a_ld1 gx rfl, by simp [Asm.holds, cmpB]; omega, trivial⟩
              exact ⟨_, E2, _, by simp, q2, k5.trans KA, .inr ⟨rfl, .trans (.add (.nil _) rfl) q1, bad hb⟩⟩
          · obtain ⟨gB, rv, KB⟩ := values_run (h := gA) (((x3.keep k5).keep KA)) (by omega)
            have gy := KB.2 _ _ gx id
            have K3 := (k5.trans KA).trans KB
            by_cases d3 : args.all valueB = true
            · rw [d3] at rv
              by_cases d4 : wh < 1
              · right
                have hb : svOk ⟨fn, args, wh⟩ = false := by simp [svOk]; omega
                rcases x3 with ⟨rfl, hnil⟩ | ⟨a, rw', rfl, hao⟩
                · obtain ⟨E2, q1, q2⟩ := pvC 0 k3 (w15p.ckl_lon o l.length (k * 3) g.length k 0 fn wh g gB) ⟨pre1, pre2, pre3, rfl, a_st (get_new g _) (by simp) rfl, a_ld1 gx rfl, f1, a_ld1 gx rfl, by simp [Asm.holds, cmpB], a_ld1 gx rfl, rv, a_ld1 gy rfl, by simpa [Asm.holds, cmpB] using d4, trivial⟩
                  exact ⟨_, E2, _, by simp, q2, K3, .inr ⟨rfl, .trans (.add (.nil _) rfl) q1, bad hb⟩⟩
                · obtain ⟨E2, q1, q2⟩ := pvC 0 k3 (w15p.ckl_los o l.length (k * 3) g.length k 0 fn wh g gB a args.length) ⟨pre1, pre2, pre3, rfl, a_st (get_new g _) (by simp) rfl, a_ld1 gx rfl, f1, a_ld1 gx rfl, by simp [Asm.holds, cmpB]; omega, a_ld1 gx rfl, rv, a_ld1 gy rfl, by simpa [Asm.holds, cmpB] using d4, trivial⟩
                  exact ⟨_, E2, _, by simp, q2, K3, .inr ⟨rfl, .trans (.add (.nil _) rfl) q1, bad hb⟩⟩
              · have f4 : (Asm.cmp .lss wh 1 false).holds Try.prog := by simpa [Asm.holds, cmpB] using d4
                by_cases d5 : wh > 3
                · right
                  have hb : svOk ⟨fn, args, wh⟩ = false := by simp [svOk]; omega
                  rcases x3 with ⟨rfl, hnil⟩ | ⟨a, rw', rfl, hao⟩
                  · obtain ⟨E2, q1, q2⟩ := pvC 0 k3 (w15p.ckl_hin o l.length (k * 3) g.length k 0 fn wh g gB) ⟨pre1, pre2, pre3, rfl, a_st (get_new g _) (by simp) rfl, a_ld1 gx rfl, f1, a_ld1 gx rfl, by simp [Asm.holds, cmpB], a_ld1 gx rfl, rv, a_ld1 gy rfl, f4, a_ld1 gy rfl, by simpa [Asm.holds, cmpB] using d5, trivial⟩
                    exact ⟨_, E2, _, by simp, q2, K3, .inr ⟨rfl, .trans (.add (.nil _) rfl) q1, bad hb⟩⟩
                  · obtain ⟨E2, q1, q2⟩ := pvC 0 k3 (w15p.ckl_his o l.length (k * 3) g.length k 0 fn wh g gB a args.length) ⟨pre1, pre2, pre3, rfl, a_st (get_new g _) (by simp) rfl, a_ld1 gx rfl, f1, a_ld1 gx rfl, by simp [Asm.holds, cmpB]; omega, a_ld1 gx rfl, rv, a_ld1 gy rfl, f4, a_ld1 gy rfl, by simpa [Asm.holds, cmpB] using d5, trivial⟩
                    exact ⟨_, E2, _, by simp, q2, K3, .inr ⟨rfl, .trans (.add (.nil _) rfl) q1, bad hb⟩⟩
                · left
                  have f5 : (Asm.cmp .gtr wh 3 false).holds Try.prog := by simpa [Asm.holds, cmpB] using d5
                  have hb : svOk ⟨fn, args, wh⟩ = true := by simp only [svOk, Bool.and_eq_true, decide_eq_true_eq]; exact ⟨⟨⟨⟨by omega, by omega⟩, d3⟩, by omega⟩, by omega⟩
                  rcases x3 with ⟨rfl, hnil⟩ | ⟨a, rw', rfl, hao⟩
                  · obtain ⟨E2, q1, q2⟩ := pvC 0 k3 (w15p.ckl_okn o l.length (k * 3) g.length k ((k + 1 : Nat) : Int) fn wh g gB) ⟨pre1, pre2, pre3, rfl, a_st (get_new g _) (by simp) rfl, a_ld1 gx rfl, f1, a_ld1 gx rfl, by simp [Asm.holds, cmpB], a_ld1 gx rfl, rv, a_ld1 gy rfl, f4, a_ld1 gy rfl, f5, by simp only [Asm.holds, arithI, ak1], trivial⟩
                    exact ⟨l.length - (k + 1), E2, _, by omega, q2, k + 1, by omega, rfl, .trans (.add (.add (.add (.nil _) rfl) rfl) rfl) q1, by rw [hta, k4, hb]; rfl, K3⟩
                  · obtain ⟨E2, q1, q2⟩ := pvC 0 k3 (w15p.ckl_oks o l.length (k * 3) g.length k ((k + 1 : Nat) : Int) fn wh g gB a args.length) ⟨pre1, pre2, pre3, rfl, a_st (get_new g _) (by simp) rfl, a_ld1 gx rfl, f1, a_ld1 gx rfl, by simp [Asm.holds, cmpB]; omega, a_ld1 gx rfl, rv, a_ld1 gy rfl, f4, a_ld1 gy rfl, f5, by simp only [Asm.holds, arithI, ak1], trivial⟩
                    exact ⟨l.length - (k + 1), E2, _, by omega, q2, k + 1, by omega, rfl, .trans (.add (.add (.add (.nil _) rfl) rfl) rfl) q1, by rw [hta, k4, hb]; rfl, K3⟩
            · right
              have d3' : args.all valueB = false := by simpa using d3
              rw [d3'] at rv
              have hb : svOk ⟨fn, args, wh⟩ = false := by simp only [svOk, d3', Bool.and_false, Bool.false_and]
              rcases x3 with ⟨rfl, hnil⟩ | ⟨a, rw', rfl, hao⟩
              · obtain ⟨E2, q1, q2⟩ := pvC 0 k3 (w15p.ckl_valn o l.length (k * 3) g.length k 0 fn wh g gB) ⟨pre1, pre2, pre3, rfl, a_st (get_new g _) (by simp) rfl, a_ld1 gx rfl, f1, a_ld1 gx rfl, by simp [Asm.holds, cmpB], a_ld1 gx rfl, rv, trivial⟩
                exact ⟨_, E2, _, by simp, q2, K3, .inr ⟨rfl, .trans (.add (.nil _) rfl) q1, bad hb⟩⟩
              · obtain ⟨E2, q1, q2⟩ := pvC 0 k3 (w15p.ckl_vals o l.length (k * 3) g.length k 0 fn wh g gB a args.length) ⟨pre1, pre2, pre3, rfl, a_st (get_new g _) (by simp) rfl, a_ld1 gx rfl, f1, a_ld1 gx rfl, by simp [Asm.holds, cmpB]; omega, a_ld1 gx rfl, rv, trivial⟩
                exact ⟨_, E2, _, by simp, q2, K3, .inr ⟨rfl, .trans (.add (.nil _) rfl) q1, bad hb⟩⟩)
    l.length [(63, .int .i64 ((0 : Nat) : Int)), (62, .int .i64 (Int.ofNat l.length)), (61, .slice (some ⟨o, 0, none⟩) l.length 3)] h ⟨0, by omega, rfl, EnvLe.refl _, rfl, .refl _ _⟩

theorem check_run {v : Value} {l : List SvV} (s : SpecV) (a : SlAt h v l) : ∃ h', Run Try.prog 25 [.agg (s.cells v).toArray] h (.int .i64 (checkF s l)) h' ∧ Keep (fun _ => False) h h' := by
  obtain ⟨r, m, wi, ba, ca⟩ := s
  have Lt : ∀ (x y : Int), ¬ x < y → (Asm.cmp .lss x y false).holds Try.prog := fun x y e => by simpa [Asm.holds, cmpB] using e
  have Gt : ∀ (x y : Int), ¬ x > y → (Asm.cmp .gtr x y false).holds Try.prog := fun x y e => by simpa [Asm.holds, cmpB] using e
  have Lt' : ∀ (x y : Int), x < y → (Asm.cmp .lss x y true).holds Try.prog := fun x y e => by simpa [Asm.holds, cmpB] using e
  have Gt' : ∀ (x y : Int), x > y → (Asm.cmp .gtr x y true).holds Try.prog := fun x y e => by simpa [Asm.holds, cmpB] using e
  have K0 : Keep (fun _ => False) h (h ++ [.cells (SpecV.cells ⟨r, m, wi, ba, ca⟩ v) true]) := Keep.push _ _ _
  have g0 : (h ++ [AObj.cells (SpecV.cells ⟨r, m, wi, ba, ca⟩ v) true])[h.length]? = some (.cells (SpecV.cells ⟨r, m, wi, ba, ca⟩ v) true) := get_new h _
  have no : ¬ headOk ⟨r, m, wi, ba, ca⟩ l.length → checkF ⟨r, m, wi, ba, ca⟩ l = 2 := fun hn => by simp [checkF, hn]
  rcases a with ⟨rfl, rfl⟩ | ⟨o, rw, xs, rfl, ho, ha⟩
  · rw [no (by simp [headOk])]
    refine ⟨h ++ [.cells (SpecV.cells ⟨r, m, wi, ba, ca⟩ (.slice none 0 0)) true], ?_, K0⟩
    have L : ∀ {p : Nat} {x : Value}, (SpecV.cells ⟨r, m, wi, ba, ca⟩ (.slice none 0 0))[p]? = some x → (Asm.ld1 (.push (.is h) (.cells (SpecV.cells ⟨r, m, wi, ba, ca⟩ (.slice none 0 0)) true)) h.length p x).holds Try.prog := fun e => a_ld1 g0 e
    by_cases e1 : r < 1
    · exact pvF 0 Try.func25 (w15p.ck_a1n h.length r m wi ba ca h) ⟨rfl, L rfl, Lt' _ _ e1, trivial⟩
    by_cases e2 : r > 3
    · exact pvF 0 Try.func25 (w15p.ck_a2n h.length r m wi ba ca h) ⟨rfl, L rfl, Lt _ _ e1, L rfl, Gt' _ _ e2, trivial⟩
    by_cases e3 : m < 0
    · exact pvF 0 Try.func25 (w15p.ck_a3n h.length r m wi ba ca h) ⟨rfl, L rfl, Lt _ _ e1, L rfl, Gt _ _ e2, L rfl, Lt' _ _ e3, trivial⟩
    by_cases e4 : m > 20
    · exact pvF 0 Try.func25 (w15p.ck_a4n h.length r m wi ba ca h) ⟨rfl, L rfl, Lt _ _ e1, L rfl, Gt _ _ e2, L rfl, Lt _ _ e3, L rfl, Gt' _ _ e4, trivial⟩
    by_cases e5 : wi < 1
    · exact pvF 0 Try.func25 (w15p.ck_a5n h.length r m wi ba ca h) ⟨rfl, L rfl, Lt _ _ e1, L rfl, Gt _ _ e2, L rfl, Lt _ _ e3, L rfl, Gt _ _ e4, L rfl, Lt' _ _ e5, trivial⟩
    by_cases e6 : wi > 1000000000000
    · exact pvF 0 Try.func25 (w15p.ck_a6n h.length r m wi ba ca h) ⟨rfl, L rfl, Lt _ _ e1, L rfl, Gt _ _ e2, L rfl, Lt _ _ e3, L rfl, Gt _ _ e4, L rfl, Lt _ _ e5, L rfl, Gt' _ _ e6, trivial⟩
    by_cases e7 : ba < 0
    · exact pvF 0 Try.func25 (w15p.ck_b1n h.length r m wi ba ca h) ⟨rfl, L rfl, Lt _ _ e1, L rfl, Gt _ _ e2, L rfl, Lt _ _ e3, L rfl, Gt _ _ e4, L rfl, Lt _ _ e5, L rfl, Gt _ _ e6, L rfl, Lt' _ _ e7, trivial⟩
    by_cases e8 : ba > ca
    · exact pvF 0 Try.func25 (w15p.ck_b2n h.length r m wi ba ca h) ⟨rfl, L rfl, Lt _ _ e1, L rfl, Gt _ _ e2, L rfl, Lt _ _ e3, L rfl, Gt _ _ e4, L rfl, Lt _ _ e5, L rfl, Gt _ _ e6, L rfl, Lt _ _ e7, L rfl, L rfl, Gt' _ _ e8, trivial⟩
    by_cases e9 : ca > 1000000000000
    · exact pvF 0 Try.func25 (w15p.ck_b3n h.length r m wi ba ca h) ⟨rfl, L rfl, Lt _ _ e1, L rfl, Gt _ _ e2, L rfl, Lt _ _ e3, L rfl, Gt _ _ e4, L rfl, Lt _ _ e5, L rfl, Gt _ _ e6, L rfl, Lt _ _ e7, L rfl, L rfl, Gt _ _ e8, L rfl, Gt' _ _ e9, trivial⟩
    exact pvF 0 Try.func25 (w15p.ck_b4n h.length r m wi ba ca h) ⟨rfl, L rfl, Lt _ _ e1, L rfl, Gt _ _ e2, L rfl, Lt _ _ e3, L rfl, Gt _ _ e4, L rfl, Lt _ _ e5, L rfl, Gt _ _ e6, L rfl, Lt _ _ e7, L rfl, L rfl, Gt _ _ e8, L rfl, Gt _ _ e9, L rfl, Lt' _ _ (by simp), trivial⟩
  · let hA := h ++ [AObj.cells (SpecV.cells ⟨r, m, wi, ba, ca⟩ (.slice (some ⟨o, 0, none⟩) l.length 3)) true]
    have L : ∀ {p : Nat} {x : Value}, (SpecV.cells ⟨r, m, wi, ba, ca⟩ (.slice (some ⟨o, 0, none⟩) l.length 3))[p]? = some x → (Asm.ld1 (.push (.is h) (.cells (SpecV.cells ⟨r, m, wi, ba, ca⟩ (.slice (some ⟨o, 0, none⟩) l.length 3)) true)) h.length p x).holds Try.prog := fun e => a_ld1 g0 e
    by_cases e1 : r < 1
    · rw [no (by simp [headOk]; omega)]; exact ⟨hA, pvF 0 Try.func25 (w15p.ck_a1s h.length o l.length r m wi ba ca h) ⟨rfl, L rfl, Lt' _ _ e1, trivial⟩, K0⟩
    by_cases e2 : r > 3
    · rw [no (by simp [headOk]; omega)]; exact ⟨hA, pvF 0 Try.func25 (w15p.ck_a2s h.length o l.length r m wi ba ca h) ⟨rfl, L rfl, Lt _ _ e1, L rfl, Gt' _ _ e2, trivial⟩, K0⟩
    by_cases e3 : m < 0
    · rw [no (by simp [headOk]; omega)]; exact ⟨hA, pvF 0 Try.func25 (w15p.ck_a3s h.length o l.length r m wi ba ca h) ⟨rfl, L rfl, Lt _ _ e1, L rfl, Gt _ _ e2, L rfl, Lt' _ _ e3, trivial⟩, K0⟩
    by_cases e4 : m > 20
    · rw [no (by simp [headOk]; omega)]; exact ⟨hA, pvF 0 Try.func25 (w15p.ck_a4s h.length o l.length r m wi ba ca h) ⟨rfl, L rfl, Lt _ _ e1, L rfl, Gt _ _ e2, L rfl, Lt _ _ e3, L rfl, Gt' _ _ e4, trivial⟩, K0⟩
    by_cases e5 : wi < 1
    · rw [no (by simp [headOk]; omega)]; exact ⟨hA, pvF 0 Try.func25 (w15p.ck_a5s h.length o l.length r m wi ba ca h) ⟨rfl, L rfl, Lt _ _ e1, L rfl, Gt _ _ e2, L rfl, Lt _ _ e3, L rfl, Gt _ _ e4, L rfl, Lt' _ _ e5, trivial⟩, K0⟩
    by_cases e6 : wi > 1000000000000
    · rw [no (by simp [headOk]; omega)]; exact ⟨hA, pvF 0 Try.func25 (w15p.ck_a6s h.length o l.length r m wi ba ca h) ⟨rfl, L rfl, Lt _ _ e1, L rfl, Gt _ _ e2, L rfl, Lt _ _ e3, L rfl, Gt _ _ e4, L rfl, Lt _ _ e5, L rfl, Gt' _ _ e6, trivial⟩, K0⟩
    by_cases e7 : ba < 0
    · rw [no (by simp [headOk]; omega)]; exact ⟨hA, pvF 0 Try.func25 (w15p.ck_b1s h.length o l.length r m wi ba ca h) ⟨rfl, L rfl, Lt _ _ e1, L rfl, Gt _ _ e2, L rfl, Lt _ _ e3, L rfl, Gt _ _ e4, L rfl, Lt _ _ e5, L rfl, Gt _ _ e6, L rfl, Lt' _ _ e7, trivial⟩, K0⟩
    by_cases e8 : ba > ca
    · rw [no (by simp [headOk]; omega)]; exact ⟨hA, pvF 0 Try.func25 (w15p.ck_b2s h.length o l.length r m wi ba ca h) ⟨rfl, L rfl, Lt _ _ e1, L rfl, Gt _ _ e2, L rfl, Lt _ _ e3, L rfl, Gt _ _ e4, L rfl, Lt _ _ e5, L rfl, Gt _ _ e6, L rfl, Lt _ _ e7, L rfl, L rfl, Gt' _ _ e8, trivial⟩, K0⟩
    by_cases e9 : ca > 1000000000000
    · rw [no (by simp [headOk]; omega)]; exact ⟨hA, pvF 0 Try.func25 (w15p.ck_b3s h.length o l.length r m wi ba ca h) ⟨rfl, L rfl, Lt _ _ e1, L rfl, Gt _ _ e2, L rfl, Lt _ _ e3, L rfl, Gt _ _ e4, L rfl, Lt _ _ e5, L rfl, Gt _ _ e6, L rfl, Lt _ _ e7, L rfl, L rfl, Gt _ _ e8, L rfl, Gt' _ _ e9, trivial⟩, K0⟩
    have hof : Int.ofNat l.length = (l.length : Int) := rfl
    by_cases e10 : (Int.ofNat l.length) < 1
    · rw [no (by simp [headOk]; omega)]; exact ⟨hA, pvF 0 Try.func25 (w15p.ck_b4s h.length o l.length r m wi ba ca h) ⟨rfl, L rfl, Lt _ _ e1, L rfl, Gt _ _ e2, L rfl, Lt _ _ e3, L rfl, Gt _ _ e4, L rfl, Lt _ _ e5, L rfl, Gt _ _ e6, L rfl, Lt _ _ e7, L rfl, L rfl, Gt _ _ e8, L rfl, Gt _ _ e9, L rfl, Lt' _ _ e10, trivial⟩, K0⟩
    by_cases e11 : (Int.ofNat l.length) > 8
    · rw [no (by simp [headOk]; omega)]; exact ⟨hA, pvF 0 Try.func25 (w15p.ck_b5s h.length o l.length r m wi ba ca h) ⟨rfl, L rfl, Lt _ _ e1, L rfl, Gt _ _ e2, L rfl, Lt _ _ e3, L rfl, Gt _ _ e4, L rfl, Lt _ _ e5, L rfl, Gt _ _ e6, L rfl, Lt _ _ e7, L rfl, L rfl, Gt _ _ e8, L rfl, Gt _ _ e9, L rfl, Lt _ _ e10, L rfl, Gt' _ _ e11, trivial⟩, K0⟩
    have hd : headOk ⟨r, m, wi, ba, ca⟩ l.length := by simp at e10 e11; simp only [headOk]; omega
    have pl : plainC (loopN Try.f25 0) = true := by kernel_rfl
    obtain ⟨x', E1, h1, hl1, hK, ⟨rfl, hv⟩ | ⟨rfl, hE1, hv⟩⟩ := check_loop (K0.2 _ _ ho id) (ha.keep K0) (by simp at e11; omega)
    · rw [show checkF ⟨r, m, wi, ba, ca⟩ l = 0 by simp [checkF, hd, hv]]
      exact ⟨h1, pvF 0 Try.func25 (w15p.ck_oks h.length o l.length r m wi ba ca E1 h h1) ⟨rfl, L rfl, Lt _ _ e1, L rfl, Gt _ _ e2, L rfl, Lt _ _ e3, L rfl, Gt _ _ e4, L rfl, Lt _ _ e5, L rfl, Gt _ _ e6, L rfl, Lt _ _ e7, L rfl, L rfl, Gt _ _ e8, L rfl, Gt _ _ e9, L rfl, Lt _ _ e10, L rfl, Gt _ _ e11, L rfl,
        a_loop pl (.add (.add (.add (.nil _) rfl) rfl) rfl) (.refl _) hl1, trivial⟩, K0.trans hK⟩
    · rw [show checkF ⟨r, m, wi, ba, ca⟩ l = 2 by simp [checkF, hv]]
      exact ⟨h1, pvF 0 Try.func25 (w15p.ck_nos h.length o l.length r m wi ba ca [] h h1) ⟨rfl, L rfl, Lt _ _ e1, L rfl, Gt _ _ e2, L rfl, Lt _ _ e3, L rfl, Gt _ _ e4, L rfl, Lt _ _ e5, L rfl, Gt _ _ e6, L rfl, Lt _ _ e7, L rfl, L rfl, Gt _ _ e8, L rfl, Gt _ _ e9, L rfl, Lt _ _ e10, L rfl, Gt _ _ e11, L rfl,
        a_loop pl (.add (.add (.add (.nil _) rfl) rfl) rfl) hE1 hl1, trivial⟩, K0.trans hK⟩

end Go.Proofs.Ytkkhokgpcifckaa.wd

namespace Go.Proofs.Ytkkhokgpcifckaa.wd
open Go Go.Ev

variable {h : Hp}

/-! ### New -/

theorem stat11 : statOk (drawN Try.f11 0) = true := by kernel_rfl
def sv0 (y : SvV) : Sv := ⟨y.wh, 1, 0⟩
def newW (s : SpecV) (l : List SvV) : WS := ⟨s.r, s.m, s.wi, s.ba, s.ca, l.map sv0, 0, [], 0, false⟩

/-- The warden while its services come in: none yet, or some. -/
def nwCells (s : SpecV) (v : Value) : List Value := [.int .i64 s.r, .int .i64 s.m, .int .i64 s.wi, .int .i64 s.ba, .int .i64 s.ca, .slice none 0 0, v, .int .i64 0, .slice none 0 0, .int .i64 0, .bool false]

theorem new_loop {o w : Nat} {xs : List SvH} {rw : Bool} {l : List SvV} (s : SpecV) (ho : h[o]? = some (.cells (svhC xs) rw)) (ha : SvsAt h xs l) (hl : l.length ≤ 8) (hw : h[w]? = some (.cells (nwCells s (.slice none 0 0)) true)) (how : o ≠ w) :
    ∃ E1 h1 v, EnvLe [(5, .pointer (some ⟨w, 0, none⟩))] E1 ∧ LRun Try.prog 47 false (loopN Try.f11 0) [(29, .int .i64 0), (28, .int .i64 (Int.ofNat l.length)), (27, .slice (some ⟨o, 0, none⟩) l.length 3), (5, .pointer (some ⟨w, 0, none⟩))] h (.exit 0) E1 h1 ∧
      Keep (fun q => q = w) h h1 ∧ h1[w]? = some (.cells (nwCells s v) true) ∧ OrdAt h1 h.length v (l.map sv0) := by
  have hcl := svhC_len xs
  have hxl := ha.1
  obtain ⟨x', E1, h1, hl1, rfl, v, q1, q2, q3, q4⟩ := loop_inv (P := Try.prog) (n := 47) (rd := false) (b := loopN Try.f11 0)
    (Q := fun x' E1 h1 => x' = .exit 0 ∧ ∃ v, EnvLe [(5, .pointer (some ⟨w, 0, none⟩))] E1 ∧ Keep (fun q => q = w) h h1 ∧ h1[w]? = some (.cells (nwCells s v) true) ∧ OrdAt h1 h.length v (l.map sv0))
    (fun m E g => ∃ k v, k ≤ l.length ∧ m = l.length - k ∧ EnvLe [(29, .int .i64 (k : Nat)), (28, .int .i64 (Int.ofNat l.length)), (27, .slice (some ⟨o, 0, none⟩) l.length 3), (5, .pointer (some ⟨w, 0, none⟩))] E ∧
      Keep (fun q => q = w) h g ∧ g[w]? = some (.cells (nwCells s v) true) ∧ OrdAt g h.length v ((l.take k).map sv0))
    (fun m E g ⟨k, v, k1, k2, k3, k4, k5, k6⟩ => by
      by_cases e : k = l.length
      · right
        subst e
        obtain ⟨E2, q1, q2⟩ := pvC 0 k3 (w15p.nwl_out o l.length w (l.length : Nat) g) ⟨by simp [Asm.holds, cmpB], trivial⟩
        exact ⟨_, E2, _, by simp, q2, rfl, v, .trans (.add (.nil _) rfl) q1, k4, k5, by rwa [List.take_length] at k6⟩
      · left
        obtain ⟨y, hy⟩ : ∃ y, l[k]? = some y := ⟨_, List.getElem?_eq_getElem (by omega)⟩
        obtain ⟨x, hx⟩ : ∃ x, xs[k]? = some x := ⟨_, List.getElem?_eq_getElem (by omega)⟩
        obtain ⟨x1, x2, x3⟩ := ha.2 k x y hx hy
        obtain ⟨fn, av, wh⟩ := x
        obtain ⟨fn', args, wh'⟩ := y
        simp only at x1 x2 x3
        subst x1; subst x2
        have hog := k4.2 _ _ ho how
        have hgw := get_lt k5
        have hhl := k4.1
        have ak1 : IntKind.i64.wrap ((k : Int) + 1) = ((k + 1 : Nat) : Int) := add1 (by omega)
        have pre1 : (Asm.cmp .lss (k : Int) (Int.ofNat l.length) true).holds Try.prog := by simp [Asm.holds, cmpB]; omega
        have pre2 : (Asm.off (k * 3) 0 (k : Int) l.length 3).holds Try.prog := ⟨by omega, by omega, by simp⟩
        have pre3 : (Asm.ldn (.is g) o (k * 3) 3 [.int .i64 fn, av, .int .i64 wh]).holds Try.prog := a_ldn hog (by omega) (svhC_cut hx)
        let gA : Hp := (g ++ [AObj.cells [.int .i64 0, .slice none 0 0, .int .i64 0] true]).set g.length (.cells [.int .i64 fn, av, .int .i64 wh] true)
        have KA : Keep (fun _ => False) g gA := (Keep.push (fun _ => False) g _).trans_new (Keep.set (fp := fun q => q = g.length) rfl _) (fun q hq e => by omega)
        have gx : gA[g.length]? = some (.cells [.int .i64 fn, av, .int .i64 wh] true) := get_set_eq (get_new g _)
        have hAl : gA.length = g.length + 1 := by simp [gA]
        have gw := KA.2 _ _ k5 id
        have hmap : (l.take (k + 1)).map sv0 = (l.take k).map sv0 ++ [⟨wh, 1, 0⟩] := by rw [take_snoc hy, List.map_append]; rfl
        let B : AObj := .cells [.int .i64 wh, .int .i64 1, .int .i64 0] true
        have K0 : ∀ c, Keep (fun q => q = w) h ((((gA ++ [B]) ++ [AObj.cells (svC [⟨wh, 1, 0⟩]) true]).set w (.cells c true))) := fun c =>
          ((k4.trans (KA.mono fun q _ e => e.elim)).trans ((Keep.push (fun q => q = w) _ _).trans (Keep.push _ _ _))).trans (Keep.set (fp := fun q => q = w) rfl _)
        rcases k6 with ⟨rfl, hnil⟩ | ⟨j, rfl, hj, hbj, hne⟩
        · -- the first
          have st := a_st (P := Try.prog) (s := .push (.push (.set (.push (.is g) (.cells [.int .i64 0, .slice none 0 0, .int .i64 0] true)) g.length (.cells [.int .i64 fn, av, .int .i64 wh] true)) B) (.cells (svC [⟨wh, 1, 0⟩]) true)) (i := w) (d := 6) (l := [.slice (some ⟨g.length + 2, 0, none⟩) 1 3]) (c' := nwCells s (.slice (some ⟨g.length + 2, 0, none⟩) 1 3))
            (get_push (get_push gw)) (by simp [nwCells]) rfl
          have ap : (Asm.appNil (.push (.set (.push (.is g) (.cells [.int .i64 0, .slice none 0 0, .int .i64 0] true)) g.length (.cells [.int .i64 fn, av, .int .i64 wh] true)) B) (g.length + 1) 0 1 0 3 24 (svC [⟨wh, 1, 0⟩]) (g.length + 2)).holds Try.prog :=
            a_app3n (l2 := [⟨wh, 1, 0⟩]) (get_new' _ (by simp [SH.den])) (by simp) (by simp) (by simp [SH.den])
          have ln : (Asm.len (.set (.push (.is g) (.cells [.int .i64 0, .slice none 0 0, .int .i64 0] true)) g.length (.cells [.int .i64 fn, av, .int .i64 wh] true)) (g.length + 1)).holds Try.prog := by simp [Asm.holds, SH.den]
          have out : ∀ E2, EnvLe [(29, .int .i64 ((k + 1 : Nat) : Int)), (28, .int .i64 (Int.ofNat l.length)), (27, .slice (some ⟨o, 0, none⟩) l.length 3), (5, .pointer (some ⟨w, 0, none⟩))] E2 →
              CRun Try.prog 47 false (loopN Try.f11 0) E g .normal E2 (((gA ++ [B]) ++ [AObj.cells (svC [⟨wh, 1, 0⟩]) true]).set w (.cells (nwCells s (.slice (some ⟨g.length + 2, 0, none⟩) 1 3)) true)) →
              ∃ m' E1 h1, m' < m ∧ CRun Try.prog 47 false (loopN Try.f11 0) E g .normal E1 h1 ∧ ∃ k v, k ≤ l.length ∧ m' = l.length - k ∧ EnvLe [(29, .int .i64 (k : Nat)), (28, .int .i64 (Int.ofNat l.length)), (27, .slice (some ⟨o, 0, none⟩) l.length 3), (5, .pointer (some ⟨w, 0, none⟩))] E1 ∧
                Keep (fun q => q = w) h h1 ∧ h1[w]? = some (.cells (nwCells s v) true) ∧ OrdAt h1 h.length v ((l.take k).map sv0) := fun E2 q1 q2 =>
            ⟨l.length - (k + 1), E2, _, by omega, q2, k + 1, _, by omega, rfl, q1, K0 _, get_set_eq (get_push (get_push gw)), .inr ⟨g.length + 2, by rw [hmap, hnil]; rfl, by
              rw [hmap, hnil]; exact get_set_ne (get_new' _ (by simp [hAl])) (by omega), by omega, by rw [hmap]; simp⟩⟩
          rcases x3 with ⟨rfl, hnil⟩ | ⟨a, rw', rfl, hao⟩
          · obtain ⟨E2, q1, q2⟩ := pvC 0 k3 (w15p.nwl_onen o l.length w (k * 3) g.length (g.length + 1) (g.length + 2) k ((k + 1 : Nat) : Int) fn wh (nwCells s (.slice (some ⟨g.length + 2, 0, none⟩) 1 3)) (svC [⟨wh, 1, 0⟩]) g)
              ⟨pre1, pre2, pre3, rfl, a_st (get_new g _) (by simp) rfl, stat11, a_ld1 gw rfl, a_ld1 gx rfl, ln, ap, st, by simp only [Asm.holds, arithI, ak1], trivial⟩
            exact out E2 (.trans (.add (.add (.add (.add (.nil _) rfl) rfl) rfl) rfl) q1) q2
          · obtain ⟨E2, q1, q2⟩ := pvC 0 k3 (w15p.nwl_ones o l.length w (k * 3) g.length (g.length + 1) (g.length + 2) k ((k + 1 : Nat) : Int) fn wh (nwCells s (.slice (some ⟨g.length + 2, 0, none⟩) 1 3)) (svC [⟨wh, 1, 0⟩]) g a args.length)
              ⟨pre1, pre2, pre3, rfl, a_st (get_new g _) (by simp) rfl, stat11, a_ld1 gw rfl, a_ld1 gx rfl, ln, ap, st, by simp only [Asm.holds, arithI, ak1], trivial⟩
            exact out E2 (.trans (.add (.add (.add (.add (.nil _) rfl) rfl) rfl) rfl) q1) q2
        · -- one more
          have hlen : ((l.take k).map sv0).length = k := by simp; omega
          have hjl := get_lt hj
          have hjw : j ≠ w := by
            rintro rfl
            rw [hj] at k5
            simp only [Option.some.injEq, AObj.cells.injEq] at k5
            have e1 := svC_len ((l.take k).map sv0)
            rw [k5.1, hlen] at e1
            simp [nwCells] at e1
            omega
          have gj := KA.2 _ _ hj id
          have gjB : ((gA ++ [B]).set j .dead ++ [AObj.cells (svC ((l.take k).map sv0 ++ [(⟨wh, 1, 0⟩ : Sv)])) true])[w]? = some (.cells (nwCells s (.slice (some ⟨j, 0, none⟩) ((l.take k).map sv0).length 3)) true) := get_push (get_set_ne (get_push gw) hjw)
          have st := a_st (P := Try.prog) (s := .push (.set (.push (.set (.push (.is g) (.cells [.int .i64 0, .slice none 0 0, .int .i64 0] true)) g.length (.cells [.int .i64 fn, av, .int .i64 wh] true)) B) j .dead) (.cells (svC ((l.take k).map sv0 ++ [(⟨wh, 1, 0⟩ : Sv)])) true)) (i := w) (d := 6)
            (l := [.slice (some ⟨g.length + 2, 0, none⟩) (((l.take k).map sv0).length + 1) 3]) (c' := nwCells s (.slice (some ⟨g.length + 2, 0, none⟩) (((l.take k).map sv0).length + 1) 3)) gjB (by simp [nwCells]) rfl
          have ap : (Asm.app (.push (.set (.push (.is g) (.cells [.int .i64 0, .slice none 0 0, .int .i64 0] true)) g.length (.cells [.int .i64 fn, av, .int .i64 wh] true)) B) j 0 ((l.take k).map sv0).length (g.length + 1) 0 1 0 3 24 (svC ((l.take k).map sv0 ++ [(⟨wh, 1, 0⟩ : Sv)])) (svC [(⟨wh, 1, 0⟩ : Sv)]) (g.length + 2)).holds Try.prog :=
            a_app3 (l1 := (l.take k).map sv0) (l2 := [(⟨wh, 1, 0⟩ : Sv)]) (get_push gj) (get_new' _ (by simp [SH.den])) (by simp) (by simp; omega) (by simp [SH.den])
          have ln : (Asm.len (.set (.push (.is g) (.cells [.int .i64 0, .slice none 0 0, .int .i64 0] true)) g.length (.cells [.int .i64 fn, av, .int .i64 wh] true)) (g.length + 1)).holds Try.prog := by simp [Asm.holds, SH.den]
          have K1 : ∀ c, Keep (fun q => q = w) h ((((gA ++ [B]).set j .dead) ++ [AObj.cells (svC ((l.take k).map sv0 ++ [⟨wh, 1, 0⟩])) true]).set w (.cells c true)) := fun c =>
            (k4.trans (KA.mono fun q _ e => e.elim)).trans_new ((((Keep.push (fun q => q = w ∨ q = j) _ _).trans (Keep.set (fp := fun q => q = w ∨ q = j) (.inr rfl) _)).trans (Keep.push _ _ _)).trans (Keep.set (fp := fun q => q = w ∨ q = j) (.inl rfl) _)) (fun q hq e => by omega)
          have out : ∀ E2, EnvLe [(29, .int .i64 ((k + 1 : Nat) : Int)), (28, .int .i64 (Int.ofNat l.length)), (27, .slice (some ⟨o, 0, none⟩) l.length 3), (5, .pointer (some ⟨w, 0, none⟩))] E2 →
              CRun Try.prog 47 false (loopN Try.f11 0) E g .normal E2 ((((gA ++ [B]).set j .dead) ++ [AObj.cells (svC ((l.take k).map sv0 ++ [⟨wh, 1, 0⟩])) true]).set w (.cells (nwCells s (.slice (some ⟨g.length + 2, 0, none⟩) (((l.take k).map sv0).length + 1) 3)) true)) →
              ∃ m' E1 h1, m' < m ∧ CRun Try.prog 47 false (loopN Try.f11 0) E g .normal E1 h1 ∧ ∃ k v, k ≤ l.length ∧ m' = l.length - k ∧ EnvLe [(29, .int .i64 (k : Nat)), (28, .int .i64 (Int.ofNat l.length)), (27, .slice (some ⟨o, 0, none⟩) l.length 3), (5, .pointer (some ⟨w, 0, none⟩))] E1 ∧
                Keep (fun q => q = w) h h1 ∧ h1[w]? = some (.cells (nwCells s v) true) ∧ OrdAt h1 h.length v ((l.take k).map sv0) := fun E2 q1 q2 =>
            ⟨l.length - (k + 1), E2, _, by omega, q2, k + 1, _, by omega, rfl, q1, K1 _, get_set_eq gjB, .inr ⟨g.length + 2, by rw [hmap]; simp, by
              rw [hmap]; exact get_set_ne (get_new' _ (by simp [hAl])) (by omega), by omega, by rw [hmap]; simp⟩⟩
          rcases x3 with ⟨rfl, hnil⟩ | ⟨a, rw', rfl, hao⟩
          · obtain ⟨E2, q1, q2⟩ := pvC 0 k3 (w15p.nwl_moren o l.length w (k * 3) g.length (g.length + 1) (g.length + 2) j ((l.take k).map sv0).length k ((k + 1 : Nat) : Int) fn wh (svC ((l.take k).map sv0 ++ [⟨wh, 1, 0⟩])) (nwCells s (.slice (some ⟨g.length + 2, 0, none⟩) (((l.take k).map sv0).length + 1) 3)) (svC [⟨wh, 1, 0⟩]) g)
              ⟨pre1, pre2, pre3, rfl, a_st (get_new g _) (by simp) rfl, stat11, a_ld1 gw rfl, a_ld1 gx rfl, ln, ap, st, by simp only [Asm.holds, arithI, ak1], trivial⟩
            exact out E2 (.trans (.add (.add (.add (.add (.nil _) rfl) rfl) rfl) rfl) q1) q2
          · obtain ⟨E2, q1, q2⟩ := pvC 0 k3 (w15p.nwl_mores o l.length w (k * 3) g.length (g.length + 1) (g.length + 2) j ((l.take k).map sv0).length k ((k + 1 : Nat) : Int) fn wh (svC ((l.take k).map sv0 ++ [⟨wh, 1, 0⟩])) (nwCells s (.slice (some ⟨g.length + 2, 0, none⟩) (((l.take k).map sv0).length + 1) 3)) (svC [⟨wh, 1, 0⟩]) g a args.length)
              ⟨pre1, pre2, pre3, rfl, a_st (get_new g _) (by simp) rfl, stat11, a_ld1 gw rfl, a_ld1 gx rfl, ln, ap, st, by simp only [Asm.holds, arithI, ak1], trivial⟩
            exact out E2 (.trans (.add (.add (.add (.add (.nil _) rfl) rfl) rfl) rfl) q1) q2)
    l.length [(29, .int .i64 ((0 : Nat) : Int)), (28, .int .i64 (Int.ofNat l.length)), (27, .slice (some ⟨o, 0, none⟩) l.length 3), (5, .pointer (some ⟨w, 0, none⟩))] h ⟨0, .slice none 0 0, by omega, rfl, EnvLe.refl _, .refl _ _, hw, .inl ⟨rfl, rfl⟩⟩
  exact ⟨E1, h1, v, q1, hl1, q2, q3, q4⟩

theorem new_run {v : Value} {l : List SvV} (s : SpecV) (a : SlAt h v l) :
    (checkF s l ≠ 0 ∧ ∃ h', Run Try.prog 11 [.agg (s.cells v).toArray] h (.tuple #[.pointer none, .int .i64 (checkF s l)]) h' ∧ Keep (fun _ => False) h h') ∨
    (checkF s l = 0 ∧ ∃ i j h', Run Try.prog 11 [.agg (s.cells v).toArray] h (.tuple #[.pointer (some ⟨i, 0, none⟩), .int .i64 0]) h' ∧ Keep (fun _ => False) h h' ∧ WAt h' i j none (newW s l) ∧ h.length ≤ i ∧ h.length ≤ j) := by
  obtain ⟨r, m, wi, ba, ca⟩ := s
  have K0 : Keep (fun _ => False) h (h ++ [.cells (SpecV.cells ⟨r, m, wi, ba, ca⟩ v) true]) := Keep.push _ _ _
  have g0 : (h ++ [AObj.cells (SpecV.cells ⟨r, m, wi, ba, ca⟩ v) true])[h.length]? = some (.cells (SpecV.cells ⟨r, m, wi, ba, ca⟩ v) true) := get_new h _
  obtain ⟨g2, hc, K2⟩ := check_run ⟨r, m, wi, ba, ca⟩ (a.keep K0)
  by_cases e : checkF ⟨r, m, wi, ba, ca⟩ l = 0
  · right
    refine ⟨e, ?_⟩
    have hh : headOk ⟨r, m, wi, ba, ca⟩ l.length := by
      unfold checkF at e
      split at e
      · rename_i hx; exact hx.1
      · cases e
    rw [e] at hc
    rcases a with ⟨rfl, rfl⟩ | ⟨o, rw, xs, rfl, ho, ha⟩
    · simp [headOk] at hh
    · have ge := K2.2 _ _ g0 id
      have KW : Keep (fun _ => False) g2 (g2 ++ [AObj.cells (nwCells ⟨r, m, wi, ba, ca⟩ (.slice none 0 0)) true]) := Keep.push _ _ _
      have hol := get_lt ho
      have hg2 := K2.1
      simp at hg2
      obtain ⟨E1, h1, v, e1, hl1, K3, hw, hO⟩ := new_loop ⟨r, m, wi, ba, ca⟩ (KW.2 _ _ (K2.2 _ _ (K0.2 _ _ ho id) id) id) (((ha.keep K0).keep K2).keep KW) (by have := hh; unfold headOk at this; omega) (get_new g2 _) (by omega)
      have pl : plainC (loopN Try.f11 0) = true := by kernel_rfl
      rcases hO with ⟨rfl, hnil⟩ | ⟨j, rfl, hj, hbj, hne⟩
      · have : l.length = 0 := by simpa using congrArg List.length hnil
        rw [this] at hh; simp [headOk] at hh
      · simp at hbj
        have hw' := hw
        have hml : (l.map sv0).length = l.length := by simp
        refine ⟨g2.length, j, h1, pvF 0 Try.func11 (w15p.nw_ok h.length o l.length g2.length r m wi ba ca 0 [] h g2 h1)
          ⟨rfl, a_ldn g0 (by simp [SpecV.cells]) rfl, hc, by simp [Asm.holds, cmpB], a_ld1 ge rfl, a_ld1 ge rfl, a_ld1 ge rfl, a_ld1 ge rfl, a_ld1 ge rfl, rfl, a_ld1 (KW.2 _ _ ge id) rfl,
            a_loop pl (.add (.add (.add (.add (.nil _) rfl) rfl) rfl) rfl) e1 hl1, trivial⟩, ((K0.trans K2).trans KW).trans_new K3 (fun q hq e => by omega), ⟨hw, hj, .inl ⟨rfl, rfl⟩, by omega⟩, by omega, by omega⟩
  · left
    refine ⟨e, g2, ?_, K0.trans K2⟩
    rcases a with ⟨rfl, rfl⟩ | ⟨o, rw, xs, rfl, ho, ha⟩
    · exact pvF 0 Try.func11 (w15p.nw_non h.length r m wi ba ca _ h g2) ⟨rfl, a_ldn g0 (by simp [SpecV.cells]) rfl, hc, by simpa [Asm.holds, cmpB] using e, trivial⟩
    · exact pvF 0 Try.func11 (w15p.nw_nos h.length r m wi ba ca _ h g2 o l.length) ⟨rfl, a_ldn g0 (by simp [SpecV.cells]) rfl, hc, by simpa [Asm.holds, cmpB] using e, trivial⟩

theorem newW_ok {s : SpecV} {l : List SvV} (e : checkF s l = 0) : WOk (newW s l) ∧ (newW s l).svs.length = l.length ∧ headOk s l.length ∧ l.all svOk = true := by
  unfold checkF at e
  split at e
  · rename_i hx
    obtain ⟨hh, hs⟩ := hx
    have hh' := hh
    unfold headOk at hh'
    refine ⟨⟨?_, ?_, ?_, ?_, ?_, ?_, ?_, ?_, ?_, ?_⟩, ?_, hh, hs⟩ <;> simp [newW] <;> omega
  · cases e

end Go.Proofs.Ytkkhokgpcifckaa.wd

namespace Go.Proofs.Ytkkhokgpcifckaa.wd
open Go Go.Ev
set_option maxRecDepth 100000
set_option linter.constructorNameAsVariable false

/-! ### The arguments, taken apart -/

theorem chunks {α : Type} (f : α → List Value) {z : Nat} (hz : ∀ x, (f x).length = z) : ∀ (n : Nat) (c : List Value), c.length = n * z → (∀ k, k < n → ∃ x, (c.drop (k * z)).take z = f x) →
    ∃ l : List α, l.length = n ∧ c = l.flatMap f ∧ ∀ k x, l[k]? = some x → (c.drop (k * z)).take z = f x
  | 0, c, hl, _ => ⟨[], rfl, List.length_eq_zero_iff.1 (by simpa using hl), fun k x h => by simp at h⟩
  | n + 1, c, hl, hc => by
    have hs : (n + 1) * z = n * z + z := by rw [Nat.add_mul, Nat.one_mul]
    obtain ⟨x, hx⟩ := hc 0 (by omega)
    obtain ⟨l, h1, h2, h3⟩ := chunks f hz n (c.drop z) (by rw [List.length_drop, hl, hs]; omega) (fun k hk => by
      obtain ⟨y, hy⟩ := hc (k + 1) (by omega)
      refine ⟨y, ?_⟩
      rw [List.drop_drop, ← hy, Nat.add_mul, Nat.one_mul, Nat.add_comm])
    refine ⟨x :: l, by simp [h1], ?_, fun k y hy => ?_⟩
    · rw [List.flatMap_cons, ← h2, ← hx, Nat.zero_mul, List.drop_zero, List.take_append_drop]
    · cases k with
      | zero => simp at hy; subst hy; exact hx
      | succ k =>
        have := h3 k y (by simpa using hy)
        rw [List.drop_drop, Nat.add_comm z] at this
        rw [Nat.add_mul, Nat.one_mul]; exact this

theorem vvC_flat : ∀ l : List VV, l.flatMap VV.cells = vvC l
  | [] => rfl
  | x :: l => by rw [List.flatMap_cons, vvC_flat l]; rfl
theorem svhC_flat : ∀ l : List SvH, l.flatMap SvH.cells = svhC l
  | [] => rfl
  | x :: l => by rw [List.flatMap_cons, svhC_flat l]; rfl

def opC : List OpV → List Value
  | [] => []
  | x :: l => .int .i64 x.kind :: .int .i64 x.n :: .int .i64 x.at' :: .int .i64 x.fk :: .string x.ft :: opC l
theorem opC_flat : ∀ l : List OpV, l.flatMap OpV.cells = opC l
  | [] => rfl
  | x :: l => by rw [List.flatMap_cons, opC_flat l]; rfl
theorem opC_len : ∀ l : List OpV, (opC l).length = l.length * 5
  | [] => rfl
  | x :: l => by simp [opC, opC_len l]; omega
theorem opC_cut : ∀ {l : List OpV} {k : Nat} {x : OpV}, l[k]? = some x → ((opC l).drop (k * 5)).take 5 = x.cells
  | [], k, x, h => by simp at h
  | y :: l, 0, x, h => by simp at h; subst h; simp [opC, OpV.cells]
  | y :: l, k + 1, x, h => by
    have := opC_cut (l := l) (k := k) (x := x) (by simpa using h)
    rw [show (k + 1) * 5 = k * 5 + 5 by omega]
    simpa [opC] using this

/-- The calls where they lie. -/
def OpsAt (h : Hp) (v : Value) (l : List OpV) : Prop := (v = .slice none 0 0 ∧ l = []) ∨ ∃ o rw, v = .slice (some ⟨o, 0, none⟩) l.length 5 ∧ h[o]? = some (.cells (opC l) rw)

section
variable {h : Hp} {F : Nat}
theorem c3 : Try.prog.cellsOf 3 = 1 := by kernel_rfl
theorem c9 : Try.prog.cellsOf 9 = 1 := by kernel_rfl
theorem c34 : Try.prog.cellsOf 34 = 2 := by kernel_rfl
theorem c36 : Try.prog.cellsOf 36 = 5 := by kernel_rfl
theorem c54 : Try.prog.cellsOf 54 = 3 := by kernel_rfl
theorem c52 : Try.prog.cellsOf 52 = 1 := by kernel_rfl
theorem c22 : Try.prog.cellsOf 22 = 1 := by kernel_rfl
theorem c24 : Try.prog.cellsOf 24 = 6 := by kernel_rfl
theorem c71 : Try.prog.cellsOf 71 = 3 := by kernel_rfl
theorem u3 : Try.prog.underlying 3 = some (.int .i64) := by kernel_rfl
theorem u9 : Try.prog.underlying 9 = some .string := by kernel_rfl
theorem u25 : Try.prog.underlying 25 = some (.slice 36) := by kernel_rfl
theorem u22 : Try.prog.underlying 22 = some (.slice 54) := by kernel_rfl
theorem u52 : Try.prog.underlying 52 = some (.slice 71) := by kernel_rfl

theorem op_cells {cs : List Value} (hc : ATyped Try.prog h F 36 cs) : ∃ x : OpV, cs = x.cells := by
  obtain ⟨G, rfl, hl, hf⟩ := hc.asStruct Try.underlying36
  rw [c36] at hl
  match cs, hl with
  | [a, b, c, d, e], _ =>
    simp only [List.forall_mem_cons, c3, c34] at hf
    obtain ⟨k, h1, _⟩ := hf.1.asInt u3
    obtain ⟨n, h2, _⟩ := hf.2.1.asInt u3
    obtain ⟨t, h3, _⟩ := hf.2.2.1.asInt u3
    obtain ⟨G, rfl, hl, hg⟩ := hf.2.2.2.1.asStruct Try.underlying34
    simp only [List.forall_mem_cons, c3, c9] at hg
    obtain ⟨f, h4, _⟩ := hg.1.asInt u3
    obtain ⟨s, h5, _⟩ := hg.2.1.asString u9
    simp at h1 h2 h3 h4 h5
    subst h1; subst h2; subst h3; subst h4; subst h5
    exact ⟨⟨k, n, t, f, s⟩, rfl⟩
theorem ops_arg {a : Value} (ht : ArgTyped Try.prog h F 25 a) : ∃ l : List OpV, OpsAt h a l := by
  obtain ⟨G, rfl, rfl | ⟨i, len, c, rfl, hi, hl, _, hk⟩⟩ := ht.asSlice u25
  · exact ⟨[], .inl ⟨rfl, rfl⟩⟩
  · rw [c36] at hl hk
    obtain ⟨l, h1, h2, _⟩ := chunks OpV.cells (z := 5) (fun _ => rfl) len c hl (fun k hlt => op_cells (hk k hlt))
    rw [opC_flat] at h2
    exact ⟨l, .inr ⟨i, false, by rw [c36, h1], by rw [← h2]; exact hi⟩⟩

theorem vv_cells {cs : List Value} (hc : ATyped Try.prog h F 71 cs) : ∃ x : VV, cs = x.cells := by
  obtain ⟨G, rfl, hl, hf⟩ := hc.asStruct Try.underlying71
  rw [c71] at hl
  match cs, hl with
  | [a, b, c], _ =>
    simp only [List.forall_mem_cons, c3, c9] at hf
    obtain ⟨k, h1, _⟩ := hf.1.asInt u3
    obtain ⟨n, h2, _⟩ := hf.2.1.asInt u3
    obtain ⟨s, h3, _⟩ := hf.2.2.1.asString u9
    simp at h1 h2 h3
    subst h1; subst h2; subst h3
    exact ⟨⟨k, n, s⟩, rfl⟩
theorem args_cells {cs : List Value} (hc : ATyped Try.prog h F 52 cs) : ∃ v l, cs = [v] ∧ ArgsAt h v l := by
  obtain ⟨G, rfl, rfl | ⟨i, len, c, rfl, hi, hl, _, hk⟩⟩ := hc.asSlice u52
  · exact ⟨_, [], rfl, .inl ⟨rfl, rfl⟩⟩
  · rw [c71] at hl hk
    obtain ⟨l, h1, h2, _⟩ := chunks VV.cells (z := 3) (fun _ => rfl) len c hl (fun k hlt => vv_cells (hk k hlt))
    rw [vvC_flat] at h2
    exact ⟨_, l, rfl, .inr ⟨i, false, by rw [c71, h1], by rw [← h2]; exact hi⟩⟩
theorem sv_cells {cs : List Value} (hc : ATyped Try.prog h F 54 cs) : ∃ (x : SvH), cs = x.cells ∧ ∃ l, ArgsAt h x.av l := by
  obtain ⟨G, rfl, hl, hf⟩ := hc.asStruct Try.underlying54
  rw [c54] at hl
  match cs, hl with
  | [a, b, c], _ =>
    simp only [List.forall_mem_cons, c3, c52] at hf
    obtain ⟨k, h1, _⟩ := hf.1.asInt u3
    obtain ⟨v, l, h2, hA⟩ := args_cells hf.2.1
    obtain ⟨n, h3, _⟩ := hf.2.2.1.asInt u3
    simp at h1 h2 h3
    subst h1; subst h2; subst h3
    exact ⟨⟨k, b, n⟩, rfl, l, hA⟩
theorem svs_cells {cs : List Value} (hc : ATyped Try.prog h F 22 cs) : ∃ v l, cs = [v] ∧ SlAt h v l := by
  obtain ⟨G, rfl, rfl | ⟨i, len, c, rfl, hi, hl, _, hk⟩⟩ := hc.asSlice u22
  · exact ⟨_, [], rfl, .inl ⟨rfl, rfl⟩⟩
  · rw [c54] at hl hk
    obtain ⟨xs, h1, h2, h3⟩ := chunks SvH.cells (z := 3) (fun _ => rfl) len c hl (fun k hlt => (sv_cells (hk k hlt)).imp fun _ h => h.1)
    rw [svhC_flat] at h2
    have ex : ∀ x ∈ xs, ∃ l, ArgsAt h x.av l := fun x hx => by
      obtain ⟨k, hk'⟩ := List.mem_iff_getElem?.1 hx
      obtain ⟨y, hy, l, hl⟩ := sv_cells (hk k (by have := (List.getElem?_eq_some_iff.1 hk').1; omega))
      rw [h3 k x hk'] at hy
      obtain ⟨a, b, c⟩ := x
      obtain ⟨a', b', c'⟩ := y
      simp [SvH.cells] at hy
      obtain ⟨rfl, rfl, rfl⟩ := hy
      exact ⟨l, hl⟩
    obtain ⟨ys, hy⟩ : ∃ ys : List SvV, SvsAt h xs ys := by
      clear h1 h2 h3
      induction xs with
      | nil => exact ⟨[], rfl, fun k x y h => by simp at h⟩
      | cons x xs ih =>
        obtain ⟨l, hl⟩ := ex x (List.mem_cons_self ..)
        obtain ⟨ys, e1, e2⟩ := ih (fun y hy => ex y (List.mem_cons_of_mem _ hy))
        refine ⟨⟨x.fn, l, x.wh⟩ :: ys, by simp [e1], fun k a b ha hb => ?_⟩
        cases k with
        | zero => simp at ha hb; subst ha; subst hb; exact ⟨rfl, rfl, hl⟩
        | succ k => exact e2 k a b (by simpa using ha) (by simpa using hb)
    exact ⟨_, ys, rfl, .inr ⟨i, false, xs, by rw [c54, ← hy.1, h1], by rw [← h2]; exact hi, hy⟩⟩
theorem spec_arg {a : Value} (ht : ArgTyped Try.prog h F 24 a) : ∃ s : SpecV, ∃ v l, a = .agg (s.cells v).toArray ∧ SlAt h v l := by
  obtain ⟨cs, rfl, hc⟩ := ht.asStruct Try.underlying24
  obtain ⟨G, rfl, hl, hf⟩ := hc.asStruct Try.underlying24
  rw [c24] at hl
  obtain ⟨cs⟩ := cs
  match cs, hl with
  | [a, b, c, d, e, f], _ =>
    simp only [List.forall_mem_cons, c3, c22] at hf
    obtain ⟨k, h1, _⟩ := hf.1.asInt u3
    obtain ⟨n, h2, _⟩ := hf.2.1.asInt u3
    obtain ⟨t, h3, _⟩ := hf.2.2.1.asInt u3
    obtain ⟨p, h4, _⟩ := hf.2.2.2.1.asInt u3
    obtain ⟨q, h5, _⟩ := hf.2.2.2.2.1.asInt u3
    obtain ⟨v, l, h6, hA⟩ := svs_cells hf.2.2.2.2.2.1
    simp at h1 h2 h3 h4 h5 h6
    subst h1; subst h2; subst h3; subst h4; subst h5; subst h6
    exact ⟨⟨k, n, t, p, q⟩, f, l, rfl, hA⟩
end

end Go.Proofs.Ytkkhokgpcifckaa.wd

namespace Go.Proofs.Ytkkhokgpcifckaa.wd
open Go Go.Ev

/-! ### Plain facts of the Warden -/

theorem stS_get (p : Nat → Bool) : ∀ (n : Nat) (l : List Sv) (k : Nat), (stS p n l)[k]? = (l[k]?).map (stStep p (n + k))
  | n, [], k => by simp [stS]
  | n, x :: l, 0 => by simp [stS]
  | n, x :: l, k + 1 => by
    have := stS_get p (n + 1) l k
    rw [show n + (k + 1) = n + 1 + k by omega]
    simpa [stS] using this
theorem mS_get (f : Nat → Sv → Sv) : ∀ (n : Nat) (l : List Sv) (k : Nat), (mS f n l)[k]? = (l[k]?).map (f (n + k))
  | n, [], k => by simp [mS]
  | n, x :: l, 0 => by simp [mS]
  | n, x :: l, k + 1 => by
    have := mS_get f (n + 1) l k
    rw [show n + (k + 1) = n + 1 + k by omega]
    simpa [mS] using this
theorem setSt_get (l : List Sv) (n s : Int) (k : Nat) : (setSt l n s)[k]? = (l[k]?).map fun x => if k = (n - 1).toNat then { x with state := s } else x := by
  unfold setSt
  cases hx : l[(n - 1).toNat]? with
  | none =>
    simp only
    cases hk : l[k]? with
    | none => rfl
    | some y =>
      have : k ≠ (n - 1).toNat := fun e => by subst e; rw [hx] at hk; cases hk
      simp only [Option.map_some, if_neg this]
  | some x =>
    simp only
    by_cases e : k = (n - 1).toNat
    · subst e
      rw [List.getElem?_set_self (get_lt' hx), hx]; simp only [Option.map_some, if_true]
    · rw [List.getElem?_set_ne (Ne.symm e)]
      cases l[k]? with
      | none => rfl
      | some y => simp only [Option.map_some, if_neg e]
theorem putSv_get (l : List Sv) (n : Int) (f : Sv → Sv) (k : Nat) : (putSv l n f)[k]? = (l[k]?).map fun x => if k = (n - 1).toNat then f x else x := by
  unfold putSv
  cases hx : l[(n - 1).toNat]? with
  | none =>
    simp only
    cases hk : l[k]? with
    | none => rfl
    | some y =>
      have : k ≠ (n - 1).toNat := fun e => by subst e; rw [hx] at hk; cases hk
      simp only [Option.map_some, if_neg this]
  | some x =>
    simp only
    by_cases e : k = (n - 1).toNat
    · subst e
      rw [List.getElem?_set_self (get_lt' hx), hx]; simp only [Option.map_some, if_true]
    · rw [List.getElem?_set_ne (Ne.symm e)]
      cases l[k]? with
      | none => rfl
      | some y => simp only [Option.map_some, if_neg e]

/-- What each service becomes: pointwise relations between two rows of services. -/
def Each (R : Sv → Sv → Prop) (l m : List Sv) : Prop := m.length = l.length ∧ ∀ (k : Nat) x y, l[k]? = some x → m[k]? = some y → R x y
theorem Each.refl {R : Sv → Sv → Prop} (hr : ∀ x, R x x) (l : List Sv) : Each R l l := ⟨rfl, fun k x y hx hy => by rw [hx] at hy; cases hy; exact hr x⟩
theorem Each.trans {R : Sv → Sv → Prop} (ht : ∀ x y z, R x y → R y z → R x z) {a b c : List Sv} (h : Each R a b) (g : Each R b c) : Each R a c :=
  ⟨by rw [g.1, h.1], fun k x z hx hz => by
    have hk := get_lt' hx
    have hb : k < b.length := by rw [h.1]; exact hk
    exact ht x b[k] z (h.2 k x _ hx (List.getElem?_eq_getElem hb)) (g.2 k _ z (List.getElem?_eq_getElem hb) hz)⟩
theorem Each.mono {R S : Sv → Sv → Prop} (hi : ∀ x y, R x y → S x y) {a b : List Sv} (h : Each R a b) : Each S a b := ⟨h.1, fun k x y hx hy => hi x y (h.2 k x y hx hy)⟩
theorem Each.of_map {R : Sv → Sv → Prop} {a b : List Sv} (f : Nat → Sv → Sv) (hl : b.length = a.length) (hb : ∀ k : Nat, b[k]? = (a[k]?).map (f k)) (hr : ∀ k x, R x (f k x)) : Each R a b :=
  ⟨hl, fun k x y hx hy => by rw [hb k, hx] at hy; simp at hy; subst hy; exact hr k x⟩

theorem stS_each {R : Sv → Sv → Prop} (p : Nat → Bool) (l : List Sv) (hr : ∀ k x, R x (stStep p k x)) : Each R l (stS p 0 l) := .of_map _ (stS_len p 0 l) (fun k => stS_get p 0 l k) (fun k x => by simpa using hr (0 + k) x)
theorem mS_each {R : Sv → Sv → Prop} (f : Nat → Sv → Sv) (l : List Sv) (hr : ∀ k x, R x (f k x)) : Each R l (mS f 0 l) := .of_map _ (mS_len f 0 l) (fun k => mS_get f 0 l k) (fun k x => by simpa using hr (0 + k) x)
theorem setSt_each {R : Sv → Sv → Prop} (l : List Sv) (n s : Int) (hr : ∀ x, R x x) (hs : ∀ x, R x { x with state := s }) : Each R l (setSt l n s) := .of_map _ (setSt_len l n s) (fun k => setSt_get l n s k) (fun k x => by split; exact hs x; exact hr x)
theorem putSv_each {R : Sv → Sv → Prop} (l : List Sv) (n : Int) (f : Sv → Sv) (hr : ∀ x, R x x) (hs : ∀ x, R x (f x)) : Each R l (putSv l n f) := .of_map _ (putSv_len l n f) (fun k => putSv_get l n f k) (fun k x => by split; exact hs x; exact hr x)
theorem map_each {R : Sv → Sv → Prop} (f : Sv → Sv) (l : List Sv) (hr : ∀ x, R x (f x)) : Each R l (l.map f) := .of_map (fun _ => f) (by simp) (fun k => by simp) (fun _ x => hr x)

/-- A service keeps its kind, and a state from 1 to 5. -/
def WH (x y : Sv) : Prop := y.when = x.when ∧ (1 ≤ x.state ∧ x.state ≤ 5 → 1 ≤ y.state ∧ y.state ≤ 5)
theorem WH.refl (x : Sv) : WH x x := ⟨rfl, id⟩
theorem WH.trans (x y z : Sv) (h : WH x y) (g : WH y z) : WH x z := ⟨g.1.trans h.1, fun e => g.2 (h.2 e)⟩
theorem stStep_wh (p : Nat → Bool) (k : Nat) (x : Sv) : WH x (stStep p k x) := by
  unfold stStep
  split
  · exact ⟨rfl, fun _ => by simp⟩
  · exact WH.refl x
theorem bgStep_wh (a : Int) (x : Sv) : WH x (bgStep a x) := by
  unfold bgStep
  split
  · exact ⟨rfl, fun _ => by simp⟩
  · exact WH.refl x
theorem gvStep_wh (k : Nat) (x : Sv) : WH x (gvStep k x) := by
  unfold gvStep
  split
  · exact ⟨rfl, fun _ => by simp⟩
  · exact WH.refl x
theorem ofStep_wh (p : Nat → Bool) (k : Nat) (x : Sv) : WH x (ofStep p k x) := by
  unfold ofStep
  split
  · exact ⟨rfl, fun _ => by simp⟩
  · exact WH.refl x
theorem set_wh {s : Int} (hs : 1 ≤ s ∧ s ≤ 5) (x : Sv) : WH x { x with state := s } := ⟨rfl, fun _ => hs⟩

theorem begin_wh (w : WS) : Each WH w.svs (beginF w).1.svs := by
  unfold beginF
  split
  · exact .refl WH.refl _
  · exact map_each _ _ (bgStep_wh _)
theorem giveUp_wh (w : WS) (n : Int) : Each WH w.svs (giveUpF w n).1.svs := by
  unfold giveUpF stopped gave
  exact ((setSt_each _ n 5 WH.refl (set_wh (by omega))).trans WH.trans (mS_each _ _ gvStep_wh)).trans WH.trans (stS_each _ _ (stStep_wh _))
theorem off3_wh (w : WS) (n : Int) : Each WH w.svs (off3 w n).svs := by
  unfold off3 off2 stopped off1
  exact ((setSt_each _ n 3 WH.refl (set_wh (by omega))).trans WH.trans (stS_each _ _ (stStep_wh _))).trans WH.trans (mS_each _ _ (ofStep_wh _))
theorem again_wh (w : WS) (n : Int) : Each WH w.svs (againF w n).1.svs := by
  unfold againF
  split
  · exact giveUp_wh (timed w) n
  · exact (off3_wh w n).trans WH.trans (begin_wh _)
theorem follow_wh (w : WS) (n fk : Int) (x : Sv) : Each WH w.svs (followF w n fk x).1.svs := by
  unfold followF
  split
  · exact setSt_each _ n 5 WH.refl (set_wh (by omega))
  · split
    · exact (setSt_each w.svs n 3 WH.refl (set_wh (by omega))).trans WH.trans (begin_wh { w with svs := setSt w.svs n 3 })
    · split
      · exact setSt_each _ n 5 WH.refl (set_wh (by omega))
      · exact again_wh w n
theorem ended_wh (w : WS) (n fk : Int) (ft : ByteArray) (now : Int) : Each WH w.svs (endedF w n fk ft now).1.svs := by
  unfold endedF
  split
  · exact .refl WH.refl _
  · split
    · exact .refl WH.refl _
    · split
      · exact follow_wh { w with now := now } n fk _
      · exact .refl WH.refl _
theorem started_wh (w : WS) (n now : Int) : Each WH w.svs (startedF w n now).1.svs := by
  unfold startedF
  split
  · exact .refl WH.refl _
  · split
    · exact .refl WH.refl _
    · split
      · split
        · exact .refl WH.refl _
        · exact putSv_each _ n _ WH.refl fun x => ⟨rfl, fun _ => by simp⟩
      · exact .refl WH.refl _
theorem run_wh (w : WS) (o : OpV) : Each WH w.svs (runF w o).1.svs := by
  unfold runF
  split
  · exact ended_wh _ _ _ _ _
  · exact started_wh _ _ _

/-- What stays as it was given. -/
def SameSpec (w v : WS) : Prop := v.rule = w.rule ∧ v.most = w.most ∧ v.within = w.within ∧ v.base = w.base ∧ v.cap = w.cap
theorem SameSpec.refl (w : WS) : SameSpec w w := ⟨rfl, rfl, rfl, rfl, rfl⟩
theorem SameSpec.trans {a b c : WS} (h : SameSpec a b) (g : SameSpec b c) : SameSpec a c := ⟨g.1.trans h.1, g.2.1.trans h.2.1, g.2.2.1.trans h.2.2.1, g.2.2.2.1.trans h.2.2.2.1, g.2.2.2.2.trans h.2.2.2.2⟩
theorem begin_same (w : WS) : SameSpec w (beginF w).1 := by
  unfold beginF
  split
  · exact .refl _
  · exact .refl _
theorem again_same (w : WS) (n : Int) : SameSpec w (againF w n).1 := by
  unfold againF
  split
  · exact ⟨rfl, rfl, rfl, rfl, rfl⟩
  · exact SameSpec.trans (b := off3 w n) ⟨rfl, rfl, rfl, rfl, rfl⟩ (begin_same _)
theorem follow_same (w : WS) (n fk : Int) (x : Sv) : SameSpec w (followF w n fk x).1 := by
  unfold followF
  split
  · exact .refl _
  · split
    · exact SameSpec.trans (b := { w with svs := setSt w.svs n 3 }) (.refl _) (begin_same _)
    · split
      · exact .refl _
      · exact again_same w n
theorem run_same (w : WS) (o : OpV) : SameSpec w (runF w o).1 := by
  unfold runF
  split
  · unfold endedF
    split
    · exact .refl _
    · split
      · exact .refl _
      · split
        · exact SameSpec.trans (b := { w with now := o.at' }) (.refl _) (follow_same _ _ _ _)
        · exact .refl _
  · unfold startedF
    split
    · exact .refl _
    · split
      · exact .refl _
      · split
        · split
          · exact .refl _
          · exact .refl _
        · exact .refl _

/-- The warden after some calls. -/
def stepF (w : WS) (o : OpV) : WS := (runF w o).1
def foldW (w : WS) (l : List OpV) : WS := l.foldl stepF w
theorem foldW_snoc (w : WS) (l : List OpV) (o : OpV) : foldW w (l ++ [o]) = stepF (foldW w l) o := by simp [foldW, List.foldl_append]

/-- What is so at the beginning and after every call. -/
theorem foldW_inv {I : Nat → WS → Prop} {w : WS} (h0 : I 0 w) (hs : ∀ k w o, k < 10000 → WOk w → I k w → w.times.length ≤ k → I (k + 1) (stepF w o)) (hw : WOk w) (ht : w.times = []) :
    ∀ (n : Nat) (l : List OpV), l.length = n → n ≤ 10000 → WOk (foldW w l) ∧ (foldW w l).times.length ≤ n ∧ I n (foldW w l)
  | 0, l, hl, _ => by
    rw [List.length_eq_zero_iff.1 hl]
    exact ⟨hw, by simp [foldW, ht], h0⟩
  | n + 1, l, hl, hn => by
    obtain ⟨m, o, rfl⟩ : ∃ m o, l = m ++ [o] := by
      refine ⟨l.dropLast, l.getLast (fun e => by subst e; simp at hl), (List.dropLast_concat_getLast _).symm⟩
    simp at hl
    obtain ⟨h1, h2, h3⟩ := foldW_inv h0 hs hw ht n m hl (by omega)
    rw [foldW_snoc]
    obtain ⟨k1, k2, k3⟩ := run_ok h1 (by omega) o
    exact ⟨k1, by show (runF (foldW w m) o).1.times.length ≤ n + 1; omega, hs n _ o (by omega) h1 h3 h2⟩

/-- The first facts: the bounds, the services' kinds and states, what was given. -/
structure Good (w0 w : WS) (n : Nat) : Prop where
  ok : WOk w
  times : w.times.length ≤ n
  each : Each WH w0.svs w.svs
  same : SameSpec w0 w

theorem foldW_good {w : WS} (hw : WOk w) (ht : w.times = []) (l : List OpV) (hl : l.length ≤ 10000) : Good w (foldW w l) l.length := by
  obtain ⟨h1, h2, h3, h4⟩ := foldW_inv (I := fun _ v => Each WH w.svs v.svs ∧ SameSpec w v) (w := w) ⟨.refl WH.refl _, .refl _⟩ (fun k v o _ _ hi _ => ⟨hi.1.trans WH.trans (run_wh v o), hi.2.trans (run_same v o)⟩) hw ht l.length l rfl hl
  exact ⟨h1, h2, h3, h4⟩

end Go.Proofs.Ytkkhokgpcifckaa.wd

namespace Go.Proofs.Ytkkhokgpcifckaa.wd
open Go Go.Ev
set_option maxRecDepth 100000
set_option linter.constructorNameAsVariable false

/-! ### Parts one behind the other -/

def chain : List Code → Code
  | [] => .skip
  | a :: l => match l with
    | [] => a
    | _ :: _ => .seq a (chain l)
def chainT : List Code → Code → Code
  | [], d => d
  | a :: l, d => .seq a (chainT l d)
theorem ev_chain {P : Program} {C : CallF} {k n : Nat} {rd : Bool} {d : Code} {r : Ex × Env × Hp} : ∀ {l : List Code} {E E1 : Env} {h h1 : Hp}, evCode P C k n rd (chain l) E h = some (.normal, E1, h1) → evCode P C k n rd d E1 h1 = some r → evCode P C k n rd (chainT l d) E h = some r
  | [], E, E1, h, h1, e1, e2 => by
    simp only [chain, evCode, Option.some.injEq, Prod.mk.injEq] at e1
    obtain ⟨_, rfl, rfl⟩ := e1
    exact e2
  | [a], E, E1, h, h1, e1, e2 => by
    simp only [chain] at e1
    simp only [chainT, evCode, e1, e2]
  | a :: b :: l, E, E1, h, h1, e1, e2 => by
    simp only [chain] at e1
    rcases evSeq e1 with ⟨E', h', f1, f2⟩ | ⟨f1, _⟩
    · have := ev_chain (l := b :: l) (by simpa only [chain] using f2) e2
      show evCode P C k n rd (.seq a (chainT (b :: l) d)) E h = some r
      simp only [evCode, f1, this]
    · exact absurd rfl f1
theorem CRunChain {P : Program} {n : Nat} {rd : Bool} {l : List Code} {d : Code} {E E1 E2 : Env} {h h1 h2 : Hp} {x : Ex} (p : CRun P n rd (chain l) E h .normal E1 h1) (hd : CRun P n rd d E1 h1 x E2 h2) : CRun P n rd (chainT l d) E h x E2 h2 := p.map2 hd fun _ e1 e2 => ev_chain e1 e2

/-! ### What all laws begin with -/

/-- A specification's own object is neither its services' nor a list of values. -/
theorem SlAt.keepB {h h' : Hp} {b : Nat} {s : SpecV} {v0 v : Value} {l : List SvV} (hb : h[b]? = some (.cells (s.cells v0) true)) (K : Keep (fun q => q = b) h h') (a : SlAt h v l) : SlAt h' v l := by
  have hA : ∀ {v : Value} {l : List VV}, ArgsAt h v l → ArgsAt h' v l := fun {v l} a => by
    rcases a with h1 | ⟨o, rw', h1, h2⟩
    · exact .inl h1
    · refine .inr ⟨o, rw', h1, K.2 _ _ h2 fun e => ?_⟩
      subst e
      rw [hb] at h2
      simp only [Option.some.injEq, AObj.cells.injEq] at h2
      have h6 := congrArg List.length h2.1
      rw [vvC_len] at h6
      have h2l : l.length = 2 := by have : (s.cells v0).length = 6 := rfl
                                    omega
      match l, h2l with
      | [x, y], _ => simp [SpecV.cells, vvC] at h2
  rcases a with h1 | ⟨o, rw', xs, h1, h2, h3⟩
  · exact .inl h1
  · refine .inr ⟨o, rw', xs, h1, K.2 _ _ h2 fun e => ?_, h3.1, fun q x y hx hy => let ⟨z1, z2, z3⟩ := h3.2 q x y hx hy; ⟨z1, z2, hA z3⟩⟩
    subst e
    rw [hb] at h2
    simp only [Option.some.injEq, AObj.cells.injEq] at h2
    have h6 := congrArg List.length h2.1
    rw [svhC_len] at h6
    have h2l : xs.length = 2 := by have : (s.cells v0).length = 6 := rfl
                                   omega
    match xs, h2l with
    | [x, y], _ =>
      simp [SpecV.cells, svhC] at h2
      have hl := h3.1
      match l, hl with
      | [p, q], _ =>
        have := (h3.2 0 x p rfl rfl).2.2
        rcases this with ⟨e, _⟩ | ⟨_, _, e, _⟩ <;> rw [← h2.1.2.1] at e <;> cases e

/-- What the rounds of a law may turn: the warden, and what is new. -/
def fpB (i j B : Nat) (q : Nat) : Prop := q = i ∨ q = j ∨ B ≤ q
theorem keepB {i j B : Nat} {t : Option Nat} {g g' : Hp} (k : Keep (fpW i j t) g g') (ht : ∀ q, t = some q → B ≤ q) : Keep (fpB i j B) g g' := k.mono fun q _ e => by
  rcases e with e | e | e
  · exact .inl e
  · exact .inr (.inl e)
  · exact .inr (.inr (ht q e))
theorem keep0B {i j B : Nat} {g g' : Hp} (k : Keep (fun _ => False) g g') : Keep (fpB i j B) g g' := k.mono fun q _ e => e.elim

/-- The warden in the rounds of a law. -/
structure In (B i j : Nat) (w : WS) (h0 g : Hp) : Prop where
  at' : ∃ t, WAt g i j t w ∧ ∀ q, t = some q → B ≤ q
  keep : Keep (fpB i j B) h0 g
  base : B ≤ g.length

theorem In.next {B i j : Nat} {w w' : WS} {h0 g g' : Hp} {t t' : Option Nat} (I : In B i j w h0 g) (ht : ∀ q, t = some q → B ≤ q) (a' : WAt g' i j t' w') (K : Keep (fpW i j t) g g') (ht' : ∀ q, t' = some q → t = some q ∨ g.length ≤ q) : In B i j w' h0 g' :=
  ⟨⟨t', a', fun q e => by rcases ht' q e with e | e; exact ht q e; have := I.base; omega⟩, I.keep.trans (keepB K ht), Nat.le_trans I.base K.1⟩
theorem In.grow {B i j : Nat} {w : WS} {h0 g g' : Hp} (I : In B i j w h0 g) (K : Keep (fun _ => False) g g') : In B i j w h0 g' := by
  obtain ⟨t, a, ht⟩ := I.at'
  exact ⟨⟨t, a.keep K fun q _ e => e.elim, ht⟩, I.keep.trans (keep0B K), Nat.le_trans I.base K.1⟩
theorem In.tmp {B i j : Nat} {w : WS} {h0 g : Hp} (I : In B i j w h0 g) (x y : AObj) : In B i j w h0 ((g ++ [x]).set g.length y) :=
  I.grow ((Keep.push (fun _ => False) g _).trans_new (Keep.set (fp := fun q => q = g.length) rfl _) (fun q hq e => by omega))

/-! ### When -/

end Go.Proofs.Ytkkhokgpcifckaa.wd

namespace Go.Proofs.Ytkkhokgpcifckaa.wd
open Go Go.Ev
set_option maxRecDepth 100000
set_option linter.constructorNameAsVariable false
set_option linter.unusedVariables false

theorem eqT {a b : Int} (e : a = b) : (Asm.cmp .eql a b true).holds Try.prog := by simpa [Asm.holds, cmpB] using e
theorem neT {a b : Int} (e : ¬ a = b) : (Asm.cmp .neq a b true).holds Try.prog := by simpa [Asm.holds, cmpB] using e
theorem neF {a b : Int} (e : a = b) : (Asm.cmp .neq a b false).holds Try.prog := by simpa [Asm.holds, cmpB] using e

end Go.Proofs.Ytkkhokgpcifckaa.wd

namespace Go.Proofs.Ytkkhokgpcifckaa.wd
open Go Go.Ev
set_option maxRecDepth 100000
set_option linter.constructorNameAsVariable false
set_option linter.unusedVariables false

/-! ### Ends: plain facts -/

/-- A time that is not before any that can have been. -/
def lastF : List OpV → Int → Int
  | [], now => now
  | o :: l, now => lastF l (if o.at' ≤ 1000000000000 then (if o.at' > now then o.at' else now) else now)
end Go.Proofs.Ytkkhokgpcifckaa.wd

namespace Go.Proofs.Ytkkhokgpcifckaa.wd
open Go Go.Ev
set_option maxRecDepth 100000
set_option linter.constructorNameAsVariable false
set_option linter.unusedVariables false

/-! ### Ends: the walk -/

/-- A reply has few orders. -/
theorem follow_len {w : WS} (n8 : w.svs.length ≤ 8) (n fk : Int) (x : Sv) : (followF w n fk x).2.length ≤ 100 := by
  unfold followF
  split
  · simp
  · split
    · have := beginF_len { w with svs := setSt w.svs n 3 }
      simp only [setSt_len] at this
      omega
    · split
      · simp
      · unfold againF
        split
        · simp only [giveUpF, List.length_cons]
          have := stO_len (fun _ => true) 0 (gave (timed w) n).svs
          simp only [gave, mS_len, setSt_len, timed] at this ⊢
          omega
        · have h1 := beginF_len (off3 w n)
          have h2 := stO_len (nameP w n) 0 (off1 w n).svs
          rw [off3_len] at h1
          rw [off1_len] at h2
          simp only [List.length_append]
          omega
theorem run_len {w : WS} (hw : WOk w) (ht : w.times.length < 10000) (o : OpV) : (runF w o).2.length ≤ 1000 := by
  unfold runF
  split
  · unfold endedF
    split
    · simp
    · split
      · simp
      · split
        · rename_i x _ _
          have := follow_len (w := { w with now := o.at' }) hw.n8 o.n o.fk x
          simp only [doneF]
          split
          · simp only [List.length_append, List.length_cons, List.length_nil]; omega
          · omega
        · simp
  · simp

end Go.Proofs.Ytkkhokgpcifckaa.wd

namespace Go.Proofs.Ytkkhokgpcifckaa.wd
open Go Go.Ev
set_option maxRecDepth 100000
set_option linter.constructorNameAsVariable false
set_option linter.unusedVariables false

/-- The calls, where the rounds of a law do not turn them. -/
def OpsIn (i j B : Nat) (h : Hp) (v : Value) (l : List OpV) : Prop := (v = .slice none 0 0 ∧ l = []) ∨ ∃ o rw, v = .slice (some ⟨o, 0, none⟩) l.length 5 ∧ h[o]? = some (.cells (opC l) rw) ∧ ¬ fpB i j B o
theorem OpsIn.at {i j B : Nat} {h g : Hp} {v : Value} {l : List OpV} (a : OpsIn i j B h v l) (K : Keep (fpB i j B) h g) : OpsAt g v l := by
  rcases a with h1 | ⟨o, rw, h1, h2, h3⟩
  · exact .inl h1
  · exact .inr ⟨o, rw, h1, K.2 _ _ h2 h3⟩

/-- The warden that has given up, while its services end. -/
structure UpI (m : List OpV) (w : WS) (now n : Int) : Prop where
  ok : WOk w
  times : w.times.length < 10000
  given : w.given = true
  st : ∀ x ∈ w.svs, x.state = 1 ∨ x.state = 2 ∨ x.state = 5
  low : w.now ≤ lastF m now
  top : now ≤ 1000000000000
  done : ∀ (k : Nat) x, (k : Int) < n - 1 → w.svs[k]? = some x → x.state = 5

theorem UpI.next {m : List OpV} {w : WS} {now n : Int} (I : UpI m w now n) (h : ∀ x, 1 ≤ n → w.svs[(n - 1).toNat]? = some x → x.state = 5) (h1 : 1 ≤ n) : UpI m w now (n + 1) :=
  ⟨I.ok, I.times, I.given, I.st, I.low, I.top, fun k x hk hx => by
    by_cases e : (k : Int) < n - 1
    · exact I.done k x e hx
    · have : k = (n - 1).toNat := by omega
      subst this
      exact h x h1 hx⟩

end Go.Proofs.Ytkkhokgpcifckaa.wd

namespace Go.Proofs.Ytkkhokgpcifckaa.wd
open Go Go.Ev
set_option maxRecDepth 100000
set_option linter.constructorNameAsVariable false
set_option linter.unusedVariables false

section
variable {h : Hp} {i j : Nat} {t : Option Nat} {w : WS}
/-- 'Copy': a warden of its own, with the same state. -/
theorem copy_run2 (a : WAt h i j t w) (hw : WOk w) : ∃ c j2 t2 h', Run Try.prog 21 [.pointer (some ⟨i, 0, none⟩)] h (.pointer (some ⟨c, 0, none⟩)) h' ∧ WAt h' c j2 t2 w ∧ Keep (fun _ => False) h h' ∧ (∀ q, fpW c j2 t2 q → h.length ≤ q) := by
  have n8 := hw.n8
  have n1 := hw.n1
  have hne : w.svs ≠ [] := fun e => by rw [e] at n1; simp at n1
  have htm := hw.times
  let z : AObj := .cells [.int .i64 0, .int .i64 0, .int .i64 0, .int .i64 0, .int .i64 0, .slice none 0 0, .slice none 0 0, .int .i64 0, .slice none 0 0, .int .i64 0, .bool false] true
  let hA : Hp := (h ++ [z]).set h.length (.cells (wCells w j t) true)
  have KA : Keep (fun _ => False) h hA := (Keep.push (fun _ => False) h z).trans_new (Keep.set (fp := fun q => q = h.length) rfl _) (fun q hq e => by omega)
  have hlA : hA.length = h.length + 1 := by simp [hA]
  have aA := a.keep KA (fun q _ e => e.elim)
  have hcA : hA[h.length]? = some (.cells (wCells w j t) true) := get_set_eq (get_new h _)
  obtain ⟨j2, h1, r1, g1, l1, K1⟩ := clone35_run aA.svs hne (by omega)
  have a1 := aA.keep K1 (fun q _ e => e.elim)
  have hc1 := K1.2 _ _ hcA (fun e => e)
  have hj2 : j2 < h1.length := get_lt g1
  have fin : ∀ (t2 : Option Nat) (h2 : Hp), Keep (fun _ => False) h1 h2 → (∀ q, t2 = some q → h1.length ≤ q) → ((t2 = none ∧ w.times = []) ∨ ∃ q, t2 = some q ∧ h2[q]? = some (.cells (w.times.map (.int .i64)) true)) →
      WAt ((h2.set h.length (.cells (wCells w j2 t) true)).set h.length (.cells (wCells w j2 t2) true)) h.length j2 t2 w ∧ Keep (fun _ => False) h ((h2.set h.length (.cells (wCells w j2 t) true)).set h.length (.cells (wCells w j2 t2) true)) ∧ (∀ q, fpW h.length j2 t2 q → h.length ≤ q) := by
    intro t2 h2 K2 hb ht
    have hc2 := K2.2 _ _ hc1 (fun e => e)
    have hj2' := K2.2 _ _ g1 (fun e => e)
    refine ⟨⟨get_set_eq (get_set_eq hc2), get_set_ne (get_set_ne hj2' (by omega)) (by omega), ?_, by omega⟩, ?_, ?_⟩
    · rcases ht with q1 | ⟨q, q1, q2⟩
      · exact .inl q1
      · have := hb q q1
        exact .inr ⟨q, q1, get_set_ne (get_set_ne q2 (by omega)) (by omega), by omega, by omega⟩
    · exact ((KA.trans K1).trans K2).trans_new ((Keep.set (fp := fun q => q = h.length) rfl _).trans (Keep.set (fp := fun q => q = h.length) rfl _)) (fun q hq e => by omega)
    · rintro q (e | e | e)
      · omega
      · omega
      · have := hb q e; have := K1.1; omega
  have hl0 := a_ldn (P := Try.prog) (s := .is h) (d := 0) (k := 11) (l := wCells w j t) a.obj (by simp [wCells]) (by simp [wCells])
  have st0 := a_st (P := Try.prog) (s := .push (.is h) z) (i := h.length) (d := 0) (l := wCells w j t) (c' := wCells w j t) (get_new h z) (by simp [wCells]) (by simp [wCells])
  rcases a.tms with ⟨rfl, hnil⟩ | ⟨q, rfl, hq, hqi, hqj⟩
  · have h8 : (wCells w j none)[8]? = some (.slice none 0 0) := rfl
    have hc2 := hc1
    obtain ⟨w1, w2, w3⟩ := fin none h1 (Keep.refl _ _) (fun q e => by cases e) (.inl ⟨rfl, hnil⟩)
    refine ⟨h.length, j2, none, _, pvF 0 Try.func21 (w13p.cp_nil i j w.svs.length h.length j2 w.rule w.most w.within w.base w.cap w.now w.delay w.given (wCells w j2 none) (wCells w j2 none) h h1 h1)
      ⟨hl0, rfl, st0, stat21, a_again1 agg32 a1.obj h8 rfl, a_again1 agg32 aA.obj h8 rfl, a_again1 agg32 a1.obj h8 rfl, a_ld1 aA.obj rfl, r1, a_ld1 a1.obj h8, clone36_nil, a_st hc1 (by simp [wCells]) rfl, a_st (get_set_eq hc1) (by simp [wCells]) rfl, trivial⟩, w1, w2, w3⟩
  · have h8 : (wCells w j (some q))[8]? = some (.slice (some ⟨q, 0, none⟩) w.times.length 1) := rfl
    by_cases ht : w.times = []
    · have hq1 := K1.2 _ _ (KA.2 _ _ hq (fun e => e)) (fun e => e)
      have hm0 : w.times.length = 0 := by rw [ht]; rfl
      have r2 : Run Try.prog 36 [.slice (some ⟨q, 0, none⟩) w.times.length 1] h1 (.slice (some ⟨h1.length, 0, none⟩) w.times.length 1) (h1 ++ [AObj.cells [] true]) := by
        rw [hm0]
        exact pvF 0 Try.func36 (w29p.cl36_none q 0 h1.length h1) ⟨rfl, ⟨rfl, _, cells_of (get_push hq1), by omega⟩, trivial⟩
      have K2 : Keep (fun _ => False) h1 (h1 ++ [AObj.cells [] true]) := Keep.push _ _ _
      have hc2 := K2.2 _ _ hc1 (fun e => e)
      obtain ⟨w1, w2, w3⟩ := fin (some h1.length) (h1 ++ [AObj.cells [] true]) K2 (fun q e => by cases e; exact Nat.le_refl _) (.inr ⟨h1.length, rfl, by rw [ht]; exact get_new h1 _⟩)
      refine ⟨h.length, j2, some h1.length, _, pvF 0 Try.func21 (w13p.cp_some i j w.svs.length h.length j2 q w.times.length h1.length w.rule w.most w.within w.base w.cap w.now w.delay w.given (wCells w j2 (some q)) (wCells w j2 (some h1.length)) h h1 (h1 ++ [AObj.cells [] true]))
        ⟨hl0, rfl, st0, stat21, a_again1 agg32 a1.obj h8 rfl, a_again1 agg32 aA.obj h8 rfl, a_again1 agg32 a1.obj h8 rfl, a_ld1 aA.obj rfl, r1, a_ld1 a1.obj h8, r2, a_st hc2 (by simp [wCells]) rfl, a_st (get_set_eq hc2) (by simp [wCells]) rfl, trivial⟩, w1, w2, w3⟩
    · have hq1 := K1.2 _ _ (KA.2 _ _ hq (fun e => e)) (fun e => e)
      obtain ⟨t2, h2, r2, g2, l2, K2⟩ := clone36_run hq1 ht (by omega)
      have hc2 := K2.2 _ _ hc1 (fun e => e)
      obtain ⟨w1, w2, w3⟩ := fin (some t2) h2 K2 (fun q e => by cases e; exact l2) (.inr ⟨t2, rfl, g2⟩)
      refine ⟨h.length, j2, some t2, _, pvF 0 Try.func21 (w13p.cp_some i j w.svs.length h.length j2 q w.times.length t2 w.rule w.most w.within w.base w.cap w.now w.delay w.given (wCells w j2 (some q)) (wCells w j2 (some t2)) h h1 h2)
        ⟨hl0, rfl, st0, stat21, a_again1 agg32 a1.obj h8 rfl, a_again1 agg32 aA.obj h8 rfl, a_again1 agg32 a1.obj h8 rfl, a_ld1 aA.obj rfl, r1, a_ld1 a1.obj h8, r2, a_st hc2 (by simp [wCells]) rfl, a_st (get_set_eq hc2) (by simp [wCells]) rfl, trivial⟩, w1, w2, w3⟩


end

/-! ### alike, Equal -/

theorem alike_run {h : Hp} {i j i2 j2 : Nat} {t t2 : Option Nat} {w : WS} (a : WAt h i j t w) (a2 : WAt h i2 j2 t2 w) (hw : WOk w) : Run Try.prog 22 [.pointer (some ⟨i, 0, none⟩), .pointer (some ⟨i2, 0, none⟩)] h (.bool true) h := by
  obtain ⟨x', E1, h1, hl1, rfl, q1, rfl⟩ := loop_inv (P := Try.prog) (n := 39) (rd := false) (b := loopN Try.f22 0)
    (Q := fun x' E1 h1 => x' = .exit 0 ∧ EnvLe [(1, .pointer (some ⟨i2, 0, none⟩)), (0, .pointer (some ⟨i, 0, none⟩))] E1 ∧ h = h1)
    (fun mm E g => ∃ n : Int, 1 ≤ n ∧ n ≤ 9 ∧ mm = (9 - n).toNat ∧ EnvLe [(5, .int .i64 n), (1, .pointer (some ⟨i2, 0, none⟩)), (0, .pointer (some ⟨i, 0, none⟩))] E ∧ h = g)
    (fun mm E g ⟨n, n1, n9, hmm, k3, k4⟩ => by
      subst k4
      by_cases e : n = 9
      · right
        subst e
        obtain ⟨E2, q1, q2⟩ := pvC 0 k3 (w29p.al_out i i2 9 0 0 0 0 0 h) ⟨by simp [Asm.holds, cmpB], trivial⟩
        exact ⟨_, E2, _, by simp, q2, rfl, .trans (.add (.add (.nil _) rfl) rfl) q1, rfl⟩
      · left
        have ak1 : IntKind.i64.wrap (n + 1) = n + 1 := wrap_id (by omega) (by omega)
        obtain ⟨E2, q1, q2⟩ := pvC 0 k3 (w29p.al_same i i2 n (n + 1) (stateOf w n).1 (stateOf w n).2 (stateOf w n).1 (stateOf w n).2 h) ⟨by simp [Asm.holds, cmpB]; omega, state_run a hw n, state_run a2 hw n, neF rfl, neF rfl, by simp only [Asm.holds, arithI, ak1], trivial⟩
        exact ⟨(9 - (n + 1)).toNat, E2, _, by omega, q2, n + 1, by omega, by omega, rfl, .trans (.add (.add (.add (.nil _) rfl) rfl) rfl) q1, rfl⟩)
    8 [(5, .int .i64 1), (1, .pointer (some ⟨i2, 0, none⟩)), (0, .pointer (some ⟨i, 0, none⟩))] h ⟨1, by omega, by omega, by decide, EnvLe.refl _, rfl⟩
  have pl : plainC (loopN Try.f22 0) = true := by kernel_rfl
  exact pvF 0 Try.func22 (w29p.al_go i i2 w.times.length w.times.length true [] h h) ⟨a_loop pl (.add (.add (.add (.nil _) rfl) rfl) rfl) q1 hl1, restarts_run a, restarts_run a2, eqT rfl, trivial⟩

theorem leaves47 : leaves Try.prog 8 47 = some (3, [(0, .int .i64), (1, .int .i64), (2, .int .i64)]) := by kernel_rfl
theorem guard47 : Try.prog.eqGuardType Try.prog.depth 47 = false := by kernel_rfl
theorem stat23 : statOk (drawN Try.f23 0) = true := by kernel_rfl
theorem aeq47 (a b c : Int) : (Asm.aeq .neq 47 #[.int .i64 a, .int .i64 b, .int .i64 c] #[.int .i64 a, .int .i64 b, .int .i64 c] false).holds Try.prog := by
  refine ⟨rfl, rfl, .inr ⟨rfl, ?_⟩⟩
  simp [aggEq, leaves47, guard47, eqOffs, leafEq]

/-- A row of orders of the law's own. -/
def OneAt (g : Hp) (F : Nat → Prop) (v : Value) (L : List Sv) : Prop := (v = .slice none 0 0 ∧ L = []) ∨ ∃ u, v = .slice (some ⟨u, 0, none⟩) L.length 3 ∧ g[u]? = some (.cells (svC L) true) ∧ ¬ F u ∧ L ≠ []

theorem equal_run {h : Hp} {F F2 : Nat → Prop} {v v2 : Value} {L : List Sv} (a : OneAt h F v L) (a2 : OneAt h F2 v2 L) (hl : L.length ≤ 1000000) : Run Try.prog 23 [v, v2] h (.bool true) h := by
  have hlc := svC_len L
  rcases a with ⟨rfl, hn⟩ | ⟨o, rfl, ho, _, hn⟩
  · rcases a2 with ⟨rfl, _⟩ | ⟨_, _, _, _, hn2⟩
    · exact pvF 0 Try.func23 (w29p.eq_nil h) ⟨neF rfl, by simp [Asm.holds, cmpB], trivial⟩
    · exact absurd hn hn2
  · rcases a2 with ⟨rfl, hn2⟩ | ⟨o2, rfl, ho2, _, _⟩
    · exact absurd hn2 hn
    · obtain ⟨x', E1, h1, hl1, rfl, rfl⟩ := loop_inv (P := Try.prog) (n := 26) (rd := false) (b := loopN Try.f23 0)
        (Q := fun x' E1 h1 => x' = .exit 0 ∧ h = h1)
        (fun mm E g => ∃ k : Nat, k ≤ L.length ∧ mm = L.length - k ∧ EnvLe [(13, .int .i64 (k : Nat)), (12, .int .i64 (Int.ofNat L.length)), (1, .slice (some ⟨o2, 0, none⟩) L.length 3), (0, .slice (some ⟨o, 0, none⟩) L.length 3)] E ∧ h = g)
        (fun mm E g ⟨k, k1, k2, k3, k4⟩ => by
          subst k4
          by_cases e : k = L.length
          · right
            subst e
            obtain ⟨E2, q1, q2⟩ := pvC 0 k3 (w29p.eql_out o o2 L.length 0 (L.length : Nat) 0 0 0 0 0 0 0 true h) ⟨by simp [Asm.holds, cmpB], trivial⟩
            exact ⟨_, E2, _, by simp, q2, rfl, rfl⟩
          · left
            obtain ⟨x, hx⟩ : ∃ x, L[k]? = some x := ⟨_, List.getElem?_eq_getElem (by omega)⟩
            have ak1 : IntKind.i64.wrap ((k : Int) + 1) = ((k + 1 : Nat) : Int) := add1 (by omega)
            obtain ⟨E2, q1, q2⟩ := pvC 0 k3 (w29p.eql_go o o2 L.length (k * 3) (k : Nat) ((k + 1 : Nat) : Int) x.when x.state x.at' 0 0 0 true h)
              ⟨by simp [Asm.holds, cmpB]; omega, stat23, ⟨by omega, by omega, by simp⟩, a_ldn ho (by omega) (svC_cut hx), ⟨by omega, by omega, by simp⟩, a_ldn ho2 (by omega) (svC_cut hx), aeq47 _ _ _, by simp only [Asm.holds, arithI, ak1], trivial⟩
            exact ⟨L.length - (k + 1), E2, _, by omega, q2, k + 1, by omega, rfl, .trans (.add (.add (.add (.add (.nil _) rfl) rfl) rfl) rfl) q1, rfl⟩)
        L.length [(13, .int .i64 ((0 : Nat) : Int)), (12, .int .i64 (Int.ofNat L.length)), (1, .slice (some ⟨o2, 0, none⟩) L.length 3), (0, .slice (some ⟨o, 0, none⟩) L.length 3)] h ⟨0, by omega, rfl, EnvLe.refl _, rfl⟩
      have pl : plainC (loopN Try.f23 0) = true := by kernel_rfl
      exact pvF 0 Try.func23 (w29p.eq_some o o2 L.length h) ⟨neF rfl, a_loop pl (.add (.add (.add (.add (.nil _) rfl) rfl) rfl) rfl) (.nil _) hl1, trivial⟩

/-- All orders of some calls. -/
def outF (w : WS) : List OpV → List Sv
  | [] => []
  | o :: l => (runF w o).2 ++ outF (stepF w o) l
theorem outF_snoc : ∀ (l : List OpV) (w : WS) (o : OpV), outF w (l ++ [o]) = outF w l ++ (runF (foldW w l) o).2
  | [], w, o => by simp [outF, foldW]
  | x :: l, w, o => by
    have := outF_snoc l (stepF w x) o
    simp only [List.cons_append, outF, this, List.append_assoc]
    rfl
theorem foldW_append (w : WS) (a b : List OpV) : foldW w (a ++ b) = foldW (foldW w a) b := by simp [foldW, List.foldl_append]

theorem a_app3' {P : Program} {s : SH} {o1 o2 d : Nat} {l1 l2 : List Sv} {rw : Bool} (h1 : s.den[o1]? = some (.cells (svC l1) true)) (h2 : s.den[o2]? = some (.cells (svC l2) rw)) (hn : l2 ≠ []) (hb : l1.length + l2.length ≤ 1000000) (hd : s.den.length = d) :
    (Asm.app s o1 0 l1.length o2 0 l2.length (l2.length - 1) 3 24 (svC (l1 ++ l2)) (svC l2) d).holds P := by
  have e1 := svC_len l1
  have e2 := svC_len l2
  have : l2.length ≠ 0 := fun e => hn (List.length_eq_zero_iff.1 e)
  refine ⟨by omega, ⟨_, cells_of h2, by omega, ?_⟩, svC_ones l2, by omega, by omega, ⟨_, own_of h1, by omega, ?_⟩, hd⟩
  · rw [List.drop_zero, List.take_of_length_le (by omega)]
  · rw [List.drop_zero, List.take_of_length_le (by omega), svC_app]
theorem OneAt.keep {g g' : Hp} {F fp : Nat → Prop} {v : Value} {L : List Sv} (a : OneAt g F v L) (K : Keep fp g g') (hf : ∀ q, fp q → F q) : OneAt g' F v L := by
  rcases a with h1 | ⟨u, h1, h2, h3, h4⟩
  · exact .inl h1
  · exact .inr ⟨u, h1, K.2 _ _ h2 fun e => h3 (hf u e), h3, h4⟩
theorem OneAt.mono {g : Hp} {F F' : Nat → Prop} {v : Value} {L : List Sv} (a : OneAt g F v L) (hf : ∀ q, q < g.length → F' q → F q) : OneAt g F' v L := by
  rcases a with h1 | ⟨u, h1, h2, h3, h4⟩
  · exact .inl h1
  · exact .inr ⟨u, h1, h2, fun e => h3 (hf u (get_lt h2) e), h4⟩

/-- One more reply behind the orders (of which the warden with the place p is turned; F: what else may not be touched). -/
theorem WAt.away {g g' : Hp} {i j : Nat} {t : Option Nat} {w : WS} {fp : Nat → Prop} (a : WAt g i j t w) (K : Keep fp g g') (hd : ∀ q, fpW i j t q → ¬ fp q) : WAt g' i j t w := a.keep K fun q _ e r => hd q r e

/-- Three wardens apart from each other. -/
structure Tri (g : Hp) (B : Nat) (i j : Nat) (t : Option Nat) (w : WS) (c1 j1 : Nat) (t1 : Option Nat) (v : WS) (c2 j2 : Nat) (t2 : Option Nat) (u : WS) : Prop where
  a : WAt g i j t w
  b : WAt g c1 j1 t1 v
  c : WAt g c2 j2 t2 u
  ab : ∀ q, fpW i j t q → ¬ fpW c1 j1 t1 q
  ac : ∀ q, fpW i j t q → ¬ fpW c2 j2 t2 q
  bc : ∀ q, fpW c1 j1 t1 q → ¬ fpW c2 j2 t2 q

theorem fpW_next {g : Hp} {i j : Nat} {t t' : Option Nat} {q : Nat} (h : ∀ p, t' = some p → t = some p ∨ g.length ≤ p) (hq : q < g.length) (e : fpW i j t' q) : fpW i j t q := by
  rcases e with e | e | e
  · exact .inl e
  · exact .inr (.inl e)
  · rcases h q e with e | e
    · exact .inr (.inr e)
    · omega

def fpT (i j : Nat) (t : Option Nat) (c1 j1 : Nat) (t1 : Option Nat) (c2 j2 : Nat) (t2 : Option Nat) (q : Nat) : Prop := fpW i j t q ∨ fpW c1 j1 t1 q ∨ fpW c2 j2 t2 q

theorem Tri.keep {g g' : Hp} {B i j c1 j1 c2 j2 : Nat} {t t1 t2 : Option Nat} {w v u : WS} (T : Tri g B i j t w c1 j1 t1 v c2 j2 t2 u) {fp : Nat → Prop} (K : Keep fp g g') (hf : ∀ q, fp q → ¬ fpT i j t c1 j1 t1 c2 j2 t2 q) : Tri g' B i j t w c1 j1 t1 v c2 j2 t2 u :=
  ⟨T.a.away K fun q e r => hf q r (.inl e), T.b.away K fun q e r => hf q r (.inr (.inl e)), T.c.away K fun q e r => hf q r (.inr (.inr e)), T.ab, T.ac, T.bc⟩
theorem Tri.lt {g : Hp} {B i j c1 j1 c2 j2 : Nat} {t t1 t2 : Option Nat} {w v u : WS} (T : Tri g B i j t w c1 j1 t1 v c2 j2 t2 u) {q : Nat} (e : fpT i j t c1 j1 t1 c2 j2 t2 q) : q < g.length := by
  rcases e with e | e | e
  · exact T.a.lts q e
  · exact T.b.lts q e
  · exact T.c.lts q e
theorem Tri.goB {g g' : Hp} {B i j c1 j1 c2 j2 : Nat} {t t1 t1' t2 : Option Nat} {w v v' u : WS} (T : Tri g B i j t w c1 j1 t1 v c2 j2 t2 u) (b' : WAt g' c1 j1 t1' v') (K : Keep (fpW c1 j1 t1) g g') (h : ∀ p, t1' = some p → t1 = some p ∨ g.length ≤ p) : Tri g' B i j t w c1 j1 t1' v' c2 j2 t2 u :=
  ⟨T.a.away K T.ab, b', T.c.away K fun q e r => T.bc q r e, fun q e r => T.ab q e (fpW_next h (T.a.lts q e) r), T.ac, fun q r e => T.bc q (fpW_next h (T.c.lts q e) r) e⟩
theorem Tri.goA {g g' : Hp} {B i j c1 j1 c2 j2 : Nat} {t t' t1 t2 : Option Nat} {w w' v u : WS} (T : Tri g B i j t w c1 j1 t1 v c2 j2 t2 u) (a' : WAt g' i j t' w') (K : Keep (fpW i j t) g g') (h : ∀ p, t' = some p → t = some p ∨ g.length ≤ p) : Tri g' B i j t' w' c1 j1 t1 v c2 j2 t2 u :=
  ⟨a', T.b.away K fun q e r => T.ab q r e, T.c.away K fun q e r => T.ac q r e, fun q r e => T.ab q (fpW_next h (T.b.lts q e) r) e, fun q r e => T.ac q (fpW_next h (T.c.lts q e) r) e, T.bc⟩

end Go.Proofs.Ytkkhokgpcifckaa.wd

namespace Go.Proofs.Ytkkhokgpcifckaa.wd
open Go Go.Ev
set_option maxRecDepth 100000
set_option linter.constructorNameAsVariable false
set_option linter.unusedVariables false

def isO (v : Value) (q : Nat) : Prop := ∃ n, v = .slice (some ⟨q, 0, none⟩) n 3
theorem OneAt.step {g g' : Hp} {F F' fp : Nat → Prop} {v : Value} {L : List Sv} (a : OneAt g F v L) (K : Keep fp g g') (h1 : ∀ q, fp q → F q) (h2 : ∀ q, q < g.length → F' q → F q) : OneAt g' F' v L := by
  rcases a with q1 | ⟨u, q1, q2, q3, q4⟩
  · exact .inl q1
  · exact .inr ⟨u, q1, K.2 _ _ q2 fun e => q3 (h1 u e), fun e => q3 (h2 u (get_lt q2) e), q4⟩
theorem OneAt.keepO {g g' : Hp} {F fp : Nat → Prop} {v : Value} {L : List Sv} (a : OneAt g F v L) (K : Keep fp g g') (h1 : ∀ q n, v = .slice (some ⟨q, 0, none⟩) n 3 → ¬ fp q) : OneAt g' F v L := by
  rcases a with q1 | ⟨u, q1, q2, q3, q4⟩
  · exact .inl q1
  · exact .inr ⟨u, q1, K.2 _ _ q2 (h1 u _ q1), q3, q4⟩

theorem co_loopA {B i j c1 j1 c2 j2 p : Nat} {t t2 : Option Nat} {w u : WS} {v : WS} {tb : Option Nat} {hD g0 : Hp} {vl vs ex : Value} {L1 : List Sv} {w0 : WS} {pre0 m l : List OpV} {pp : Nat} (hm : m.length ≤ 100) (hpre : pre0.length ≤ 100)
    (hml : ∀ (k : Nat) x, m[k]? = some x → l[pp + k]? = some x) (hvs : m = [] ∨ ∃ o rw, vs = .slice (some ⟨o, pp * 5, none⟩) m.length 5 ∧ hD[o]? = some (.cells (opC l) rw) ∧ ¬ fpB i j B o)
    (lc : B ≤ c1) (lj : B ≤ j1) (T : Tri g0 B i j t w c1 j1 tb v c2 j2 t2 u) (ht : ∀ q, tb = some q → B ≤ q) (K : Keep (fpB i j B) hD g0) (hB : B ≤ g0.length) (hw : WOk w0) (ht0 : w0.times = []) (hst : v = foldW w0 pre0)
    (O1 : OneAt g0 (fun q => fpT i j t c1 j1 tb c2 j2 t2 q ∨ q < B) (.slice none 0 0) L1) (hex : ∀ q, isO (.slice none 0 0) q → q < g0.length) :
    ∃ E1 g1 acc t', EnvLe [(13, (.slice none 0 0)), (12, acc), (11, .pointer (some ⟨c2, 0, none⟩)), (10, .pointer (some ⟨c1, 0, none⟩)), (7, .int .i64 (Int.ofNat p)), (5, .pointer (some ⟨i, 0, none⟩)), (1, vl)] E1 ∧
      LRun Try.prog 105 false (loopN Try.f7 1) [(63, .int .i64 0), (62, .int .i64 (Int.ofNat m.length)), (61, vs), (13, (.slice none 0 0)), (12, .slice none 0 0), (11, .pointer (some ⟨c2, 0, none⟩)), (10, .pointer (some ⟨c1, 0, none⟩)), (7, .int .i64 (Int.ofNat p)), (5, .pointer (some ⟨i, 0, none⟩)), (1, vl)] g0 (.exit 2) E1 g1 ∧ Tri g1 B i j t w c1 j1 t' (foldW v m) c2 j2 t2 u ∧ (∀ q, t' = some q → B ≤ q) ∧ Keep (fpB i j B) hD g1 ∧ B ≤ g1.length ∧
      OneAt g1 (fun q => fpT i j t c1 j1 t' c2 j2 t2 q ∨ q < B ∨ isO (.slice none 0 0) q) acc (outF v m) ∧ OneAt g1 (fun q => fpT i j t c1 j1 t' c2 j2 t2 q ∨ q < B) (.slice none 0 0) L1 ∧ (outF v m).length ≤ m.length * 1000 := by
  obtain ⟨x', E1, g1, hl1, rfl, acc, t', q1, q2, q3, q4, q5, q6, q7⟩ := loop_inv (P := Try.prog) (n := 105) (rd := false) (b := loopN Try.f7 1)
    (Q := fun x' E1 g1 => x' = .exit 2 ∧ ∃ (acc : Value) (t' : Option Nat), EnvLe [(13, (.slice none 0 0)), (12, acc), (11, .pointer (some ⟨c2, 0, none⟩)), (10, .pointer (some ⟨c1, 0, none⟩)), (7, .int .i64 (Int.ofNat p)), (5, .pointer (some ⟨i, 0, none⟩)), (1, vl)] E1 ∧ Tri g1 B i j t w c1 j1 t' (foldW v m) c2 j2 t2 u ∧ (∀ q, t' = some q → B ≤ q) ∧ Keep (fpB i j B) hD g1 ∧ B ≤ g1.length ∧
      OneAt g1 (fun q => fpT i j t c1 j1 t' c2 j2 t2 q ∨ q < B ∨ isO (.slice none 0 0) q) acc (outF v m) ∧ OneAt g1 (fun q => fpT i j t c1 j1 t' c2 j2 t2 q ∨ q < B) (.slice none 0 0) L1 ∧ (outF v m).length ≤ m.length * 1000)
    (fun mm E g => ∃ (k : Nat) (acc : Value) (t' : Option Nat), k ≤ m.length ∧ mm = m.length - k ∧ EnvLe [(63, .int .i64 (k : Nat)), (62, .int .i64 (Int.ofNat m.length)), (61, vs), (13, (.slice none 0 0)), (12, acc), (11, .pointer (some ⟨c2, 0, none⟩)), (10, .pointer (some ⟨c1, 0, none⟩)), (7, .int .i64 (Int.ofNat p)), (5, .pointer (some ⟨i, 0, none⟩)), (1, vl)] E ∧ Tri g B i j t w c1 j1 t' (foldW v (m.take k)) c2 j2 t2 u ∧ (∀ q, t' = some q → B ≤ q) ∧ Keep (fpB i j B) hD g ∧ B ≤ g.length ∧
      OneAt g (fun q => fpT i j t c1 j1 t' c2 j2 t2 q ∨ q < B ∨ isO (.slice none 0 0) q) acc (outF v (m.take k)) ∧ OneAt g (fun q => fpT i j t c1 j1 t' c2 j2 t2 q ∨ q < B) (.slice none 0 0) L1 ∧ (∀ q, isO (.slice none 0 0) q → q < g.length) ∧ (outF v (m.take k)).length ≤ k * 1000)
    (fun mm E g ⟨k, acc, t', k1, k2, k3, T', ht', K', hB', hacc, hL1, hex', hlen⟩ => by
      by_cases e : k = m.length
      · right
        subst e
        obtain ⟨E2, q1, q2⟩ := pvC 0 k3 (w29p.ca_out i p c1 c2 0 0 m.length 0 0 (m.length : Nat) 0 0 0 0 0 ⟨#[]⟩ vl g g acc vs) ⟨by simp [Asm.holds, cmpB], trivial⟩
        rw [List.take_length] at T' hacc hlen
        exact ⟨_, E2, _, by simp, q2, rfl, acc, t', .trans (.add (.add (.add (.add (.add (.add (.add (.nil _) rfl) rfl) rfl) rfl) rfl) rfl) rfl) q1, T', ht', K', hB', hacc, hL1, hlen⟩
      · left
        obtain ⟨x, hx⟩ : ∃ x, m[k]? = some x := ⟨_, List.getElem?_eq_getElem (by omega)⟩
        rcases hvs with hnil | ⟨o, rw', rfl, ho, hoB⟩
        · rw [hnil] at hx; simp at hx
        · have hog := K'.2 _ _ ho hoB
          obtain ⟨off, eoff⟩ : ∃ off, off = pp * 5 := ⟨_, rfl⟩
          rw [← eoff] at k3 ⊢
          have hlx := hml k x hx
          have hcl := opC_len l
          have hkl := get_lt' hlx
          have hoff : off + k * 5 = (pp + k) * 5 := by omega
          have ak1 : IntKind.i64.wrap ((k : Int) + 1) = ((k + 1 : Nat) : Int) := add1 (by omega)
          have htk : (m.take k).length = k := by simp; omega
          have Gk := foldW_good hw ht0 (pre0 ++ m.take k) (by simp; omega)
          rw [foldW_append, ← hst] at Gk
          have hGt := Gk.times
          simp only [List.length_append, htk] at hGt
          obtain ⟨gx, egx⟩ : ∃ gx, gx = (g ++ [AObj.cells [.int .i64 0, .int .i64 0, .int .i64 0, .int .i64 0, .string ⟨⟨[]⟩⟩] true]).set g.length (.cells x.cells true) := ⟨_, rfl⟩
          have KX : Keep (fun _ => False) g gx := by rw [egx]; exact (Keep.push (fun _ => False) g _).trans_new (Keep.set (fp := fun q => q = g.length) rfl _) (fun q hq e => by omega)
          have gxx : gx[g.length]? = some (.cells x.cells true) := by rw [egx]; exact get_set_eq (get_new g _)
          have hgxl : gx.length = g.length + 1 := by rw [egx]; simp
          have Tx := T'.keep KX (fun q e => e.elim)
          obtain ⟨rv, g2, t3, r1, r2, ⟨bo, b1, b2, hO⟩, r4, r5⟩ := run_run Tx.b Gk.ok (by omega) x
          have T2 := Tx.goB r2 r4 r5
          have ht3 : ∀ q, t3 = some q → B ≤ q := fun q e => by rcases r5 q e with e | e; exact ht' q e; omega
          have K2 : Keep (fpB i j B) hD g2 := (K'.trans (keep0B KX)).trans (r4.mono fun q _ e => by rcases e with e | e | e; exact .inr (.inr (e ▸ lc)); exact .inr (.inr (e ▸ lj)); exact .inr (.inr (ht' q e)))
          have hB2 : B ≤ g2.length := by have := r4.1; omega
          have hl2 := r4.1
          have hacc2 : OneAt g2 (fun q => fpT i j t c1 j1 t3 c2 j2 t2 q ∨ q < B ∨ isO (.slice none 0 0) q) acc (outF v (m.take k)) := (hacc.keep KX (fun q e => e.elim)).step r4 (fun q e => .inl (.inr (.inl e))) (fun q hq e => by
            rcases e with e | e
            · rcases e with e | e | e
              · exact .inl (.inl e)
              · exact .inl (.inr (.inl (fpW_next r5 hq e)))
              · exact .inl (.inr (.inr e))
            · exact .inr e)
          have hL2 : OneAt g2 (fun q => fpT i j t c1 j1 t3 c2 j2 t2 q ∨ q < B) (.slice none 0 0) L1 := (hL1.keep KX (fun q e => e.elim)).step r4 (fun q e => .inl (.inr (.inl e))) (fun q hq e => by
            rcases e with e | e
            · rcases e with e | e | e
              · exact .inl (.inl e)
              · exact .inl (.inr (.inl (fpW_next r5 hq e)))
              · exact .inl (.inr (.inr e))
            · exact .inr e)
          have hrl := run_len Gk.ok (by omega) x
          have hout : outF v (m.take (k + 1)) = outF v (m.take k) ++ (runF (foldW v (m.take k)) x).2 := by rw [take_snoc hx, outF_snoc]
          have hfold : foldW v (m.take (k + 1)) = stepF (foldW v (m.take k)) x := by rw [take_snoc hx, foldW_snoc]
          have hlen' : (outF v (m.take (k + 1))).length ≤ (k + 1) * 1000 := by rw [hout, List.length_append]; omega
          have pre1 : (Asm.cmp .lss (k : Int) (Int.ofNat m.length) true).holds Try.prog := by simp [Asm.holds, cmpB]; omega
          have pre2 : (Asm.off (off + k * 5) off (k : Int) m.length 5).holds Try.prog := ⟨by omega, by omega, by simp⟩
          have pre3 : (Asm.ldn (.is g) o (off + k * 5) 5 x.cells).holds Try.prog := a_ldn hog (by omega) (by rw [hoff]; exact opC_cut hlx)
          have pre4 : (Asm.st (.push (.is g) (.cells [.int .i64 0, .int .i64 0, .int .i64 0, .int .i64 0, .string ⟨⟨[]⟩⟩] true)) g.length 0 x.cells x.cells).holds Try.prog := a_st (get_new g _) (by simp [OpV.cells]) (by simp [OpV.cells])
          have pre5 : (Asm.ldn (.set (.push (.is g) (.cells [.int .i64 0, .int .i64 0, .int .i64 0, .int .i64 0, .string ⟨⟨[]⟩⟩] true)) g.length (.cells x.cells true)) g.length 0 5 x.cells).holds Try.prog := a_ldn (get_set_eq (get_new g _)) (by simp [OpV.cells]) rfl
          have r1' : (Asm.call 17 [.pointer (some ⟨c1, 0, none⟩), .agg x.cells.toArray] (.set (.push (.is g) (.cells [.int .i64 0, .int .i64 0, .int .i64 0, .int .i64 0, .string ⟨⟨[]⟩⟩] true)) g.length (.cells x.cells true)) rv (.is g2)).holds Try.prog := by
            show Run Try.prog 17 _ ((g ++ [AObj.cells [.int .i64 0, .int .i64 0, .int .i64 0, .int .i64 0, .string ⟨⟨[]⟩⟩] true]).set g.length (.cells x.cells true)) rv g2
            rw [← egx]; exact r1
          have pj : (Asm.arith .add .i64 (k : Int) 1 ((k + 1 : Nat) : Int)).holds Try.prog := by simp only [Asm.holds, arithI, ak1]
          have next : ∀ E2 g3 (acc3 : Value), CRun Try.prog 105 false (loopN Try.f7 1) E g .normal E2 g3 → EnvLe [(63, .int .i64 ((k + 1 : Nat) : Int)), (62, .int .i64 (Int.ofNat m.length)), (61, .slice (some ⟨o, off, none⟩) m.length 5), (13, (.slice none 0 0)), (12, acc3), (11, .pointer (some ⟨c2, 0, none⟩)), (10, .pointer (some ⟨c1, 0, none⟩)), (7, .int .i64 (Int.ofNat p)), (5, .pointer (some ⟨i, 0, none⟩)), (1, vl)] E2 →
              Tri g3 B i j t w c1 j1 t3 (stepF (foldW v (m.take k)) x) c2 j2 t2 u → Keep (fpB i j B) hD g3 → g2.length ≤ g3.length → OneAt g3 (fun q => fpT i j t c1 j1 t3 c2 j2 t2 q ∨ q < B ∨ isO (.slice none 0 0) q) acc3 (outF v (m.take k) ++ (runF (foldW v (m.take k)) x).2) → OneAt g3 (fun q => fpT i j t c1 j1 t3 c2 j2 t2 q ∨ q < B) (.slice none 0 0) L1 →
              ∃ m' E1 h1, m' < mm ∧ CRun Try.prog 105 false (loopN Try.f7 1) E g .normal E1 h1 ∧ ∃ (k : Nat) (acc : Value) (t' : Option Nat), k ≤ m.length ∧ m' = m.length - k ∧ EnvLe [(63, .int .i64 (k : Nat)), (62, .int .i64 (Int.ofNat m.length)), (61, .slice (some ⟨o, off, none⟩) m.length 5), (13, (.slice none 0 0)), (12, acc), (11, .pointer (some ⟨c2, 0, none⟩)), (10, .pointer (some ⟨c1, 0, none⟩)), (7, .int .i64 (Int.ofNat p)), (5, .pointer (some ⟨i, 0, none⟩)), (1, vl)] E1 ∧ Tri h1 B i j t w c1 j1 t' (foldW v (m.take k)) c2 j2 t2 u ∧ (∀ q, t' = some q → B ≤ q) ∧ Keep (fpB i j B) hD h1 ∧ B ≤ h1.length ∧
                OneAt h1 (fun q => fpT i j t c1 j1 t' c2 j2 t2 q ∨ q < B ∨ isO (.slice none 0 0) q) acc (outF v (m.take k)) ∧ OneAt h1 (fun q => fpT i j t c1 j1 t' c2 j2 t2 q ∨ q < B) (.slice none 0 0) L1 ∧ (∀ q, isO (.slice none 0 0) q → q < h1.length) ∧ (outF v (m.take k)).length ≤ k * 1000 :=
            fun E2 g3 acc3 z1 z2 z3 z4 z5 z6 z7 => ⟨m.length - (k + 1), E2, g3, by omega, z1, k + 1, acc3, t3, by omega, rfl, z2, by rw [hfold]; exact z3, ht3, z4, by omega, by rw [hout]; exact z6, z7, fun q e => by have := hex' q e; omega, hlen'⟩
          rcases hO with ⟨rfl, hn⟩ | ⟨ob, rfl, hob, hbo, hne⟩
          · rw [hn, List.append_nil] at next
            rcases hacc2 with ⟨rfl, hn2⟩ | ⟨ua, rfl, hua, hnu, hne2⟩
            · obtain ⟨E2, q1, q2⟩ := pvC 0 k3 (w29p.ca_nn i p c1 c2 o off m.length (off + k * 5) g.length k ((k + 1 : Nat) : Int) x.kind x.n x.at' x.fk x.ft vl g g2) ⟨pre1, pre2, pre3, rfl, pre4, pre5, r1', pj, trivial⟩
              exact next E2 _ _ q2 (.trans (.add (.add (.add (.add (.add (.add (.add (.add (.add (.add (.nil _) rfl) rfl) rfl) rfl) rfl) rfl) rfl) rfl) rfl) rfl) q1) T2 K2 (Nat.le_refl _) (.inl ⟨rfl, hn2⟩) hL2
            · obtain ⟨E2, q1, q2⟩ := pvC 0 k3 (w29p.ca_sn i p c1 c2 o off m.length (off + k * 5) g.length k ((k + 1 : Nat) : Int) x.kind x.n x.at' x.fk x.ft vl g g2 ua _) ⟨pre1, pre2, pre3, rfl, pre4, pre5, r1', pj, trivial⟩
              exact next E2 _ _ q2 (.trans (.add (.add (.add (.add (.add (.add (.add (.add (.add (.add (.nil _) rfl) rfl) rfl) rfl) rfl) rfl) rfl) rfl) rfl) rfl) q1) T2 K2 (Nat.le_refl _) (.inr ⟨ua, rfl, hua, hnu, hne2⟩) hL2
          · rcases hacc2 with ⟨rfl, hn2⟩ | ⟨ua, rfl, hua, hnu, hne2⟩
            · rw [hn2, List.nil_append] at next
              have KP : Keep (fun _ => False) g2 (g2 ++ [AObj.cells (svC (runF (foldW v (m.take k)) x).2) true]) := Keep.push _ _ _
              obtain ⟨E2, q1, q2⟩ := pvC 0 k3 (w29p.ca_ns i p c1 c2 o off m.length (off + k * 5) g.length k ((k + 1 : Nat) : Int) x.kind x.n x.at' x.fk x.ft vl g g2 ob _ _ g2.length (svC (runF (foldW v (m.take k)) x).2)) ⟨pre1, pre2, pre3, rfl, pre4, pre5, r1', a_app3n hob hne hrl rfl, pj, trivial⟩
              refine next E2 _ _ q2 (.trans (.add (.add (.add (.add (.add (.add (.add (.add (.add (.add (.nil _) rfl) rfl) rfl) rfl) rfl) rfl) rfl) rfl) rfl) rfl) q1) (T2.keep KP (fun q e => e.elim)) (K2.trans (keep0B KP)) KP.1 (.inr ⟨g2.length, rfl, get_new g2 _, fun e => ?_, hne⟩) (hL2.keep KP (fun q e => e.elim))
              rcases e with e | e | e
              · have := T2.lt e; omega
              · omega
              · have := hex' _ e; omega
            · have hul := get_lt hua
              have KP : Keep (fun q => q = ua) g2 ((g2.set ua .dead) ++ [AObj.cells (svC (outF v (m.take k) ++ (runF (foldW v (m.take k)) x).2)) true]) := (Keep.set (fp := fun q => q = ua) rfl _).trans (Keep.push _ _ _)
              obtain ⟨E2, q1, q2⟩ := pvC 0 k3 (w29p.ca_ss i p c1 c2 o off m.length (off + k * 5) g.length k ((k + 1 : Nat) : Int) x.kind x.n x.at' x.fk x.ft vl g g2 ua _ ob _ _ g2.length (svC (outF v (m.take k) ++ (runF (foldW v (m.take k)) x).2)) (svC (runF (foldW v (m.take k)) x).2)) ⟨pre1, pre2, pre3, rfl, pre4, pre5, r1', a_app3' hua hob hne (by omega) rfl, pj, trivial⟩
              have hll : (outF v (m.take k) ++ (runF (foldW v (m.take k)) x).2).length = (outF v (m.take k)).length + (runF (foldW v (m.take k)) x).2.length := List.length_append
              rw [← hll] at q1
              refine next E2 _ _ q2 (.trans (.add (.add (.add (.add (.add (.add (.add (.add (.add (.add (.nil _) rfl) rfl) rfl) rfl) rfl) rfl) rfl) rfl) rfl) rfl) q1) (T2.keep KP (fun q e r => hnu (.inl (e ▸ r)))) (K2.trans (KP.mono fun q _ e => .inr (.inr (by
                rcases Nat.lt_or_ge q B with c | c
                · exact absurd (.inr (.inl (e ▸ c))) hnu
                · exact c)))) KP.1 (.inr ⟨g2.length, rfl, get_new' _ (set_len _ _ _), fun e => ?_, by simp [hne2]⟩) (hL2.keepO KP (fun q n eq e => hnu (.inr (.inr ⟨n, by rw [← e]; exact eq⟩))))
              rcases e with e | e | e
              · have := T2.lt e; omega
              · omega
              · have := hex' _ e; omega)
    m.length [(63, .int .i64 ((0 : Nat) : Int)), (62, .int .i64 (Int.ofNat m.length)), (61, vs), (13, (.slice none 0 0)), (12, .slice none 0 0), (11, .pointer (some ⟨c2, 0, none⟩)), (10, .pointer (some ⟨c1, 0, none⟩)), (7, .int .i64 (Int.ofNat p)), (5, .pointer (some ⟨i, 0, none⟩)), (1, vl)] g0
    ⟨0, .slice none 0 0, tb, by omega, rfl, EnvLe.refl _, T, ht, K, hB, .inl ⟨rfl, rfl⟩, O1, hex, by simp [outF]⟩
  exact ⟨E1, g1, acc, t', q1, hl1, q2, q3, q4, q5, q6, q7⟩

theorem co_loopB {B i j c1 j1 c2 j2 p : Nat} {t1 t2 : Option Nat} {v u : WS} {w : WS} {tb : Option Nat} {hD g0 : Hp} {vl vs ex : Value} {L1 : List Sv} {w0 : WS} {pre0 m l : List OpV} {pp : Nat} (hm : m.length ≤ 100) (hpre : pre0.length ≤ 100)
    (hml : ∀ (k : Nat) x, m[k]? = some x → l[pp + k]? = some x) (hvs : m = [] ∨ ∃ o rw, vs = .slice (some ⟨o, pp * 5, none⟩) m.length 5 ∧ hD[o]? = some (.cells (opC l) rw) ∧ ¬ fpB i j B o)
     (T : Tri g0 B i j tb w c1 j1 t1 v c2 j2 t2 u) (ht : ∀ q, tb = some q → B ≤ q) (K : Keep (fpB i j B) hD g0) (hB : B ≤ g0.length) (hw : WOk w0) (ht0 : w0.times = []) (hst : w = foldW w0 pre0)
    (O1 : OneAt g0 (fun q => fpT i j tb c1 j1 t1 c2 j2 t2 q ∨ q < B) ex L1) (hex : ∀ q, isO ex q → q < g0.length) :
    ∃ E1 g1 acc t', EnvLe [(13, acc), (12, ex), (11, .pointer (some ⟨c2, 0, none⟩)), (10, .pointer (some ⟨c1, 0, none⟩)), (7, .int .i64 (Int.ofNat p)), (5, .pointer (some ⟨i, 0, none⟩)), (1, vl)] E1 ∧
      LRun Try.prog 105 false (loopN Try.f7 2) [(84, .int .i64 0), (83, .int .i64 (Int.ofNat m.length)), (82, vs), (13, .slice none 0 0), (12, ex), (11, .pointer (some ⟨c2, 0, none⟩)), (10, .pointer (some ⟨c1, 0, none⟩)), (7, .int .i64 (Int.ofNat p)), (5, .pointer (some ⟨i, 0, none⟩)), (1, vl)] g0 (.exit 4) E1 g1 ∧ Tri g1 B i j t' (foldW w m) c1 j1 t1 v c2 j2 t2 u ∧ (∀ q, t' = some q → B ≤ q) ∧ Keep (fpB i j B) hD g1 ∧ B ≤ g1.length ∧
      OneAt g1 (fun q => fpT i j t' c1 j1 t1 c2 j2 t2 q ∨ q < B ∨ isO ex q) acc (outF w m) ∧ OneAt g1 (fun q => fpT i j t' c1 j1 t1 c2 j2 t2 q ∨ q < B) ex L1 ∧ (outF w m).length ≤ m.length * 1000 := by
  obtain ⟨x', E1, g1, hl1, rfl, acc, t', q1, q2, q3, q4, q5, q6, q7⟩ := loop_inv (P := Try.prog) (n := 105) (rd := false) (b := loopN Try.f7 2)
    (Q := fun x' E1 g1 => x' = .exit 4 ∧ ∃ (acc : Value) (t' : Option Nat), EnvLe [(13, acc), (12, ex), (11, .pointer (some ⟨c2, 0, none⟩)), (10, .pointer (some ⟨c1, 0, none⟩)), (7, .int .i64 (Int.ofNat p)), (5, .pointer (some ⟨i, 0, none⟩)), (1, vl)] E1 ∧ Tri g1 B i j t' (foldW w m) c1 j1 t1 v c2 j2 t2 u ∧ (∀ q, t' = some q → B ≤ q) ∧ Keep (fpB i j B) hD g1 ∧ B ≤ g1.length ∧
      OneAt g1 (fun q => fpT i j t' c1 j1 t1 c2 j2 t2 q ∨ q < B ∨ isO ex q) acc (outF w m) ∧ OneAt g1 (fun q => fpT i j t' c1 j1 t1 c2 j2 t2 q ∨ q < B) ex L1 ∧ (outF w m).length ≤ m.length * 1000)
    (fun mm E g => ∃ (k : Nat) (acc : Value) (t' : Option Nat), k ≤ m.length ∧ mm = m.length - k ∧ EnvLe [(84, .int .i64 (k : Nat)), (83, .int .i64 (Int.ofNat m.length)), (82, vs), (13, acc), (12, ex), (11, .pointer (some ⟨c2, 0, none⟩)), (10, .pointer (some ⟨c1, 0, none⟩)), (7, .int .i64 (Int.ofNat p)), (5, .pointer (some ⟨i, 0, none⟩)), (1, vl)] E ∧ Tri g B i j t' (foldW w (m.take k)) c1 j1 t1 v c2 j2 t2 u ∧ (∀ q, t' = some q → B ≤ q) ∧ Keep (fpB i j B) hD g ∧ B ≤ g.length ∧
      OneAt g (fun q => fpT i j t' c1 j1 t1 c2 j2 t2 q ∨ q < B ∨ isO ex q) acc (outF w (m.take k)) ∧ OneAt g (fun q => fpT i j t' c1 j1 t1 c2 j2 t2 q ∨ q < B) ex L1 ∧ (∀ q, isO ex q → q < g.length) ∧ (outF w (m.take k)).length ≤ k * 1000)
    (fun mm E g ⟨k, acc, t', k1, k2, k3, T', ht', K', hB', hacc, hL1, hex', hlen⟩ => by
      by_cases e : k = m.length
      · right
        subst e
        obtain ⟨E2, q1, q2⟩ := pvC 0 k3 (w29p.cb_out i p c1 c2 0 0 m.length 0 0 (m.length : Nat) 0 0 0 0 0 ⟨#[]⟩ vl g g ex acc vs) ⟨by simp [Asm.holds, cmpB], trivial⟩
        rw [List.take_length] at T' hacc hlen
        exact ⟨_, E2, _, by simp, q2, rfl, acc, t', .trans (.add (.add (.add (.add (.add (.add (.add (.nil _) rfl) rfl) rfl) rfl) rfl) rfl) rfl) q1, T', ht', K', hB', hacc, hL1, hlen⟩
      · left
        obtain ⟨x, hx⟩ : ∃ x, m[k]? = some x := ⟨_, List.getElem?_eq_getElem (by omega)⟩
        rcases hvs with hnil | ⟨o, rw', rfl, ho, hoB⟩
        · rw [hnil] at hx; simp at hx
        · have hog := K'.2 _ _ ho hoB
          obtain ⟨off, eoff⟩ : ∃ off, off = pp * 5 := ⟨_, rfl⟩
          rw [← eoff] at k3 ⊢
          have hlx := hml k x hx
          have hcl := opC_len l
          have hkl := get_lt' hlx
          have hoff : off + k * 5 = (pp + k) * 5 := by omega
          have ak1 : IntKind.i64.wrap ((k : Int) + 1) = ((k + 1 : Nat) : Int) := add1 (by omega)
          have htk : (m.take k).length = k := by simp; omega
          have Gk := foldW_good hw ht0 (pre0 ++ m.take k) (by simp; omega)
          rw [foldW_append, ← hst] at Gk
          have hGt := Gk.times
          simp only [List.length_append, htk] at hGt
          obtain ⟨gx, egx⟩ : ∃ gx, gx = (g ++ [AObj.cells [.int .i64 0, .int .i64 0, .int .i64 0, .int .i64 0, .string ⟨⟨[]⟩⟩] true]).set g.length (.cells x.cells true) := ⟨_, rfl⟩
          have KX : Keep (fun _ => False) g gx := by rw [egx]; exact (Keep.push (fun _ => False) g _).trans_new (Keep.set (fp := fun q => q = g.length) rfl _) (fun q hq e => by omega)
          have gxx : gx[g.length]? = some (.cells x.cells true) := by rw [egx]; exact get_set_eq (get_new g _)
          have hgxl : gx.length = g.length + 1 := by rw [egx]; simp
          have Tx := T'.keep KX (fun q e => e.elim)
          obtain ⟨rv, g2, t3, r1, r2, ⟨bo, b1, b2, hO⟩, r4, r5⟩ := run_run Tx.a Gk.ok (by omega) x
          have T2 := Tx.goA r2 r4 r5
          have ht3 : ∀ q, t3 = some q → B ≤ q := fun q e => by rcases r5 q e with e | e; exact ht' q e; omega
          have K2 : Keep (fpB i j B) hD g2 := (K'.trans (keep0B KX)).trans (r4.mono fun q _ e => by rcases e with e | e | e; exact .inl e; exact .inr (.inl e); exact .inr (.inr (ht' q e)))
          have hB2 : B ≤ g2.length := by have := r4.1; omega
          have hl2 := r4.1
          have hacc2 : OneAt g2 (fun q => fpT i j t3 c1 j1 t1 c2 j2 t2 q ∨ q < B ∨ isO ex q) acc (outF w (m.take k)) := (hacc.keep KX (fun q e => e.elim)).step r4 (fun q e => .inl (.inl e)) (fun q hq e => by
            rcases e with e | e
            · rcases e with e | e | e
              · exact .inl (.inl (fpW_next r5 hq e))
              · exact .inl (.inr (.inl (e)))
              · exact .inl (.inr (.inr e))
            · exact .inr e)
          have hL2 : OneAt g2 (fun q => fpT i j t3 c1 j1 t1 c2 j2 t2 q ∨ q < B) ex L1 := (hL1.keep KX (fun q e => e.elim)).step r4 (fun q e => .inl (.inl e)) (fun q hq e => by
            rcases e with e | e
            · rcases e with e | e | e
              · exact .inl (.inl (fpW_next r5 hq e))
              · exact .inl (.inr (.inl (e)))
              · exact .inl (.inr (.inr e))
            · exact .inr e)
          have hrl := run_len Gk.ok (by omega) x
          have hout : outF w (m.take (k + 1)) = outF w (m.take k) ++ (runF (foldW w (m.take k)) x).2 := by rw [take_snoc hx, outF_snoc]
          have hfold : foldW w (m.take (k + 1)) = stepF (foldW w (m.take k)) x := by rw [take_snoc hx, foldW_snoc]
          have hlen' : (outF w (m.take (k + 1))).length ≤ (k + 1) * 1000 := by rw [hout, List.length_append]; omega
          have pre1 : (Asm.cmp .lss (k : Int) (Int.ofNat m.length) true).holds Try.prog := by simp [Asm.holds, cmpB]; omega
          have pre2 : (Asm.off (off + k * 5) off (k : Int) m.length 5).holds Try.prog := ⟨by omega, by omega, by simp⟩
          have pre3 : (Asm.ldn (.is g) o (off + k * 5) 5 x.cells).holds Try.prog := a_ldn hog (by omega) (by rw [hoff]; exact opC_cut hlx)
          have pre4 : (Asm.st (.push (.is g) (.cells [.int .i64 0, .int .i64 0, .int .i64 0, .int .i64 0, .string ⟨⟨[]⟩⟩] true)) g.length 0 x.cells x.cells).holds Try.prog := a_st (get_new g _) (by simp [OpV.cells]) (by simp [OpV.cells])
          have pre5 : (Asm.ldn (.set (.push (.is g) (.cells [.int .i64 0, .int .i64 0, .int .i64 0, .int .i64 0, .string ⟨⟨[]⟩⟩] true)) g.length (.cells x.cells true)) g.length 0 5 x.cells).holds Try.prog := a_ldn (get_set_eq (get_new g _)) (by simp [OpV.cells]) rfl
          have r1' : (Asm.call 17 [.pointer (some ⟨i, 0, none⟩), .agg x.cells.toArray] (.set (.push (.is g) (.cells [.int .i64 0, .int .i64 0, .int .i64 0, .int .i64 0, .string ⟨⟨[]⟩⟩] true)) g.length (.cells x.cells true)) rv (.is g2)).holds Try.prog := by
            show Run Try.prog 17 _ ((g ++ [AObj.cells [.int .i64 0, .int .i64 0, .int .i64 0, .int .i64 0, .string ⟨⟨[]⟩⟩] true]).set g.length (.cells x.cells true)) rv g2
            rw [← egx]; exact r1
          have pj : (Asm.arith .add .i64 (k : Int) 1 ((k + 1 : Nat) : Int)).holds Try.prog := by simp only [Asm.holds, arithI, ak1]
          have next : ∀ E2 g3 (acc3 : Value), CRun Try.prog 105 false (loopN Try.f7 2) E g .normal E2 g3 → EnvLe [(84, .int .i64 ((k + 1 : Nat) : Int)), (83, .int .i64 (Int.ofNat m.length)), (82, .slice (some ⟨o, off, none⟩) m.length 5), (13, acc3), (12, ex), (11, .pointer (some ⟨c2, 0, none⟩)), (10, .pointer (some ⟨c1, 0, none⟩)), (7, .int .i64 (Int.ofNat p)), (5, .pointer (some ⟨i, 0, none⟩)), (1, vl)] E2 →
              Tri g3 B i j t3 (stepF (foldW w (m.take k)) x) c1 j1 t1 v c2 j2 t2 u → Keep (fpB i j B) hD g3 → g2.length ≤ g3.length → OneAt g3 (fun q => fpT i j t3 c1 j1 t1 c2 j2 t2 q ∨ q < B ∨ isO ex q) acc3 (outF w (m.take k) ++ (runF (foldW w (m.take k)) x).2) → OneAt g3 (fun q => fpT i j t3 c1 j1 t1 c2 j2 t2 q ∨ q < B) ex L1 →
              ∃ m' E1 h1, m' < mm ∧ CRun Try.prog 105 false (loopN Try.f7 2) E g .normal E1 h1 ∧ ∃ (k : Nat) (acc : Value) (t' : Option Nat), k ≤ m.length ∧ m' = m.length - k ∧ EnvLe [(84, .int .i64 (k : Nat)), (83, .int .i64 (Int.ofNat m.length)), (82, .slice (some ⟨o, off, none⟩) m.length 5), (13, acc), (12, ex), (11, .pointer (some ⟨c2, 0, none⟩)), (10, .pointer (some ⟨c1, 0, none⟩)), (7, .int .i64 (Int.ofNat p)), (5, .pointer (some ⟨i, 0, none⟩)), (1, vl)] E1 ∧ Tri h1 B i j t' (foldW w (m.take k)) c1 j1 t1 v c2 j2 t2 u ∧ (∀ q, t' = some q → B ≤ q) ∧ Keep (fpB i j B) hD h1 ∧ B ≤ h1.length ∧
                OneAt h1 (fun q => fpT i j t' c1 j1 t1 c2 j2 t2 q ∨ q < B ∨ isO ex q) acc (outF w (m.take k)) ∧ OneAt h1 (fun q => fpT i j t' c1 j1 t1 c2 j2 t2 q ∨ q < B) ex L1 ∧ (∀ q, isO ex q → q < h1.length) ∧ (outF w (m.take k)).length ≤ k * 1000 :=
            fun E2 g3 acc3 z1 z2 z3 z4 z5 z6 z7 => ⟨m.length - (k + 1), E2, g3, by omega, z1, k + 1, acc3, t3, by omega, rfl, z2, by rw [hfold]; exact z3, ht3, z4, by omega, by rw [hout]; exact z6, z7, fun q e => by have := hex' q e; omega, hlen'⟩
          rcases hO with ⟨rfl, hn⟩ | ⟨ob, rfl, hob, hbo, hne⟩
          · rw [hn, List.append_nil] at next
            rcases hacc2 with ⟨rfl, hn2⟩ | ⟨ua, rfl, hua, hnu, hne2⟩
            · obtain ⟨E2, q1, q2⟩ := pvC 0 k3 (w29p.cb_nn i p c1 c2 o off m.length (off + k * 5) g.length k ((k + 1 : Nat) : Int) x.kind x.n x.at' x.fk x.ft vl g g2 ex) ⟨pre1, pre2, pre3, rfl, pre4, pre5, r1', pj, trivial⟩
              exact next E2 _ _ q2 (.trans (.add (.add (.add (.add (.add (.add (.add (.add (.add (.add (.nil _) rfl) rfl) rfl) rfl) rfl) rfl) rfl) rfl) rfl) rfl) q1) T2 K2 (Nat.le_refl _) (.inl ⟨rfl, hn2⟩) hL2
            · obtain ⟨E2, q1, q2⟩ := pvC 0 k3 (w29p.cb_sn i p c1 c2 o off m.length (off + k * 5) g.length k ((k + 1 : Nat) : Int) x.kind x.n x.at' x.fk x.ft vl g g2 ex ua _) ⟨pre1, pre2, pre3, rfl, pre4, pre5, r1', pj, trivial⟩
              exact next E2 _ _ q2 (.trans (.add (.add (.add (.add (.add (.add (.add (.add (.add (.add (.nil _) rfl) rfl) rfl) rfl) rfl) rfl) rfl) rfl) rfl) rfl) q1) T2 K2 (Nat.le_refl _) (.inr ⟨ua, rfl, hua, hnu, hne2⟩) hL2
          · rcases hacc2 with ⟨rfl, hn2⟩ | ⟨ua, rfl, hua, hnu, hne2⟩
            · rw [hn2, List.nil_append] at next
              have KP : Keep (fun _ => False) g2 (g2 ++ [AObj.cells (svC (runF (foldW w (m.take k)) x).2) true]) := Keep.push _ _ _
              obtain ⟨E2, q1, q2⟩ := pvC 0 k3 (w29p.cb_ns i p c1 c2 o off m.length (off + k * 5) g.length k ((k + 1 : Nat) : Int) x.kind x.n x.at' x.fk x.ft vl g g2 ex ob _ _ g2.length (svC (runF (foldW w (m.take k)) x).2)) ⟨pre1, pre2, pre3, rfl, pre4, pre5, r1', a_app3n hob hne hrl rfl, pj, trivial⟩
              refine next E2 _ _ q2 (.trans (.add (.add (.add (.add (.add (.add (.add (.add (.add (.add (.nil _) rfl) rfl) rfl) rfl) rfl) rfl) rfl) rfl) rfl) rfl) q1) (T2.keep KP (fun q e => e.elim)) (K2.trans (keep0B KP)) KP.1 (.inr ⟨g2.length, rfl, get_new g2 _, fun e => ?_, hne⟩) (hL2.keep KP (fun q e => e.elim))
              rcases e with e | e | e
              · have := T2.lt e; omega
              · omega
              · have := hex' _ e; omega
            · have hul := get_lt hua
              have KP : Keep (fun q => q = ua) g2 ((g2.set ua .dead) ++ [AObj.cells (svC (outF w (m.take k) ++ (runF (foldW w (m.take k)) x).2)) true]) := (Keep.set (fp := fun q => q = ua) rfl _).trans (Keep.push _ _ _)
              obtain ⟨E2, q1, q2⟩ := pvC 0 k3 (w29p.cb_ss i p c1 c2 o off m.length (off + k * 5) g.length k ((k + 1 : Nat) : Int) x.kind x.n x.at' x.fk x.ft vl g g2 ex ua _ ob _ _ g2.length (svC (outF w (m.take k) ++ (runF (foldW w (m.take k)) x).2)) (svC (runF (foldW w (m.take k)) x).2)) ⟨pre1, pre2, pre3, rfl, pre4, pre5, r1', a_app3' hua hob hne (by omega) rfl, pj, trivial⟩
              have hll : (outF w (m.take k) ++ (runF (foldW w (m.take k)) x).2).length = (outF w (m.take k)).length + (runF (foldW w (m.take k)) x).2.length := List.length_append
              rw [← hll] at q1
              refine next E2 _ _ q2 (.trans (.add (.add (.add (.add (.add (.add (.add (.add (.add (.add (.nil _) rfl) rfl) rfl) rfl) rfl) rfl) rfl) rfl) rfl) rfl) q1) (T2.keep KP (fun q e r => hnu (.inl (e ▸ r)))) (K2.trans (KP.mono fun q _ e => .inr (.inr (by
                rcases Nat.lt_or_ge q B with c | c
                · exact absurd (.inr (.inl (e ▸ c))) hnu
                · exact c)))) KP.1 (.inr ⟨g2.length, rfl, get_new' _ (set_len _ _ _), fun e => ?_, by simp [hne2]⟩) (hL2.keepO KP (fun q n eq e => hnu (.inr (.inr ⟨n, by rw [← e]; exact eq⟩))))
              rcases e with e | e | e
              · have := T2.lt e; omega
              · omega
              · have := hex' _ e; omega)
    m.length [(84, .int .i64 ((0 : Nat) : Int)), (83, .int .i64 (Int.ofNat m.length)), (82, vs), (13, .slice none 0 0), (12, ex), (11, .pointer (some ⟨c2, 0, none⟩)), (10, .pointer (some ⟨c1, 0, none⟩)), (7, .int .i64 (Int.ofNat p)), (5, .pointer (some ⟨i, 0, none⟩)), (1, vl)] g0
    ⟨0, .slice none 0 0, tb, by omega, rfl, EnvLe.refl _, T, ht, K, hB, .inl ⟨rfl, rfl⟩, O1, hex, by simp [outF]⟩
  exact ⟨E1, g1, acc, t', q1, hl1, q2, q3, q4, q5, q6, q7⟩

end Go.Proofs.Ytkkhokgpcifckaa.wd

namespace Go.Proofs.Ytkkhokgpcifckaa.wd
open Go Go.Ev
set_option maxRecDepth 100000
set_option linter.constructorNameAsVariable false
set_option linter.unusedVariables false

theorem a_cut2 {P : Program} {p e len : Nat} (h1 : p ≤ e) (h2 : e ≤ len) : (Asm.cut (some (.int .i64 (Int.ofNat p))) (some (.int .i64 (Int.ofNat e))) len p e).holds P := by
  have z : ∀ n : Nat, (0 : Int) ≤ Int.ofNat n := fun n => Int.natCast_nonneg n
  have q1 : Int.ofNat e ≤ (len : Int) := Int.ofNat_le.2 h2
  have q2 : Int.ofNat p ≤ (e : Int) := Int.ofNat_le.2 h1
  refine ⟨?_, ?_⟩
  · simp only [boundO, decide_eq_true (z e), decide_eq_true q1]; rfl
  · simp only [boundO, decide_eq_true (z p), decide_eq_true q2]; rfl

theorem copies_loop {B i j p : Nat} {w0 : WS} {h0 g0 : Hp} {vs vl : Value} {m l : List OpV} (hm : m.length ≤ 100) (hp : m.length = p) (hml : ∀ (k : Nat) x, m[k]? = some x → l[k]? = some x) (hvs : m = [] ∨ ∃ o rw, vs = .slice (some ⟨o, 0, none⟩) p 5 ∧ h0[o]? = some (.cells (opC l) rw) ∧ ¬ fpB i j B o)
    (I : In B i j w0 h0 g0) (hw : WOk w0) (ht : w0.times = []) :
    ∃ E1 g1, EnvLe [(7, .int .i64 (Int.ofNat p)), (5, .pointer (some ⟨i, 0, none⟩)), (1, vl)] E1 ∧
      LRun Try.prog 105 false (loopN Try.f7 0) [(38, .int .i64 0), (37, .int .i64 (Int.ofNat p)), (36, vs), (7, .int .i64 (Int.ofNat p)), (5, .pointer (some ⟨i, 0, none⟩)), (1, vl)] g0 (.exit 0) E1 g1 ∧ In B i j (foldW w0 m) h0 g1 := by
  subst hp
  obtain ⟨x', E1, g1, hl1, rfl, q1, q2⟩ := loop_inv (P := Try.prog) (n := 105) (rd := false) (b := loopN Try.f7 0)
    (Q := fun x' E1 g1 => x' = .exit 0 ∧ EnvLe [(7, .int .i64 (Int.ofNat m.length)), (5, .pointer (some ⟨i, 0, none⟩)), (1, vl)] E1 ∧ In B i j (foldW w0 m) h0 g1)
    (fun mm E g => ∃ k : Nat, k ≤ m.length ∧ mm = m.length - k ∧ EnvLe [(38, .int .i64 (k : Nat)), (37, .int .i64 (Int.ofNat m.length)), (36, vs), (7, .int .i64 (Int.ofNat m.length)), (5, .pointer (some ⟨i, 0, none⟩)), (1, vl)] E ∧ In B i j (foldW w0 (m.take k)) h0 g)
    (fun mm E g ⟨k, k1, k2, k3, k4⟩ => by
      by_cases e : k = m.length
      · right
        subst e
        obtain ⟨E2, q1, q2⟩ := pvC 0 k3 (w29p.co_out i m.length (m.length : Nat) vs vl g) ⟨by simp [Asm.holds, cmpB], trivial⟩
        exact ⟨_, E2, _, by simp, q2, rfl, .trans (.add (.add (.add (.nil _) rfl) rfl) rfl) q1, by rwa [List.take_length] at k4⟩
      · left
        obtain ⟨x, hx⟩ : ∃ x, m[k]? = some x := ⟨_, List.getElem?_eq_getElem (by omega)⟩
        rcases hvs with hnil | ⟨o, rw', rfl, ho, hoB⟩
        · rw [hnil] at hx; simp at hx
        · have hog := k4.keep.2 _ _ ho hoB
          have hlx := hml k x hx
          have hcl := opC_len l
          have hkl := get_lt' hlx
          have ak1 : IntKind.i64.wrap ((k : Int) + 1) = ((k + 1 : Nat) : Int) := add1 (by omega)
          have Gk := foldW_good hw ht (m.take k) (by simp; omega)
          have htk : (foldW w0 (m.take k)).times.length < 10000 := by have := Gk.times; simp at this; omega
          have I1 := k4.tmp (.cells [.int .i64 0, .int .i64 0, .int .i64 0, .int .i64 0, .string ⟨⟨[]⟩⟩] true) (.cells x.cells true)
          obtain ⟨t, a, hta⟩ := I1.at'
          obtain ⟨v, g2, t', r1, r2, _, r4, r5⟩ := run_run a Gk.ok htk x
          obtain ⟨E2, q1, q2⟩ := pvC 0 k3 (w29p.co_go i m.length o (k * 5) g.length k ((k + 1 : Nat) : Int) x.kind x.n x.at' x.fk x.ft v vl g g2)
            ⟨by simp [Asm.holds, cmpB]; omega, ⟨by omega, by omega, by simp⟩, a_ldn hog (by omega) (opC_cut hlx), rfl, a_st (get_new g _) (by simp) rfl, a_ldn (get_set_eq (get_new g _)) (by simp) rfl, r1, by simp only [Asm.holds, arithI, ak1], trivial⟩
          refine ⟨m.length - (k + 1), E2, _, by omega, q2, k + 1, by omega, rfl, .trans (.add (.add (.add (.add (.add (.add (.nil _) rfl) rfl) rfl) rfl) rfl) rfl) q1, ?_⟩
          rw [take_snoc hx, foldW_snoc]
          exact I1.next hta r2 r4 r5)
    m.length [(38, .int .i64 ((0 : Nat) : Int)), (37, .int .i64 (Int.ofNat m.length)), (36, vs), (7, .int .i64 (Int.ofNat m.length)), (5, .pointer (some ⟨i, 0, none⟩)), (1, vl)] g0 ⟨0, by omega, rfl, EnvLe.refl _, I⟩
  exact ⟨E1, g1, q1, hl1, q2⟩

theorem body7 : Try.f7.body = some (chainT [partC Try.f7 [0], partC Try.f7 [1, 0], partC Try.f7 [1, 1, 0], partC Try.f7 [1, 1, 1, 0], partC Try.f7 [1, 1, 1, 1, 0]] (chainT [partC Try.f7 [1, 1, 1, 1, 1, 0], partC Try.f7 [1, 1, 1, 1, 1, 1, 0], partC Try.f7 [1, 1, 1, 1, 1, 1, 1, 0]]
    (chainT [partC Try.f7 [1, 1, 1, 1, 1, 1, 1, 1, 0]] (chainT [partC Try.f7 [1, 1, 1, 1, 1, 1, 1, 1, 1, 0]] (chainT [partC Try.f7 [1, 1, 1, 1, 1, 1, 1, 1, 1, 1, 0]] (partC Try.f7 [1, 1, 1, 1, 1, 1, 1, 1, 1, 1, 1])))))) := by kernel_rfl

/-- The second part: two copies, and what is done with them. -/
theorem copies_rest {B i j : Nat} {hD g1 : Hp} {vl : Value} {ops : List OpV} {w w0 : WS} {E1 : Env} (hO : OpsIn i j B hD vl ops) (I : In B i j w hD g1) (hw0 : WOk w0) (ht0 : w0.times = []) (ew : w = foldW w0 (ops.take 60))
    (e1 : EnvLe [(7, .int .i64 (Int.ofNat (min ops.length 60))), (5, .pointer (some ⟨i, 0, none⟩)), (1, vl)] E1) :
    ∃ E2 g2, EnvLe [(4, .bool true)] E2 ∧ CRun Try.prog 105 false (chainT [partC Try.f7 [1, 1, 1, 1, 1, 0], partC Try.f7 [1, 1, 1, 1, 1, 1, 0], partC Try.f7 [1, 1, 1, 1, 1, 1, 1, 0]]
      (chainT [partC Try.f7 [1, 1, 1, 1, 1, 1, 1, 1, 0]] (chainT [partC Try.f7 [1, 1, 1, 1, 1, 1, 1, 1, 1, 0]] (chainT [partC Try.f7 [1, 1, 1, 1, 1, 1, 1, 1, 1, 1, 0]] (partC Try.f7 [1, 1, 1, 1, 1, 1, 1, 1, 1, 1, 1]))))) E1 g1 .ret E2 g2 := by
  have htl60 : (ops.take 60).length ≤ 60 := by simp; omega
  have Gw := foldW_good hw0 ht0 (ops.take 60) (by omega)
  rw [← ew] at Gw
  obtain ⟨t, a, ht⟩ := I.at'
  obtain ⟨c1, j1, t1, g2, r1, b1, K1, f1⟩ := copy_run2 a Gw.ok
  have a2 := a.away K1 (fun q _ e => e)
  obtain ⟨c2, j2, t2, g3, r2, b2, K2, f2⟩ := copy_run2 a2 Gw.ok
  have hg12 := K1.1
  have hg23 := K2.1
  have hBg := I.base
  have T : Tri g3 B i j t w c1 j1 t1 w c2 j2 t2 w := ⟨a2.away K2 (fun q _ e => e), b1.away K2 (fun q _ e => e), b2,
    fun q e r => by have := a.lts q e; have := f1 q r; omega, fun q e r => by have := a2.lts q e; have := f2 q r; omega, fun q e r => by have := b1.lts q e; have := f2 q r; omega⟩
  have K3 : Keep (fpB i j B) hD g3 := (I.keep.trans (keep0B K1)).trans (keep0B K2)
  have hB3 : B ≤ g3.length := by omega
  have lc1 : B ≤ c1 := by have := f1 c1 (.inl rfl); omega
  have lj1 : B ≤ j1 := by have := f1 j1 (.inr (.inl rfl)); omega
  have ht1 : ∀ q, t1 = some q → B ≤ q := fun q e => by have := f1 q (.inr (.inr e)); omega
  obtain ⟨E2, q1, q2⟩ := pvC 0 e1 (w29p.co_mid i (min ops.length 60) c1 c2 vl g1 g2 g3) ⟨r1, r2, trivial⟩
  have e2 : EnvLe [(13, .slice none 0 0), (12, .slice none 0 0), (11, .pointer (some ⟨c2, 0, none⟩)), (10, .pointer (some ⟨c1, 0, none⟩)), (7, .int .i64 (Int.ofNat (min ops.length 60))), (5, .pointer (some ⟨i, 0, none⟩)), (1, vl)] E2 :=
    .trans (.add (.add (.add (.add (.add (.add (.add (.nil _) rfl) rfl) rfl) rfl) rfl) rfl) rfl) q1
  obtain ⟨m2, em2⟩ : ∃ m2, m2 = (ops.take 100).drop 60 := ⟨_, rfl⟩
  have hm2 : m2.length = min ops.length 100 - min ops.length 60 := by rw [em2]; simp; omega
  have hml : ∀ (k : Nat) x, m2[k]? = some x → ops[min ops.length 60 + k]? = some x := fun k x hx => by
    rw [em2, List.getElem?_drop, List.getElem?_take] at hx
    split at hx
    · have := get_lt' hx
      rw [Nat.min_eq_right (by omega)]; exact hx
    · cases hx
  -- the first of the two loops
  have LA : ∃ E3 g4 one t1', EnvLe [(13, .slice none 0 0), (12, one), (11, .pointer (some ⟨c2, 0, none⟩)), (10, .pointer (some ⟨c1, 0, none⟩)), (7, .int .i64 (Int.ofNat (min ops.length 60))), (5, .pointer (some ⟨i, 0, none⟩)), (1, vl)] E3 ∧
      CRun Try.prog 105 false (partC Try.f7 [1, 1, 1, 1, 1, 1, 1, 1, 0]) E2 g3 .normal E3 g4 ∧ Tri g4 B i j t w c1 j1 t1' (foldW w m2) c2 j2 t2 w ∧ Keep (fpB i j B) hD g4 ∧ B ≤ g4.length ∧
      OneAt g4 (fun q => fpT i j t c1 j1 t1' c2 j2 t2 q ∨ q < B) one (outF w m2) ∧ (outF w m2).length ≤ m2.length * 1000 := by
    rcases hO with ⟨rfl, hnil⟩ | ⟨o, rwo, rfl, ho, hno⟩
    · have hm0 : m2 = [] := by rw [em2, hnil]; rfl
      have hp0 : min ops.length 60 = 0 := by rw [hnil]; rfl
      rw [hp0] at e2 ⊢
      obtain ⟨E3, z1, z2⟩ := pvC 0 e2 (w29p.co_an i c1 c2 g3) ⟨by simp [Asm.holds], by simp [Asm.holds, cmpB], trivial⟩
      rw [hm0]
      exact ⟨E3, g3, .slice none 0 0, t1, .trans (.add (.add (.add (.add (.add (.add (.add (.nil _) rfl) rfl) rfl) rfl) rfl) rfl) rfl) z1, z2, T, K3, hB3, .inl ⟨rfl, rfl⟩, by simp [outF]⟩
    · have pl : plainC (loopN Try.f7 1) = true := by kernel_rfl
      obtain ⟨Ea, g4, one, t1', z1, z2, z3, z4, z5, z6, z7, z8, z9⟩ := co_loopA (p := min ops.length 60) (vl := .slice (some ⟨o, 0, none⟩) ops.length 5) (vs := .slice (some ⟨o, min ops.length 60 * 5, none⟩) m2.length 5) (ex := .slice none 0 0) (L1 := []) (w0 := w0) (pre0 := ops.take 60) (m := m2) (l := ops) (pp := min ops.length 60)
        (by omega) (by omega) hml (.inr ⟨o, rwo, rfl, ho, hno⟩) lc1 lj1 T ht1 K3 hB3 hw0 ht0 ew (.inl ⟨rfl, rfl⟩) (fun q e => by obtain ⟨n, e⟩ := e; cases e)
      rw [hm2] at z2
      have hcut : (Asm.cut (some (.int .i64 (Int.ofNat (min ops.length 60)))) (some (.int .i64 (Int.ofNat (min ops.length 100)))) ops.length (min ops.length 60) (min ops.length 100)).holds Try.prog := a_cut2 (by omega) (by omega)
      have hz : LRun Try.prog 105 false (loopN Try.f7 1) _ g3 (.exit 2) Ea g4 := z2
      obtain ⟨E3, y1, y2⟩ := pvC 0 e2 (w29p.co_as i (min ops.length 60) c1 c2 o ops.length (min ops.length 100) 0 one g3 g4)
        ⟨.inr ⟨rfl, by simp only [Int.ofNat_eq_natCast]; split <;> omega⟩, hcut, a_loop pl (.add (.add (.add (.add (.add (.add (.add (.add (.add (.add (.nil _) rfl) rfl) rfl) rfl) rfl) rfl) rfl) (by rw [Nat.zero_add]; rfl)) rfl) rfl) z1 hz, trivial⟩
      exact ⟨E3, g4, one, t1', .trans (.add (.add (.add (.add (.add (.add (.add (.nil _) rfl) rfl) rfl) rfl) rfl) rfl) rfl) y1, y2, z3, z5, z6, z7.mono (fun q _ e => by rcases e with e | e; exact .inl e; exact .inr (.inl e)), z9⟩
  obtain ⟨E3, g4, one, t1', e3, c3, T3, K4, hB4, hone, hlen⟩ := LA
  -- alike
  obtain ⟨E4, y1, c4⟩ := pvC 0 e3 (w29p.co_alike i (min ops.length 60) c1 c2 one vl g4 g4) ⟨alike_run T3.a T3.c Gw.ok, trivial⟩
  have e4 : EnvLe [(13, .slice none 0 0), (12, one), (11, .pointer (some ⟨c2, 0, none⟩)), (10, .pointer (some ⟨c1, 0, none⟩)), (7, .int .i64 (Int.ofNat (min ops.length 60))), (5, .pointer (some ⟨i, 0, none⟩)), (1, vl)] E4 :=
    .trans (.add (.add (.add (.add (.add (.add (.add (.nil _) rfl) rfl) rfl) rfl) rfl) rfl) rfl) y1
  -- the other loop
  have LB : ∃ E5 g5 two t', EnvLe [(13, two), (12, one), (11, .pointer (some ⟨c2, 0, none⟩)), (10, .pointer (some ⟨c1, 0, none⟩)), (7, .int .i64 (Int.ofNat (min ops.length 60))), (5, .pointer (some ⟨i, 0, none⟩)), (1, vl)] E5 ∧
      CRun Try.prog 105 false (partC Try.f7 [1, 1, 1, 1, 1, 1, 1, 1, 1, 1, 0]) E4 g4 .normal E5 g5 ∧ Tri g5 B i j t' (foldW w m2) c1 j1 t1' (foldW w m2) c2 j2 t2 w ∧ (∃ F, OneAt g5 F one (outF w m2)) ∧ ∃ F, OneAt g5 F two (outF w m2) := by
    rcases hO with ⟨rfl, hnil⟩ | ⟨o, rwo, rfl, ho, hno⟩
    · have hm0 : m2 = [] := by rw [em2, hnil]; rfl
      have hp0 : min ops.length 60 = 0 := by rw [hnil]; rfl
      rw [hp0] at e4 ⊢
      obtain ⟨E5, z1, z2⟩ := pvC 0 e4 (w29p.co_cn i c1 c2 one g4) ⟨by simp [Asm.holds], by simp [Asm.holds, cmpB], trivial⟩
      rw [hm0] at T3 hone ⊢
      exact ⟨E5, g4, .slice none 0 0, t, .trans (.add (.add (.add (.add (.add (.add (.add (.nil _) rfl) rfl) rfl) rfl) rfl) rfl) rfl) z1, z2, T3, ⟨_, hone⟩, fun _ => False, .inl ⟨rfl, rfl⟩⟩
    · have pl : plainC (loopN Try.f7 2) = true := by kernel_rfl
      obtain ⟨Eb, g5, two, t', z1, z2, z3, z4, z5, z6, z7, z8, z9⟩ := co_loopB (p := min ops.length 60) (vl := .slice (some ⟨o, 0, none⟩) ops.length 5) (vs := .slice (some ⟨o, min ops.length 60 * 5, none⟩) m2.length 5) (ex := one) (L1 := outF w m2) (w0 := w0) (pre0 := ops.take 60) (m := m2) (l := ops) (pp := min ops.length 60)
        (by omega) (by omega) hml (.inr ⟨o, rwo, rfl, ho, hno⟩) T3 ht K4 hB4 hw0 ht0 ew hone (fun q e => by
          obtain ⟨n, e⟩ := e
          rcases hone with ⟨h1, _⟩ | ⟨u, h1, h2, _⟩
          · rw [h1] at e; cases e
          · rw [h1] at e; cases e; exact get_lt h2)
      rw [hm2] at z2
      have hcut : (Asm.cut (some (.int .i64 (Int.ofNat (min ops.length 60)))) (some (.int .i64 (Int.ofNat (min ops.length 100)))) ops.length (min ops.length 60) (min ops.length 100)).holds Try.prog := a_cut2 (by omega) (by omega)
      have hz : LRun Try.prog 105 false (loopN Try.f7 2) _ g4 (.exit 4) Eb g5 := z2
      obtain ⟨E5, y1, y2⟩ := pvC 0 e4 (w29p.co_cs i (min ops.length 60) c1 c2 o ops.length (min ops.length 100) one two g4 g5)
        ⟨.inr ⟨rfl, by simp only [Int.ofNat_eq_natCast]; split <;> omega⟩, hcut, a_loop pl (.add (.add (.add (.add (.add (.add (.add (.add (.add (.add (.nil _) rfl) rfl) rfl) rfl) rfl) rfl) rfl) (by rw [Nat.zero_add]; rfl)) rfl) rfl) z1 hz, trivial⟩
      exact ⟨E5, g5, two, t', .trans (.add (.add (.add (.add (.add (.add (.add (.nil _) rfl) rfl) rfl) rfl) rfl) rfl) rfl) y1, y2, z3, ⟨_, z8⟩, _, z7⟩
  obtain ⟨E5, g5, two, t', e5, c5, T5, ⟨F1, o1⟩, F2, o2⟩ := LB
  have hm2l : m2.length ≤ 100 := by omega
  have Gv := foldW_good hw0 ht0 (ops.take 60 ++ m2) (by rw [List.length_append]; omega)
  rw [foldW_append, ← ew] at Gv
  obtain ⟨E6, y6, c6⟩ := pvC 0 e5 (w29p.co_end i (min ops.length 60) c1 c2 one two vl g5 g5 g5) ⟨equal_run o1 o2 (by omega), alike_run T5.a T5.b Gv.ok, awake_run g5, trivial⟩
  refine ⟨E6, g5, .trans (.add (.nil _) rfl) y6, ?_⟩
  exact CRunChain q2 (CRunChain (l := [_]) c3 (CRunChain (l := [_]) c4 (CRunChain (l := [_]) c5 c6)))

theorem copies_run {h : Hp} {v vl : Value} {l : List SvV} {ops : List OpV} (s : SpecV) (hS : SlAt h v l) (hO : OpsAt h vl ops) : ∃ h', Run Try.prog 7 [.agg (s.cells v).toArray, vl] h (.bool true) h' := by
  obtain ⟨r, m, wi, ba, ca⟩ := s
  let S : Value → List Value := fun v => SpecV.cells ⟨r, m, wi, ba, ca⟩ v
  let hA : Hp := h ++ [AObj.cells (S v) true]
  have KA : Keep (fun _ => False) h hA := Keep.push _ _ _
  have gb : hA[h.length]? = some (.cells (S v) true) := get_new h _
  have ld0 : (Asm.ldn (.push (.is h) (.cells (S v) true)) h.length 0 6 (S v)).holds Try.prog := a_ldn gb (by simp [S, SpecV.cells]) rfl
  obtain ⟨v', hB, r1, SB, KB⟩ := clipped_run ⟨r, m, wi, ba, ca⟩ (hS.keep KA)
  have hBl := KB.1
  simp [hA] at hBl
  rcases new_run ⟨r, m, wi, ba, ca⟩ SB with ⟨e, hD, rN, KN⟩ | ⟨e, i, j, hD, rN, KN, W, hi, hj⟩
  · exact ⟨hD, pvF 0 Try.func7 (w29p.co_bad h.length r m wi ba ca _ v v' vl h hB hD) ⟨rfl, ld0, r1, rN, neT e, awake_run _, trivial⟩⟩
  · obtain ⟨hw0, hwl, hh, hall⟩ := newW_ok e
    let w0 := newW ⟨r, m, wi, ba, ca⟩ (clipF l)
    have I0 : In hD.length i j w0 hD hD := ⟨⟨none, W, fun q e => by cases e⟩, .refl _ _, Nat.le_refl _⟩
    have hDl := KN.1
    have nf : ∀ q, q < hB.length → ¬ fpB i j hD.length q := fun q hq e => by rcases e with e | e | e <;> omega
    have pl : plainC (loopN Try.f7 0) = true := by kernel_rfl
    have hOI : OpsIn i j hD.length hD vl ops := by
      rcases hO with h1 | ⟨o, rwo, h1, h2⟩
      · exact .inl h1
      · have := get_lt h2
        exact .inr ⟨o, rwo, h1, KN.2 _ _ (KB.2 _ _ (KA.2 _ _ h2 id) id) id, nf o (by omega)⟩
    have pre : ∃ E1 g1, EnvLe [(7, .int .i64 (Int.ofNat (min ops.length 60))), (5, .pointer (some ⟨i, 0, none⟩)), (1, vl)] E1 ∧
        CRun Try.prog 105 false (chain [partC Try.f7 [0], partC Try.f7 [1, 0], partC Try.f7 [1, 1, 0], partC Try.f7 [1, 1, 1, 0], partC Try.f7 [1, 1, 1, 1, 0]]) (enterE 0 [.agg (S v).toArray, vl]) h .normal E1 g1 ∧ In hD.length i j (foldW w0 (ops.take 60)) hD g1 := by
      rcases hOI with ⟨rfl, hnil⟩ | ⟨o, rwo, rfl, ho, hno⟩
      · obtain ⟨E2, q1, q2⟩ := pvC 0 (EnvLe.refl _) (w29p.co_pren h.length i r m wi ba ca v v' h hB hD hD) ⟨rfl, ld0, r1, rN, neF rfl, by simp [Asm.holds], by simp [Asm.holds, cmpB], trivial⟩
        have hp0 : min ops.length 60 = 0 := by rw [hnil]; rfl
        rw [hp0]
        refine ⟨E2, _, .trans (.add (.add (.add (.nil _) rfl) rfl) rfl) q1, q2, ?_⟩
        rw [hnil]; exact I0
      · have htl : (ops.take 60).length = min ops.length 60 := by simp [Nat.min_comm]
        obtain ⟨E1, g1, e1, hl1, I1⟩ := copies_loop (vl := .slice (some ⟨o, 0, none⟩) ops.length 5) (m := ops.take 60) (l := ops) (p := min ops.length 60) (vs := .slice (some ⟨o, 0, none⟩) (min ops.length 60) 5) (by omega) htl (fun q x hx => by
          rw [List.getElem?_take] at hx
          split at hx
          · exact hx
          · cases hx) (.inr ⟨o, rwo, rfl, ho, hno⟩) I0 hw0 rfl
        obtain ⟨E2, q1, q2⟩ := pvC 0 (EnvLe.refl _) (w29p.co_pres h.length i r m wi ba ca v v' h hB hD g1 o ops.length (min ops.length 60))
          ⟨rfl, ld0, r1, rN, neF rfl, .inr ⟨rfl, by simp only [Int.ofNat_eq_natCast]; split <;> omega⟩, a_cut (by omega), a_loop pl (.add (.add (.add (.add (.add (.add (.nil _) rfl) rfl) rfl) rfl) rfl) rfl) e1 hl1, trivial⟩
        exact ⟨E2, _, q1, q2, I1⟩
    obtain ⟨E1, g1, e1, c1, I1⟩ := pre
    obtain ⟨E2, g2, e2, c2⟩ := copies_rest hOI I1 hw0 rfl rfl e1
    exact ⟨g2, Run.code Try.func7 body7 (.inr rfl) (CRunChain c1 c2) (evResults_one rfl (e2 4 _ rfl))⟩

end Go.Proofs.Ytkkhokgpcifckaa.wd
