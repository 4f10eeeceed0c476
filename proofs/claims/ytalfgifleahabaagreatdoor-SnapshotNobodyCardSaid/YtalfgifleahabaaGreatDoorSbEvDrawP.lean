import Derived.Test.YtalfgifleahabaaGreatDoorSbEvDrawA
import Derived.OrdersIn
namespace Go.Ev
open Go.RowKit

variable {P : Program} {F : Fence} {nn : Nat} {ops : Array Oper} {π : List Nat} {Q : Exit → Act → World → Prop}

theorem posOf_get : ∀ {π : List Nat} {j : Nat}, posOf π j < π.length → π[posOf π j]? = some j
  | [], j, h => by simp at h
  | x :: l, j, h => by
    unfold posOf at h ⊢
    cases hb : Nat.beq x j with
    | true => simp [Nat.eq_of_beq_eq_true hb]
    | false =>
      rw [hb] at h
      simp only [List.length_cons] at h
      simp only [List.getElem?_cons_succ]
      exact posOf_get (by omega)
theorem posOf_none : ∀ {π : List Nat} {j : Nat}, j ∉ π → posOf π j = π.length
  | [], j, h => rfl
  | x :: l, j, h => by
    simp only [List.mem_cons, not_or] at h
    unfold posOf
    cases hb : Nat.beq x j with
    | true => exact absurd (Nat.eq_of_beq_eq_true hb).symm h.1
    | false => simp only [List.length_cons]; rw [posOf_none h.2]

structure PermOk (π : List Nat) (n : Nat) : Prop where
  len : π.length = n
  lt : ∀ i, i < n → ∃ j, π[i]? = some j ∧ j < n ∧ posOf π j = i
  pos : ∀ j, j < n → posOf π j < n ∧ π[posOf π j]? = some j
  out : ∀ j, n ≤ j → posOf π j = n

theorem permOk_spec {n : Nat} (h : permOk π n = true) : PermOk π n := by
  unfold permOk at h
  simp only [Bool.and_eq_true, List.all_eq_true, List.mem_range] at h
  obtain ⟨⟨h1, h2⟩, h3⟩ := h
  have hl := Nat.eq_of_beq_eq_true h1
  have lt : ∀ i, i < n → ∃ j, π[i]? = some j ∧ j < n ∧ posOf π j = i := fun i hi => by
    obtain ⟨k1, k2⟩ := h2 i hi
    have hi' : i < π.length := by omega
    have e : π.getD i 0 = π[i] := by simp [List.getD_eq_getElem?_getD, hi']
    rw [e] at k1 k2
    exact ⟨_, List.getElem?_eq_getElem hi', Nat.le_of_ble_eq_true k1, Nat.eq_of_beq_eq_true k2⟩
  refine ⟨hl, lt, fun j hj => ?_, fun j hj => ?_⟩
  · have := Nat.le_of_ble_eq_true (h3 j hj)
    exact ⟨this, posOf_get (by omega)⟩
  · rw [posOf_none, hl]
    intro hm
    obtain ⟨i, hi, e⟩ := List.mem_iff_getElem.1 hm
    obtain ⟨j', e1, e2, _⟩ := lt i (by omega)
    rw [List.getElem?_eq_getElem hi] at e1
    simp only [Option.some.injEq] at e1
    omega

theorem permOps_size : (permOps π ops).size = π.length := by simp [permOps]
theorem permOps_get (hp : PermOk π ops.size) {j : Nat} {o : Oper} (ho : ops[j]? = some o) : (permOps π ops)[posOf π j]? = some (relab π o) := by
  obtain ⟨hj, e⟩ := Array.getElem?_eq_some_iff.1 ho
  obtain ⟨h1, h2⟩ := hp.pos j hj
  simp only [permOps, List.getElem?_toArray, List.getElem?_map, h2, Option.map_some, Option.some.injEq]
  congr 1
  simp [Array.getD, hj, e]
theorem permOps_back (hp : PermOk π ops.size) {i : Nat} {o : Oper} (ho : (permOps π ops)[i]? = some o) : ∃ j x, posOf π j = i ∧ ops[j]? = some x ∧ o = relab π x := by
  have hi : i < ops.size := by rw [← hp.len, ← permOps_size (ops := ops)]; exact (Array.getElem?_eq_some_iff.1 ho).1
  obtain ⟨j, e1, e2, e3⟩ := hp.lt i hi
  refine ⟨j, ops[j], e3, Array.getElem?_eq_getElem e2, ?_⟩
  have := permOps_get hp (Array.getElem?_eq_getElem e2)
  rw [e3, ho] at this
  simpa using this

theorem yielded_perm (hp : PermOk π ops.size) (tmps : Array Value) (j : Nat) : yielded (permOps π ops) tmps (posOf π j) = yielded ops tmps j := by
  unfold yielded
  rcases Nat.lt_or_ge j ops.size with hj | hj
  · rw [permOps_get hp (Array.getElem?_eq_getElem hj), Array.getElem?_eq_getElem hj]
    rfl
  · rw [hp.out j hj, Array.getElem?_eq_none hj, Array.getElem?_eq_none (by rw [permOps_size, hp.len]; exact Nat.le_refl _)]
theorem wanted_perm (hp : PermOk π ops.size) (tmps : Array Value) (o : Oper) : Region.wanted (relab π o) (yielded (permOps π ops) tmps) = Region.wanted o (yielded ops tmps) := by
  unfold Region.wanted
  cases hg : o.guard with
  | none => simp [relab, relabG, hg]
  | some g =>
    obtain ⟨j, b⟩ := g
    simp [relab, relabG, hg, yielded_perm hp]

theorem relab_wp {o : Oper} {a : Act} {w : World} {K : Act → World → Prop} : (relab π o).wpIn F nn P a w K Q ↔ o.wpIn F nn P a w K Q := by
  have e1 : (relab π o).about P w a.eval = o.about P w a.eval := rfl
  have e2 : (relab π o).semAt F.round a.eval = o.semAt F.round a.eval := rfl
  have e3 : ∀ r, (relab π o).uponIn F nn P a K Q r = o.uponIn F nn P a K Q r := fun r => by
    cases r with
    | ok x w => cases x <;> rfl
    | halt x w => cases x <;> rfl
  unfold Oper.wpIn
  rw [e1, e2, e3]

theorem wpOp_perm (hp : PermOk π ops.size) {j : Nat} {a : Act} {w : World} {K : Act → World → Prop} (h : wpOpIn F nn P (permOps π ops) Q (posOf π j) K a w) : wpOpIn F nn P ops Q j K a w := by
  unfold wpOpIn at h ⊢
  cases ho : ops[j]? with
  | none =>
    have hj : ops.size ≤ j := Array.getElem?_eq_none_iff.1 ho
    rw [hp.out j hj, Array.getElem?_eq_none (by rw [permOps_size, hp.len]; exact Nat.le_refl _)] at h
    exact h
  | some o =>
    rw [permOps_get hp ho] at h
    simp only [wanted_perm hp] at h ⊢
    split at h
    · rename_i hw; rw [if_pos hw]; exact relab_wp.1 h
    · rename_i hw; rw [if_neg hw]; exact h

def SameL (π : List Nat) (n : Nat) (L L' : Array Bool) : Prop := L.size = n ∧ L'.size = n ∧ ∀ j, j < n → L'.getD (posOf π j) false = L.getD j false

theorem SameL.all {n : Nat} {L L' : Array Bool} (hp : PermOk π n) (s : SameL π n L L') (j : Nat) : L'.getD (posOf π j) false = L.getD j false := by
  rcases Nat.lt_or_ge j n with hj | hj
  · exact s.2.2 j hj
  · rw [hp.out j hj]
    have h1 : L.size ≤ j := by rw [s.1]; exact hj
    have h2 : L'.size ≤ n := by rw [s.2.1]; exact Nat.le_refl _
    simp [Array.getD_eq_getD_getElem?, h1, h2]

theorem SameL.ready {L L' : Array Bool} (hp : PermOk π ops.size) (s : SameL π ops.size L L') {j : Nat} (hr : j ∈ Region.ready .any ops L) : posOf π j ∈ Region.ready .any (permOps π ops) L' := by
  obtain ⟨h1, o, ho, h2⟩ := mem_ready.1 hr
  have hj := (Array.getElem?_eq_some_iff.1 ho).1
  obtain ⟨q1, _⟩ := hp.pos j hj
  refine mem_ready.2 ⟨?_, relab π o, permOps_get hp ho, fun e he hb => ?_⟩
  · have := s.2.2 j hj
    have l1 : j < L.size := by rw [s.1]; exact hj
    have l2 : posOf π j < L'.size := by rw [s.2.1]; exact q1
    simp [Array.getD_eq_getD_getElem?, l1, l2] at this h1 ⊢
    rw [this, h1]
  · simp only [relab, List.mem_toArray, List.mem_map] at he
    obtain ⟨e0, he0, rfl⟩ := he
    rw [s.all hp]
    exact h2 e0 (by simpa using he0) hb
theorem SameL.none {L L' : Array Bool} (hp : PermOk π ops.size) (s : SameL π ops.size L L') (hr : Region.ready .any ops L = []) : Region.ready .any (permOps π ops) L' = [] := by
  cases hl : Region.ready .any (permOps π ops) L' with
  | nil => rfl
  | cons i r =>
    have hi : i ∈ Region.ready .any (permOps π ops) L' := by rw [hl]; simp
    obtain ⟨h1, o, ho, h2⟩ := mem_ready.1 hi
    obtain ⟨j, x, rfl, hx, rfl⟩ := permOps_back hp ho
    have hj := (Array.getElem?_eq_some_iff.1 hx).1
    have : j ∈ Region.ready .any ops L := by
      refine mem_ready.2 ⟨?_, x, hx, fun e he hb => ?_⟩
      · have := s.2.2 j hj
        have l1 : j < L.size := by rw [s.1]; exact hj
        have l2 : posOf π j < L'.size := by rw [s.2.1]; exact (hp.pos j hj).1
        simp [Array.getD_eq_getD_getElem?, l1, l2] at this h1 ⊢
        rw [← this, h1]
      · have := h2 { e with on := posOf π e.on } (by
          simp only [relab, List.mem_toArray, List.mem_map]
          exact ⟨e, by simpa using he, rfl⟩) hb
        rwa [s.all hp] at this
    rw [hr] at this; cases this
theorem SameL.set {L L' : Array Bool} {n : Nat} (hp : PermOk π n) (s : SameL π n L L') {j : Nat} (hj : j < n) : SameL π n (L.setIfInBounds j true) (L'.setIfInBounds (posOf π j) true) := by
  refine ⟨by simp [s.1], by simp [s.2.1], fun k hk => ?_⟩
  have l1 : j < L.size := by rw [s.1]; exact hj
  have l2 : posOf π j < L'.size := by rw [s.2.1]; exact (hp.pos j hj).1
  have hk' := s.2.2 k hk
  by_cases e : k = j
  · subst e
    simp [Array.getD_eq_getD_getElem?, l1, l2]
  · have e' : posOf π k ≠ posOf π j := fun h => by
      have h1 := (hp.pos k hk).2
      have h2 := (hp.pos j hj).2
      rw [h, h2] at h1
      simp only [Option.some.injEq] at h1
      exact e h1.symm
    simp [Array.getD_eq_getD_getElem?, Ne.symm e, Ne.symm e'] at hk' ⊢
    exact hk'

theorem wpAny_perm (hp : PermOk π ops.size) : ∀ (fuel : Nat) {L L' : Array Bool} {a : Act} {w : World}, SameL π ops.size L L' → wpAnyIn F nn P .any (permOps π ops) Q fuel L' a w → wpAnyIn F nn P .any ops Q fuel L a w
  | 0, L, L', a, w, s, h => by
    refine ⟨?_, h.2⟩
    cases hl : Region.ready .any ops L with
    | nil => rfl
    | cons j r =>
      have := s.ready hp (j := j) (by rw [hl]; simp)
      rw [h.1] at this; cases this
  | fuel + 1, L, L', a, w, s, h => by
    refine ⟨fun hr => h.1 (s.none hp hr), fun j hj => ?_⟩
    obtain ⟨_, o, ho, _⟩ := mem_ready.1 hj
    have hj' := (Array.getElem?_eq_some_iff.1 ho).1
    exact wpOpIn_mono (fun a w => wpAny_perm hp fuel (s.set hp hj')) (wpOp_perm hp (h.2 _ (s.ready hp hj)))

end Go.Ev
