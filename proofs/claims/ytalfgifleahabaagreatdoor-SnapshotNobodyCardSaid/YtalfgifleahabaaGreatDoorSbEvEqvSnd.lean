import Derived.Test.YtalfgifleahabaaGreatDoorSbEvEqv
namespace Go.Ev
open Go.RowKit

theorem eqN_eq : ∀ (l r : List Nat), eqN l r = true → l = r
  | [], [], _ => rfl
  | x :: l, y :: r, h => by
    simp only [eqN] at h
    split at h
    · rename_i hb; rw [Nat.eq_of_beq_eq_true hb, eqN_eq l r h]
    · cases h
  | [], _ :: _, h => by cases h
  | _ :: _, [], h => by cases h
theorem eqI_eq : ∀ (a b : Int), eqI a b = true → a = b
  | .ofNat a, .ofNat b, h => by rw [Nat.eq_of_beq_eq_true h]
  | .negSucc a, .negSucc b, h => by rw [Nat.eq_of_beq_eq_true h]
  | .ofNat _, .negSucc _, h => by cases h
  | .negSucc _, .ofNat _, h => by cases h
theorem eqA_eq : ∀ (a b : Addr), eqA a b = true → a = b
  | ⟨i, o, none⟩, ⟨j, q, none⟩, h => by
    simp only [eqA, Bool.and_eq_true] at h
    rw [Nat.eq_of_beq_eq_true h.1, Nat.eq_of_beq_eq_true h.2]
  | ⟨_, _, some _⟩, _, h => by simp [eqA] at h
  | ⟨_, _, none⟩, ⟨_, _, some _⟩, h => by simp [eqA] at h
theorem eqVs_eq {e : Value → Value → Bool} (he : ∀ x y, e x y = true → x = y) : ∀ (l r : List Value), eqVs e l r = true → l = r
  | [], [], _ => rfl
  | x :: l, y :: r, h => by
    simp only [eqVs] at h
    split at h
    · rename_i hb; rw [he _ _ hb, eqVs_eq he l r h]
    · cases h
  | [], _ :: _, h => by cases h
  | _ :: _, [], h => by cases h
theorem eqU_eq (l r : List UInt8) (h : l.map UInt8.toNat = r.map UInt8.toNat) : l = r :=
  List.map_inj_right (fun _ _ hxy => UInt8.toNat_inj.1 hxy) |>.1 h
theorem eqV_eq : ∀ (k : Nat) (x y : Value), eqV k x y = true → x = y
  | 0, x, y, h => by simp [eqV] at h
  | k + 1, x, y, h => by
    have ih := eqVs_eq (eqV_eq k)
    unfold eqV at h
    split at h
    · simp at h; rw [h]
    · simp only [Bool.and_eq_true] at h; rw [of_decide_eq_true h.1, eqI_eq _ _ h.2]
    · rw [eqU_eq _ _ (eqN_eq _ _ h)]
    · rfl
    · rw [eqA_eq _ _ h]
    · simp only [Bool.and_eq_true] at h; rw [Nat.eq_of_beq_eq_true h.1, Nat.eq_of_beq_eq_true h.2]
    · simp only [Bool.and_eq_true] at h; rw [eqA_eq _ _ h.1, Nat.eq_of_beq_eq_true h.2.1, Nat.eq_of_beq_eq_true h.2.2]
    · rfl
    · rw [Nat.eq_of_beq_eq_true h]
    · rfl
    · simp only [Bool.and_eq_true] at h; rw [Nat.eq_of_beq_eq_true h.1, ih _ _ h.2.1, ih _ _ h.2.2]
    · rfl
    · simp only [Bool.and_eq_true] at h; rw [Nat.eq_of_beq_eq_true h.1, eqV_eq k _ _ h.2]
    · rw [ih _ _ h]
    · rw [ih _ _ h]
    · cases h
theorem eqEs_eq (k : Nat) : ∀ (l r : List (Value × Value)), eqEs k l r = true → l = r
  | [], [], _ => rfl
  | (x, u) :: l, (y, v) :: r, h => by
    simp only [eqEs] at h
    split at h
    · rename_i hb
      simp only [Bool.and_eq_true] at hb
      rw [eqV_eq k _ _ hb.1, eqV_eq k _ _ hb.2, eqEs_eq k l r h]
    · cases h
  | [], _ :: _, h => by cases h
  | _ :: _, [], h => by cases h
theorem eqObj_eq (k : Nat) : ∀ (x y : AObj), eqObj k x y = true → x = y := by
  intro x y h
  unfold eqObj at h
  split at h
  · rfl
  · simp only [Bool.and_eq_true, beq_iff_eq] at h; rw [h.1, eqVs_eq (eqV_eq k) _ _ h.2]
  · rw [eqEs_eq k _ _ h]
  · simp only [Bool.and_eq_true] at h; rw [Nat.eq_of_beq_eq_true h.1, eqVs_eq (eqV_eq k) _ _ h.2]
  · cases h
theorem eqHp_eq (k : Nat) : ∀ (l r : Hp), eqHp k l r = true → l = r
  | [], [], _ => rfl
  | x :: l, y :: r, h => by
    simp only [eqHp] at h
    split at h
    · rename_i hb; rw [eqObj_eq k _ _ hb, eqHp_eq k l r h]
    · cases h
  | [], _ :: _, h => by cases h
  | _ :: _, [], h => by cases h

end Go.Ev
