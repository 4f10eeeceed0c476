import Derived.Test.YtalfgifleahabaaGreatDoorSbEvHeap
namespace Go.Ev

/-- Values that are told apart (not all of them: 'false' says nothing). -/
def eqN : List Nat → List Nat → Bool
  | [], [] => true
  | x :: l, y :: r => match Nat.beq x y with
    | true => eqN l r
    | false => false
  | _, _ => false
def eqI : Int → Int → Bool
  | .ofNat a, .ofNat b => Nat.beq a b
  | .negSucc a, .negSucc b => Nat.beq a b
  | _, _ => false
def eqA : Addr → Addr → Bool
  | ⟨i, o, none⟩, ⟨j, q, none⟩ => Nat.beq i j && Nat.beq o q
  | _, _ => false
def eqVs (e : Value → Value → Bool) : List Value → List Value → Bool
  | [], [] => true
  | x :: l, y :: r => match e x y with
    | true => eqVs e l r
    | false => false
  | _, _ => false
def eqK : IntKind → IntKind → Bool := fun a b => decide (a = b)
def eqV : Nat → Value → Value → Bool
  | 0, _, _ => false
  | k + 1, x, y => match x, y with
    | .bool a, .bool b => a == b
    | .int a n, .int b j => eqK a b && eqI n j
    | .string ⟨⟨a⟩⟩, .string ⟨⟨b⟩⟩ => eqN (a.map UInt8.toNat) (b.map UInt8.toNat)
    | .pointer none, .pointer none => true
    | .pointer (some a), .pointer (some b) => eqA a b
    | .slice none n z, .slice none j q => Nat.beq n j && Nat.beq z q
    | .slice (some a) n z, .slice (some b) j q => eqA a b && (Nat.beq n j && Nat.beq z q)
    | .map none, .map none => true
    | .map (some a), .map (some b) => Nat.beq a b
    | .nilFunc, .nilFunc => true
    | .func (.func f) ⟨a⟩ ⟨b⟩, .func (.func g) ⟨c⟩ ⟨d⟩ => Nat.beq f g && (eqVs (eqV k) a c && eqVs (eqV k) b d)
    | .nilIface, .nilIface => true
    | .iface t a, .iface u b => Nat.beq t u && eqV k a b
    | .agg ⟨a⟩, .agg ⟨b⟩ => eqVs (eqV k) a b
    | .tuple ⟨a⟩, .tuple ⟨b⟩ => eqVs (eqV k) a b
    | _, _ => false
def eqEs (k : Nat) : List (Value × Value) → List (Value × Value) → Bool
  | [], [] => true
  | (x, u) :: l, (y, v) :: r => match eqV k x y && eqV k u v with
    | true => eqEs k l r
    | false => false
  | _, _ => false
def eqObj (k : Nat) : AObj → AObj → Bool
  | .dead, .dead => true
  | .cells c a, .cells d b => (a == b) && eqVs (eqV k) c d
  | .mp a, .mp b => eqEs k a b
  | .glob g c, .glob j d => Nat.beq g j && eqVs (eqV k) c d
  | _, _ => false
def eqHp (k : Nat) : Hp → Hp → Bool
  | [], [] => true
  | x :: l, y :: r => match eqObj k x y with
    | true => eqHp k l r
    | false => false
  | _, _ => false

end Go.Ev
