import Derived.Test.YtalfgifleahabaaGreatDoorSbEvPan
namespace Go.Ev

/-! ### Calls over a table: what is known of some calls already, and functions that panic, or defer a closure which recovers -/

/-- A call known: of this function, over these arguments, in this heap. -/
def tabO (F : FuncId) (args : List Value) (h : Hp) (r : Value) (h' : Hp) : CallF := fun t a hh => match t with
  | .fn f => match Nat.beq f F with
    | true => match eqVs (eqV 20) a args with
      | true => match eqHp 20 hh h with
        | true => some (r, h')
        | false => none
      | false => none
    | false => none
  | .round _ => none

/-- The same heap, but that some of its objects are not looked at any more. -/
def leHp (k : Nat) : Hp → Hp → Bool
  | [], [] => true
  | x :: l, y :: r => match x with
    | .dead => leHp k l r
    | _ => match eqObj k x y with
      | true => leHp k l r
      | false => false
  | _, _ => false
/-- What a call comes to, held against what the table says. -/
def tabOk (o : Option (Bool × Value × Hp)) (r : Value) (h' : Hp) : Bool := match o with
  | some (true, v, h1) => match eqV 20 v r with
    | true => leHp 20 h' h1
    | false => false
  | _ => false
def newOk (o : Option (Bool × Value × Hp)) (n z : Nat) (cs : List Value) : Bool := match o with
  | some (true, .slice (some ⟨i, 0, none⟩) k y, h1) => match h1[i]? with
    | some (.cells c true) => Nat.beq k n && (Nat.beq y z && eqVs (eqV 20) c cs)
    | _ => false
  | _ => false

/-- A call known that takes nothing: it reads one laid variable, and comes back with a new slice. -/
def newT (F g : Nat) (c : List Value) (n z : Nat) (cs : List Value) : CallF := fun t a hh => match t with
  | .fn f => match Nat.beq f F with
    | true => match a with
      | [] => match findG hh g 0 with
        | some i => match hh[i]? with
          | some (.glob _ d) => match eqVs (eqV 20) d c with
            | true => some (.slice (some ⟨hh.length, 0, none⟩) n z, hh ++ [.cells cs true])
            | false => none
          | _ => none
        | none => none
      | _ => none
    | false => none
  | .round _ => none

def noT : CallF := fun _ _ _ => none
def orT (A B : CallF) : CallF := fun t a h => match A t a h with
  | some r => some r
  | none => B t a h

/-- A call: known, or run. (R: the functions that range over functions.) -/
def evX (P : Program) (R : FuncId → Bool) (T : CallF) : Nat → XF
  | 0, _, _, _ => none
  | k + 1, .fn f, args, h => match T (.fn f) args h with
    | some r => some (true, r)
    | none => match bodyless P f with
      | true => retX (externO P f args h)
      | false => match R f with
        | true => retX (evBody P (okX (evX P R T k)) k f args h)
        | false => evGuard P (okX (evX P R T k)) (panX (evX P R T k)) k f args h
  | k + 1, .round i, args, h => retX (evRound P (okX (evX P R T k)) k i args h)

end Go.Ev
