import Derived.Test.YtalfgifleahabaaGreatDoorSbEvSnd6
namespace Go.Ev

/-- What is called: a function, or a round of a loop over a function. -/
inductive Tgt where
  | fn (f : FuncId)
  | round (i : Nat)

abbrev CallF := Tgt → List Value → Hp → Option (Value × Hp)

inductive Ex where
  | normal
  | ret
  | exit (id : Nat)

/-- A slot of a frame of n slots, written. -/
def putE (n : Nat) (E : Env) (dst : Option Tmp) (v : Value) : Option Env := match dst with
  | none => some E
  | some d => match Nat.blt d n with
    | true => some ((d, v) :: E)
    | false => none

def wantedO (ops : Array Oper) (E : Env) (o : Oper) : Option Bool := match o.guard with
  | none => some true
  | some (j, want) => match (ops[j]?).bind (·.dst) with
    | some d => match look E d with
      | some (.bool b) => some (b == want)
      | some (.tuple ⟨[]⟩) => some false
      | _ => none
    | none => none

/-- An operation carried out, its calls too. -/
def evStep (P : Program) (C : CallF) (h : Hp) (E : Env) (o : Oper) : Option (Value × Hp) := match evOp P h E o with
  | some (.val v h') => some (v, h')
  | some (.call f args) => C (.fn f) args h
  | some (.yield i args) => C (.round i) args h
  | none => none

def evOps (P : Program) (C : CallF) (n : Nat) (ops : Array Oper) : List Oper → Env → Hp → Option (Env × Hp)
  | [], E, h => some (E, h)
  | o :: rest, E, h => match wantedO ops E o with
    | some true => match evStep P C h E o with
      | some (v, h') => match putE n E o.dst v with
        | some E' => evOps P C n ops rest E' h'
        | none => none
      | none => none
    | some false => match putE n E o.dst undef with
      | some E' => evOps P C n ops rest E' h
      | none => none
    | none => none

end Go.Ev
