import Derived.Test.YtalfgifleahabaaGreatDoorSbEvCode
import Derived.Test.YtalfgifleahabaaGreatDoorSbEvEqv
namespace Go.Ev

/-! ### Code that may end in a panic, and functions that defer one closure which recovers (definitions; soundness: not yet)
  D: what a call that panics comes to: the value, and the heap. 'ds': the closures that were deferred, the last first. -/
abbrev PanF := FuncId → List Value → Hp → Option (Value × Hp)

inductive PX where
  | go (x : Ex) (E : Env) (h : Hp) (ds : List (Value × List Value))
  | pan (v : Value) (E : Env) (h : Hp) (ds : List (Value × List Value))

def panO : Op → Option Operand
  | .panic x => some x
  | _ => none
def deferO : Op → Option Call
  | .defer c => some c
  | _ => none

/-- Where a laid variable lies. -/
def findG : Hp → Nat → Nat → Option Nat
  | [], _, _ => none
  | .glob k _ :: r, g, i => match Nat.beq k g with
    | true => some i
    | false => findG r g (i + 1)
  | _ :: r, g, i => findG r g (i + 1)
def evLoadG (P : Program) (h : Hp) (t : TypeId) : Value → Option Value
  | .pointer (some ⟨i, off, none⟩) => match h[i]? with
    | some (.glob _ c) => match aggSize P t with
      | some none => c[off]?
      | _ => none
    | _ => none
  | _ => none
/-- A part of a laid variable: its address, and what it holds. -/
def globO (P : Program) (h : Hp) (E : Env) (o : Oper) : Option Value := match o.op with
  | .indexAddr t (.global g) ix => match evalO E ix, findG h g 0 with
    | some v, some i => evIndexAddr P t (.pointer (some ⟨i, 0, none⟩)) v
    | _, _ => none
  | .load t x => match evalO E x with
    | some v => evLoadG P h t v
    | none => none
  | _ => none

/-- A frame without what is hidden (b: the slots seen). -/
def cleanE : Nat → Env → Env
  | _, [] => []
  | b, (k, v) :: E => match Nat.testBit b k with
    | true => cleanE b E
    | false => (k, v) :: cleanE (Nat.lor b (Nat.shiftLeft 1 k)) E

def evXOps (P : Program) (C : CallF) (D : PanF) (n : Nat) (ops : Array Oper) : List Oper → Env → Hp → List (Value × List Value) → Option PX
  | [], E, h, ds => some (.go .normal E h ds)
  | o :: rest, E, h, ds => match wantedO ops E o with
    | some false => match putE n E o.dst undef with
      | some E' => evXOps P C D n ops rest E' h ds
      | none => none
    | none => none
    | some true => match panO o.op with
      | some x => match evalO E x with
        | some (.iface t v) => some (.pan (.iface t v) E h ds)
        | _ => none
      | none => match deferO o.op with
        | some c => match c.callee with
          | .value f => match evalO E f, evalL E c.args.toList with
            | some (.func (.func g) p q), some l => match putE n E o.dst undef with
              | some E' => evXOps P C D n ops rest E' h ((.func (.func g) p q, l) :: ds)
              | none => none
            | _, _ => none
          | _ => none
        | none => match evStep P C h E o with
          | some (v, h') => match putE n E o.dst v with
            | some E' => evXOps P C D n ops rest E' h' ds
            | none => none
          | none => match globO P h E o with
            | some v => match putE n E o.dst v with
              | some E' => evXOps P C D n ops rest E' h ds
              | none => none
            | none => match evOp P h E o with
              | some (.call f args) => match D f args h with
                | some (v, h') => some (.pan v E h' ds)
                | none => none
              | _ => none

/-! A region whose order is drawn, in which a call panics: the call is taken as one that answers what is no value; then nothing else may depend on the order. -/
def badV : Value := .slice none 1 0
def fakeV (P : Program) (f : FuncId) : Value := match P.funcs[f]? with
  | some fn => match fn.resultTypes.toList with
    | [t] => match aggSize P t with
      | some (some n) => .agg (List.replicate n badV).toArray
      | _ => badV
    | ts => .tuple (ts.map fun _ => badV).toArray
  | none => badV
def isBad : Value → Bool
  | .slice none 1 0 => true
  | .agg ⟨.slice none 1 0 :: _⟩ => true
  | .tuple ⟨.slice none 1 0 :: _⟩ => true
  | _ => false
def fakeC (P : Program) (C : CallF) (D : PanF) (v0 : Value) (h0 : Hp) : CallF := fun t a h => match C t a h with
  | some r => some r
  | none => match t with
    | .fn f => match D f a h with
      | some (v, h1) => match eqV 20 v v0 && eqHp 20 h1 h0 with
        | true => some (fakeV P f, h)
        | false => none
      | none => none
    | .round _ => none
def findP (P : Program) (C : CallF) (D : PanF) (n : Nat) (ops : Array Oper) : List Oper → Env → Hp → Option (Value × Hp × Option Tmp)
  | [], _, _ => none
  | o :: l, E, h => match stepO P C ops o E h with
    | some (v, h') => match putE n E o.dst v with
      | some E' => findP P C D n ops l E' h'
      | none => none
    | none => match evOp P h E o with
      | some (.call f args) => match D f args h with
        | some (v, h1) => some (v, h1, o.dst)
        | none => none
      | _ => none
def dropE (ops : Array Oper) : Env → Env
  | [] => []
  | (k, v) :: E => match ops.toList.any (writes · k) with
    | true => dropE ops E
    | false => (k, v) :: dropE ops E
def evDrawX (P : Program) (C : CallF) (D : PanF) (n : Nat) (ops : Array Oper) (E : Env) (h : Hp) (ds : List (Value × List Value)) : Option PX := match findP P C D n ops ops.toList E h with
  | some (v0, h1, some d) => match evDraw P (fakeC P C D v0 h1) n ops E h with
    | some (E', _) => match look E' d with
      | some x => match isBad x with
        | true => some (.pan v0 (dropE ops E) h1 ds)
        | false => none
      | none => none
    | none => none
  | _ => none

def evXLoop (body : Env → Hp → List (Value × List Value) → Option PX) : Nat → Env → Hp → List (Value × List Value) → Option PX
  | 0, _, _, _ => none
  | k + 1, E, h, ds => match body E h ds with
    | some (.go .normal E' h' ds') => evXLoop body k (cleanE 0 E') h' ds'
    | r => r

def evXCode (P : Program) (C : CallF) (D : PanF) (k n : Nat) : Code → Env → Hp → List (Value × List Value) → Option PX
  | .skip, E, h, ds => some (.go .normal E h ds)
  | .label _, E, h, ds => some (.go .normal E h ds)
  | .ret, E, h, ds => some (.go .ret E h ds)
  | .exit id, E, h, ds => some (.go (.exit id) E h ds)
  | .seq a b, E, h, ds => match evXCode P C D k n a E h ds with
    | some (.go .normal E' h' ds') => evXCode P C D k n b E' h' ds'
    | r => r
  | .cond c x y, E, h, ds => match evalO E c with
    | some (.bool true) => evXCode P C D k n x E h ds
    | some (.bool false) => evXCode P C D k n y E h ds
    | _ => none
  | .block id b, E, h, ds => match evXCode P C D k n b E h ds with
    | some (.go (.exit j) E' h' ds') => match Nat.beq j id with
      | true => some (.go .normal E' h' ds')
      | false => some (.go (.exit j) E' h' ds')
    | r => r
  | .loop b, E, h, ds => evXLoop (evXCode P C D k n b) k E h ds
  | .scope b, E, h, ds => evXCode P C D k n b E h ds
  | .region _ ops false, E, h, ds => evXOps P C D n ops ops.toList E h ds
  | .region _ ops true, E, h, ds => match evDraw P C n (drawOps ops) E h with
    | some (E', h') => some (.go .normal E' h' ds)
    | none => evDrawX P C D n (drawOps ops) E h ds
  | _, _, _, _ => none

/-- The body of a deferred closure: recover first, then the rest. (What is recovered: the panic's value, or nil.) -/
def recO (o : Oper) : Bool := match o.op, o.guard with
  | .call c, none => match c.callee with
    | .builtin .recover => true
    | _ => false
  | _, _ => false
def noPan : PanF := fun _ _ _ => none
def evRec (P : Program) (C : CallF) (k n : Nat) (pv : Value) : Code → Env → Hp → Option PX
  | .seq a b, E, h => match a with
    | .region _ ⟨[o]⟩ false => match recO o with
      | true => match putE n E o.dst pv with
        | some E' => evXCode P C noPan k n b E' h []
        | none => none
      | false => none
    | _ => match evRec P C k n pv a E h with
      | some (.go .normal E' h' []) => evXCode P C noPan k n b E' h' []
      | _ => none
  | _, _, _ => none

/-- A deferred closure that returns. -/
def evDeferred (P : Program) (C : CallF) (k : Nat) (fv : Value) (args : List Value) (pv : Value) (h : Hp) : Option Hp := match fv with
  | .func (.func g) first captured => match P.funcs[g]? with
    | some fn => match fn.body with
      | some c => match evRec P C k ((first.toList ++ args ++ captured.toList).length + (fn.ntmps - (first.toList ++ args ++ captured.toList).length)) pv c (enterE 0 (first.toList ++ args ++ captured.toList)) h with
        | some (.go .normal E' h' []) => match evResults P fn E' h' with
          | some _ => some h'
          | none => none
        | some (.go .ret E' h' []) => match evResults P fn E' h' with
          | some _ => some h'
          | none => none
        | _ => none
      | none => none
    | none => none
  | _ => none

/-- What a call comes to: 'true' and a value, or 'false' and that with which it panics. -/
abbrev XF := Tgt → List Value → Hp → Option (Bool × Value × Hp)
def okX (X : XF) : CallF := fun t a h => match X t a h with
  | some (true, r) => some r
  | _ => none
def panX (X : XF) : PanF := fun f a h => match X (.fn f) a h with
  | some (false, r) => some r
  | _ => none
def retX : Option (Value × Hp) → Option (Bool × Value × Hp)
  | some r => some (true, r)
  | none => none

def evLeave (P : Program) (C : CallF) (k : Nat) (fn : Func) (E : Env) (h1 : Hp) (fv : Value) (l : List Value) (pv : Value) : Option (Value × Hp) := match evDeferred P C k fv l pv h1 with
  | some h2 => match evResults P fn E h2 with
    | some v => some (v, h2)
    | none => none
  | none => none
def evGo (P : Program) (fn : Func) (E : Env) (h1 : Hp) : Option (Value × Hp) := match evResults P fn E h1 with
  | some v => some (v, h1)
  | none => none

/-- A function that defers nothing, or one closure, which recovers; it may panic. -/
def evGuard (P : Program) (C : CallF) (D : PanF) (k : Nat) (f : FuncId) (args : List Value) (h : Hp) : Option (Bool × Value × Hp) := match P.funcs[f]? with
  | some fn => match fn.body with
    | some c => match evXCode P C D k (args.length + (fn.ntmps - args.length)) c (enterE 0 args) h [] with
      | some (.go .normal E h1 []) => retX (evGo P fn E h1)
      | some (.go .ret E h1 []) => retX (evGo P fn E h1)
      | some (.go .normal E h1 [(fv, l)]) => retX (evLeave P C k fn E h1 fv l .nilIface)
      | some (.go .ret E h1 [(fv, l)]) => retX (evLeave P C k fn E h1 fv l .nilIface)
      | some (.pan v E h1 [(fv, l)]) => retX (evLeave P C k fn E h1 fv l v)
      | some (.pan v _ h1 []) => some (false, v, h1)
      | _ => none
    | none => none
  | none => none

end Go.Ev
