import Derived.Test.YtalfgifleahabaaGreatDoorSbEvRun
namespace Go.Ev

/-- Kinds of operations: of values alone; that read memory; that make an object; all others. -/
inductive Kd where
  | pure | read | alloc | major

def kindOf (o : Oper) : Kd := match o.op with
  | .move _ | .assign _ | .pick .. | .build .. | .nilCheck _ | .makeInterface .. | .makeFunc .. | .fieldAddr .. | .field .. | .indexAddr .. | .index .. | .slice .. | .extract ..
  | .typeAssert .. | .unOp .. | .convert .. => .pure
  | .call c => match c.callee with
    | .builtin .len | .builtin .min | .builtin .max => .pure
    | _ => .major
  | .binOp .. | .load .. | .lookup .. => .read
  | .alloc _ | .box .. | .buildSlice .. | .makeSlice .. | .makeMap .. => .alloc
  | _ => .major

def tmpsOf : List Operand → List Nat
  | [] => []
  | .tmp t :: l => t :: tmpsOf l
  | _ :: l => tmpsOf l

/-- The slots that an operation looks at. -/
def readsOf (ops : Array Oper) (o : Oper) : List Nat := (match o.guard with
  | some (j, _) => match (ops[j]?).bind (·.dst) with
    | some d => [d]
    | none => []
  | none => []) ++ tmpsOf o.op.operands.toList

def memN (d : Nat) : List Nat → Bool
  | [] => false
  | x :: l => match Nat.beq x d with
    | true => true
    | false => memN d l

def writes (o : Oper) (d : Nat) : Bool := match o.dst with
  | some x => Nat.beq x d
  | none => false

/-- Two operations that may not change places. -/
def bound (ops : Array Oper) (x y : Oper) : Bool :=
  (match x.dst with
    | some d => memN d (readsOf ops y) || writes y d
    | none => false) ||
  (match y.dst with
    | some d => memN d (readsOf ops x)
    | none => false) ||
  (match kindOf x, kindOf y with
    | .major, .major | .major, .alloc => true
    | _, _ => false)

/-- Which operations must come ahead of each: one number a place, a bit an operation. -/
def ancs : List Oper → List Nat → List Nat
  | [], acc => acc
  | o :: l, acc => ancs l (acc ++ [o.after.toList.foldl (fun s e => match Region.binds .any e with
    | true => s ||| 2 ^ e.on ||| acc.getD e.on 0
    | false => s) 0])

def anc (an : List Nat) (i j : Nat) : Bool := Nat.testBit (an.getD j 0) i

def edgesOk (o : Oper) (j : Nat) : Bool := o.after.toList.all fun e => match Region.binds .any e with
  | true => Nat.blt e.on j
  | false => true

def pairOk (ops : Array Oper) (an : List Nat) (i j : Nat) (x y : Oper) : Bool := match Nat.blt i j with
  | true => match bound ops x y with
    | true => anc an i j
    | false => true
  | false => true

def statOk (ops : Array Oper) : Bool :=
  let an := ancs ops.toList []
  (ops.toList.zipIdx.all fun (y, j) => edgesOk y j && (match y.op with | .select .. => false | _ => true) && ops.toList.zipIdx.all fun (x, i) => pairOk ops an i j x y)

/-- Readers and what may turn memory, their order open; makers and what may turn memory behind them, their order open. -/
def pairsOf (ops : Array Oper) : List (Nat × Nat) :=
  let an := ancs ops.toList []
  ops.toList.zipIdx.flatMap fun (x, i) => match kindOf x with
    | .read => ops.toList.zipIdx.filterMap fun (y, j) => match kindOf y with
      | .major => match anc an i j || anc an j i with
        | true => none
        | false => some (i, j)
      | _ => none
    | .alloc => ops.toList.zipIdx.filterMap fun (y, j) => match kindOf y with
      | .major => match Nat.blt i j with
        | true => match anc an i j with
          | true => none
          | false => some (i, j)
        | false => none
      | _ => none
    | _ => []

/-- One operation, wanted or not. -/
def stepO (P : Program) (C : CallF) (ops : Array Oper) (o : Oper) (E : Env) (h : Hp) : Option (Value × Hp) := match wantedO ops E o with
  | some true => evStep P C h E o
  | some false => some (undef, h)
  | none => none

def traceO (P : Program) (C : CallF) (n : Nat) (ops : Array Oper) : List Oper → Env → Hp → Option (List (Env × Hp))
  | [], E, h => some [(E, h)]
  | o :: l, E, h => match stepO P C ops o E h with
    | some (v, h') => match putE n E o.dst v with
      | some E' => match traceO P C n ops l E' h' with
        | some tr => some ((E, h) :: tr)
        | none => none
      | none => none
    | none => none

mutual
def veq : Value → Value → Bool
  | .bool a, .bool b => a == b
  | .int j a, .int k b => decide (j = k) && decide (a = b)
  | .string a, .string b => decide (a = b)
  | .pointer a, .pointer b => decide (a = b)
  | .slice a n c, .slice b m d => decide (a = b) && Nat.beq n m && Nat.beq c d
  | .map a, .map b => decide (a = b)
  | .nilFunc, .nilFunc => true
  | .nilIface, .nilIface => true
  | .iface t v, .iface u w => Nat.beq t u && veq v w
  | .agg a, .agg b => veqA a b
  | .tuple a, .tuple b => veqA a b
  | .func (.func f) a b, .func (.func g) c d => Nat.beq f g && veqA a c && veqA b d
  | _, _ => false
def veqA : Array Value → Array Value → Bool
  | ⟨a⟩, ⟨b⟩ => veqL a b
def veqL : List Value → List Value → Bool
  | [], [] => true
  | v :: a, w :: b => veq v w && veqL a b
  | _, _ => false
end

/-- An object of the maker's number is the same ahead of the fellow and behind it. -/
def madeSame (k : Nat) (h1 h2 : Hp) : Bool := match h1[k]?, h2[k]? with
  | some (.cells c true), some (.cells d true) => veqL c d
  | _, _ => false

/-- The reader of a pair reads the same ahead of its fellow and behind it; what a maker makes is not turned by its fellow. -/
def pairSame (P : Program) (ops : Array Oper) (tr : List (Env × Hp)) (ij : Nat × Nat) : Bool := match ops[ij.1]?, tr[ij.1]?, tr[ij.2]?, tr[ij.2 + 1]? with
  | some o, some (E, h), some (_, h1), some (_, h2) => match wantedO ops E o with
    | some true => match kindOf o with
      | .alloc => madeSame h.length h1 h2
      | _ => match evOp P h E o, evOp P h1 E o, evOp P h2 E o with
        | some (.val v _), some (.val v1 _), some (.val v2 _) => veq v v1 && veq v v2
        | _, _, _ => false
    | some false => true
    | none => false
  | _, _, _, _ => false

/-- A region whose order is drawn: carried out in the order of its text, if no other order can come to anything else. -/
def evDraw (P : Program) (C : CallF) (n : Nat) (ops : Array Oper) (E : Env) (h : Hp) : Option (Env × Hp) := match statOk ops with
  | true => match pairsOf ops with
    | [] => evOps P C n ops ops.toList E h
    | ps => match traceO P C n ops ops.toList E h with
      | some tr => match ps.all (pairSame P ops tr) with
        | true => tr[ops.size]?
        | false => none
      | none => none
  | false => none

/-! ### Another order of the text -/

def posOf : List Nat → Nat → Nat
  | [], _ => 0
  | x :: l, j => match Nat.beq x j with
    | true => 0
    | false => posOf l j + 1

def relabG (π : List Nat) : Option (Nat × Bool) → Option (Nat × Bool)
  | some (j, b) => some (posOf π j, b)
  | none => none
def relab (π : List Nat) (o : Oper) : Oper := { o with after := (o.after.toList.map fun e => { e with on := posOf π e.on }).toArray, guard := relabG π o.guard }
def permOps (π : List Nat) (ops : Array Oper) : Array Oper := (π.map fun i => relab π (ops.getD i default)).toArray

def permOk (π : List Nat) (n : Nat) : Bool := Nat.beq π.length n && ((List.range n).all fun i => Nat.blt (π.getD i 0) n && Nat.beq (posOf π (π.getD i 0)) i) && (List.range n).all fun j => Nat.blt (posOf π j) n

def isReady (done : Nat) (o : Oper) : Bool := o.after.toList.all fun e => match Region.binds .any e with
  | true => Nat.testBit done e.on
  | false => true
def pickO (f : Oper → Bool) (done : Nat) : List (Oper × Nat) → Option Nat
  | [] => none
  | (o, j) :: l => match Nat.testBit done j with
    | true => pickO f done l
    | false => match f o && isReady done o with
      | true => some j
      | false => pickO f done l
def minorO (o : Oper) : Bool := match kindOf o with
  | .major => false
  | _ => true
/-- What may come up first comes up first, but for what may turn memory. -/
def orderL (l : List (Oper × Nat)) : Nat → Nat → List Nat
  | 0, _ => []
  | k + 1, done => match pickO minorO done l with
    | some j => j :: orderL l k (done ||| 2 ^ j)
    | none => match pickO (fun _ => true) done l with
      | some j => j :: orderL l k (done ||| 2 ^ j)
      | none => []

/-- The operations in an order in which they can be walked. -/
def drawOps (ops : Array Oper) : Array Oper := match statOk ops with
  | true => ops
  | false => match permOk (orderL ops.toList.zipIdx ops.size 0) ops.size with
    | true => permOps (orderL ops.toList.zipIdx ops.size 0) ops
    | false => ops

end Go.Ev
