import Derived.Test.YtalfgifleahabaaGreatDoorSbEvHeap
namespace Go.Ev

/-- What a computation that looks at no memory yields. -/
def pureRun (P : Program) : Sem Next → Option Next
  | .pure a => some a
  | .program k => pureRun P (k P)
  | .mark _ k => pureRun P k
  | _ => none

/-- The value of an operand, as far as it is known. -/
def evalO (E : Env) : Operand → Option Value
  | .tmp t => look E t
  | .const v => match ground v with
    | true => some v
    | false => none
  | .func f => some (.func (.func f) #[] #[])
  | .global _ => none

def evalL (E : Env) : List Operand → Option (List Value)
  | [] => some []
  | x :: l => match evalO E x, evalL E l with
    | some v, some vs => some (v :: vs)
    | _, _ => none

def isAggD : TypeDesc → Bool
  | .struct _ | .array _ _ => true
  | _ => false

/-- 'some none': of one cell; 'some (some n)': a struct or an array of n cells. -/
def aggSize (P : Program) (t : TypeId) : Option (Option Nat) :=
  match P.underlying t with
  | some d => match isAggD d with
    | true => match P.info? t with
      | some i => some (some i.size)
      | none => none
    | false => some none
  | none => none

def sizeO (P : Program) (t : TypeId) : Option Nat := match P.info? t with | some i => some i.size | none => none
def zeroO (P : Program) (t : TypeId) : Option Value := match P.info? t with | some i => i.zero | none => none

/-- The cells of a live object. -/
def cellsAt (h : Hp) (i : Nat) : Option (List Value) := match h[i]? with | some (.cells c _) => some c | _ => none
def ownAt (h : Hp) (i : Nat) : Option (List Value) := match h[i]? with | some (.cells c true) => some c | _ => none

/-- n of them from off on. -/
def cut (c : List Value) (off n : Nat) : Option (List Value) := match Nat.ble (off + n) c.length with
  | true => some ((c.drop off).take n)
  | false => none

def evLoad (P : Program) (h : Hp) (t : TypeId) : Value → Option Value
  | .pointer (some ⟨i, off, none⟩) => match cellsAt h i with
    | some c => match aggSize P t with
      | some (some n) => match cut c off n with
        | some l => some (.agg l.toArray)
        | none => none
      | some none => c[off]?
      | none => none
    | none => none
  | _ => none

def evStore (P : Program) (h : Hp) (t : TypeId) (a v : Value) : Option Hp :=
  match a with
  | .pointer (some ⟨i, off, none⟩) => match ownAt h i, sizeO P t with
    | some c, some n => match Nat.beq v.cells.toList.length n, Nat.ble (off + n) c.length, v.cells.toList.all Value.oneCell' with
      | true, true, true => some (h.set i (.cells (c.take off ++ v.cells.toList ++ c.drop (off + v.cells.toList.length)) true))
      | _, _, _ => none
    | _, _ => none
  | _ => none

def ptrO (i : Nat) : Value := .pointer (some ⟨i, 0, none⟩)

def evNew (h : Hp) (c : List Value) : Value × Hp := (ptrO h.length, h ++ [.cells c true])

def evAlloc (P : Program) (h : Hp) (t : TypeId) : Option (Value × Hp) := match zeroO P t with
  | some z => match ground z with
    | true => some (evNew h z.cells.toList)
    | false => none
  | none => none

/-- 'part' of Core/Lib, of a list of cells. -/
def partO (P : Program) (t : TypeId) (cs : Array Value) (off : Nat) : Option Value := match aggSize P t with
  | some (some n) => some (.agg (cs.extract off (off + n)))
  | some none => cs[off]?
  | none => none

def placesO (P : Program) : List Field → Option (List (Nat × Nat))
  | [] => some []
  | f :: l => match sizeO P f.type, placesO P l with
    | some n, some r => some ((f.offset, n) :: r)
    | _, _ => none

def evBuild (P : Program) (t : TypeId) (parts : List (Nat × Value)) : Option Value := match zeroO P t with
  | some z => match ground z with
    | true => match P.underlying t with
      | some (.struct fields) => match placesO P fields.toList with
        | some pl => match Instr.fill (pl.toArray[·]?) z.cells parts with
          | some cs => some (.agg cs)
          | none => none
        | none => none
      | some (.array _ e) => match sizeO P e with
        | some n => match Instr.fill (fun i => some (i * n, n)) z.cells parts with
          | some cs => some (.agg cs)
          | none => none
        | none => none
      | _ => none
    | false => none
  | none => none

def evBuildSlice (P : Program) (h : Hp) (t : TypeId) (len : Nat) (parts : List (Nat × Value)) : Option (Value × Hp) := match P.underlying t with
  | some (.slice e) => match zeroO P e, sizeO P e with
    | some z, some n => match ground z, Nat.ble 1 n, Nat.ble (len * n) 16777216 with
      | true, true, true => match Instr.fill (fun i => some (i * n, n)) ((Array.range (len * n)).map (z.cells[· % z.cells.size]!)) parts with
        | some cs => some (.slice (some ⟨h.length, 0, none⟩) len n, h ++ [.cells cs.toList true])
        | none => none
      | _, _, _ => none
    | _, _ => none
  | _ => none

/-- A new slice of zeros. -/
def evMakeSlice (P : Program) (h : Hp) (t : TypeId) (n k : Int) : Option (Value × Hp) := match P.underlying t, n, k with
  | some (.slice e), .ofNat m, .ofNat m' => match Nat.beq m m', P.info? e with
    | true, some inf => match inf.zero with
      | some z => match ground z, Nat.ble 1 inf.size, Nat.ble m 16777216, Nat.ble (inf.bytes * m) 281474976710656 with
        | true, true, true, true => some (.slice (some ⟨h.length, 0, none⟩) m inf.size, h ++ [.cells ((Array.range (m * inf.size)).map (z.cells[· % z.cells.size]!)).toList true])
        | _, _, _, _ => none
      | none => none
    | _, _ => none
  | _, _, _ => none

def evField (P : Program) (t : TypeId) (v : Value) (f : Nat) : Option Value := match P.underlying t, v with
  | some (.struct fields), .agg cs => match fields[f]? with
    | some fl => partO P fl.type cs fl.offset
    | none => none
  | _, _ => none

def evFieldAddr (P : Program) (t : TypeId) (a : Value) (f : Nat) : Option Value := match P.underlying t, a with
  | some (.struct fields), .pointer (some ⟨i, off, none⟩) => match fields[f]? with
    | some fl => match sizeO P fl.type with
      | some (_ + 1) => some (.pointer (some ⟨i, off + fl.offset, none⟩))
      | _ => none
    | none => none
  | _, _ => none

def evIndexAddr (P : Program) (t : TypeId) (x ix : Value) : Option Value := match P.underlying t, x, ix with
  | some (.slice e), .slice (some ⟨i, off, none⟩) len _, .int _ n => match decide (0 ≤ n), decide (n < (len : Int)), sizeO P e with
    | true, true, some sz => some (.pointer (some ⟨i, off + n.toNat * sz, none⟩))
    | _, _, _ => none
  | some (.array len e), .pointer (some ⟨i, off, none⟩), .int _ n => match decide (0 ≤ n), decide (n < (len : Int)), sizeO P e with
    | true, true, some sz => some (.pointer (some ⟨i, off + n.toNat * sz, none⟩))
    | _, _, _ => none
  | _, _, _ => none

def evIndex (P : Program) (t : TypeId) (x ix : Value) : Option Value := match P.underlying t, x, ix with
  | some (.array len e), .agg cs, .int _ n => match decide (0 ≤ n), decide (n < (len : Int)), sizeO P e with
    | true, true, some sz => partO P e cs (n.toNat * sz)
    | _, _, _ => none
  | _, _, _ => none

/-- A bound of a slice expression: an int from 0 to y. -/
def boundO (d y : Nat) : Option Value → Option Nat
  | none => some d
  | some (.int _ n) => match decide (0 ≤ n), decide (n ≤ (y : Int)) with
    | true, true => some n.toNat
    | _, _ => none
  | _ => none

def evSlice (P : Program) (t : TypeId) (x : Value) (lo hi : Option Value) : Option Value := match P.underlying t, x with
  | some (.slice e), .slice (some ⟨i, off, none⟩) len z => match boundO len len hi, sizeO P e with
    | some b, some sz => match boundO 0 b lo, Nat.beq z sz with
      | some a, true => some (.slice (some ⟨i, off + a * z, none⟩) (b - a) z)
      | _, _ => none
    | _, _ => none
  | some (.slice e), .slice none 0 0 => match boundO 0 0 hi, boundO 0 0 lo, sizeO P e with
    | some _, some _, some _ => some (.slice none 0 0)
    | _, _, _ => none
  | _, _ => none

/-- The cells of an append's source. -/
def evNews (P : Program) (h : Hp) (e : TypeId) (xt : TypeId) : Value → Option (Nat × List Value)
  | .slice none 0 0 => match P.underlying xt with
    | some (.slice _) => some (0, [])
    | _ => none
  | .slice (some ⟨j, o, none⟩) k z => match P.underlying xt, sizeO P e, cellsAt h j with
    | some (.slice _), some sz, some c => match cut c o (k * sz), Nat.beq z sz with
      | some l, true => some (k, l)
      | _, _ => none
    | _, _, _ => none
  | .int _ (.ofNat 0) => match P.underlying xt with
    | some (.int _) => some (0, [])
    | _ => none
  | _ => none

def evAppend (P : Program) (h : Hp) (ts : List TypeId) (s x : Value) : Option (Value × Hp) := match ts with
  | [st, xt] => match P.underlying st with
    | some (.slice e) => match P.info? e, evNews P h e xt x with
      | some inf, some (k, news) => match k, inf.zero with
        | 0, _ => match s with
          | .slice none 0 0 => some (s, h)
          | .slice (some ⟨_, _, none⟩) _ _ => some (s, h)
          | _ => none
        | k + 1, some z => match ground z, Nat.beq z.cells.size inf.size, Nat.ble 1 inf.size, news.all Value.oneCell' with
          | true, true, true, true => match s with
            | .slice none 0 0 => match Nat.ble ((k + 1) * inf.bytes) 140737488355328, Nat.ble (k + 1) 9007199254740992 with
              | true, true => some (.slice (some ⟨h.length, 0, none⟩) (k + 1) inf.size, h ++ [.cells news true])
              | _, _ => none
            | .slice (some ⟨i, off, none⟩) n z => match ownAt h i, Nat.ble ((n + (k + 1)) * inf.bytes) 140737488355328, Nat.ble (n + (k + 1)) 9007199254740992, Nat.beq z inf.size with
              | some c, true, true, true => match cut c off (n * inf.size) with
                | some olds => some (.slice (some ⟨h.length, 0, none⟩) (n + (k + 1)) inf.size, h.set i .dead ++ [.cells (olds ++ news) true])
                | none => none
              | _, _, _, _ => none
            | _ => none
          | _, _, _, _ => none
        | _, none => none
      | _, _ => none
    | _ => none
  | _ => none

/-! ### Maps whose keys are numbers or strings -/
def mpE (es : List (Value × Value)) : List MapEntry := es.map fun x => ⟨x.1, x.2, 0⟩
def isKeyB : TypeDesc → Value → Bool
  | .int k, .int j _ => decide (j = k)
  | .string, .string _ => true
  | _, _ => false
def mpAt (h : Hp) (i : Nat) : Option (List (Value × Value)) := match h[i]? with | some (.mp es) => some es | _ => none

/-- What is found in a map. -/
def mpFind (P : Program) (kt : TypeId) (es : List (Value × Value)) (k : Value) : Option (Option (Nat × Value)) := match P.underlying kt with
  | some d => match isKeyB d k && es.all (fun x => isKeyB d x.1) with
    | true => Instr.findNow d k (mpE es) 0
    | false => none
  | none => none

def evLookup (P : Program) (h : Hp) (t : TypeId) (x k : Value) (ok : Bool) : Option Value := match P.underlying t, x with
  | some (.map kt et), .map (some i) => match mpAt h i with
    | some es => match mpFind P kt es k with
      | some (some (_, v)) => match ok with
        | true => some (.tuple #[v, .bool true])
        | false => some v
      | some none => match zeroO P et with
        | some z => match ground z, ok with
          | true, true => some (.tuple #[z, .bool false])
          | true, false => some z
          | false, _ => none
        | none => none
      | none => none
    | none => none
  | _, _ => none

def evMapUpdate (P : Program) (h : Hp) (t : TypeId) (x k v : Value) : Option Hp := match P.underlying t, x with
  | some (.map kt _), .map (some i) => match mpAt h i with
    | some es => match ground k with
      | true => match mpFind P kt es k with
        | some (some (j, _)) => some (h.set i (.mp (es.set j (k, v))))
        | some none => some (h.set i (.mp (es ++ [(k, v)])))
        | none => none
      | false => none
    | none => none
  | _, _ => none

/-- A method of a value in an interface, its receiver. -/
def evMethod (P : Program) (h : Hp) (name : String) : Value → Option (FuncId × Value)
  | .iface t v => match P.info? t with
    | some i => match i.methods.find? (·.name == name) with
      | some mt => match mt.path.toList, mt.func, P.underlying t with
        | [], some (f, true), some (.pointer _) => some (f, v)
        | [], some (f, false), some (.pointer e) => match v with
          | .pointer (some _) => match evLoad P h e v with
            | some r => some (f, r)
            | none => none
          | _ => none
        | [], some (f, false), some d => match isAggD d with
          | true => some (f, v)
          | false => none
        | _, _, _ => none
      | none => none
    | none => none
  | _ => none

/-- The cells of a slice, made zero. -/
def evClear (P : Program) (h : Hp) (t : TypeId) : Value → Option Hp
  | .slice none 0 0 => match P.underlying t with
    | some (.slice _) => some h
    | _ => none
  | .slice (some ⟨i, off, none⟩) n z => match P.underlying t with
    | some (.slice e) => match n with
      | 0 => some h
      | _ => match zeroO P e, ownAt h i with
        | some zv, some c => match ground zv, Nat.beq zv.cells.size z, Nat.ble (off + n * z) c.length && ((Array.range (n * z)).map (zv.cells[· % zv.cells.size]!)).toList.all Value.oneCell' with
          | true, true, true => some (h.set i (.cells (c.take off ++ ((Array.range (n * z)).map (zv.cells[· % zv.cells.size]!)).toList ++ c.drop (off + n * z)) true))
          | _, _, _ => none
        | _, _ => none
    | _ => none
  | _ => none

/-- A slice copied into another one. -/
def evCopy (P : Program) (h : Hp) (ts : List TypeId) (d x : Value) : Option (Value × Hp) := match ts with
  | st :: _ => match P.underlying st with
    | some (.slice e) => match sizeO P e with
      | some sz => match d, x with
        | .slice none 0 0, .slice none 0 0 => some (.int .i64 0, h)
        | .slice none 0 0, .slice (some ⟨_, _, none⟩) _ _ => some (.int .i64 0, h)
        | .slice (some ⟨_, _, none⟩) _ _, .slice none 0 0 => some (.int .i64 0, h)
        | .slice (some ⟨i, off, none⟩) dl z, .slice (some ⟨j, o, none⟩) n z' => match Nat.min n dl with
          | 0 => some (.int .i64 0, h)
          | k + 1 => match ownAt h i, cellsAt h j with
            | some c, some c' => match cut c' o ((k + 1) * sz), Nat.beq z sz, Nat.beq z' sz with
              | some l, true, true => match Nat.ble (off + l.length) c.length, l.all Value.oneCell' with
                | true, true => some (.int .i64 (Int.ofNat (k + 1)), h.set i (.cells (c.take off ++ l ++ c.drop (off + l.length)) true))
                | _, _ => none
              | _, _, _ => none
            | _, _ => none
        | _, _ => none
      | none => none
    | _ => none
  | _ => none

/-- '==' where an operand names an object. -/
def evEq (P : Program) (h : Hp) (t : TypeId) (x y : Value) : Option Bool := match P.underlying t, x, y with
  | some (.pointer _), .pointer none, .pointer b => some b.isNone
  | some (.pointer _), .pointer (some _), .pointer none => some false
  | some (.pointer e), .pointer (some ⟨i, o, none⟩), .pointer (some ⟨j, o', none⟩) => match sizeO P e, ownAt h i, ownAt h j with
    | some (_ + 1), some _, some _ => match Nat.beq i j with
      | true => some (Nat.beq o o')
      | false => some false
    | _, _, _ => none
  | some (.slice _), .slice none _ _, .slice b _ _ => some b.isNone
  | some (.slice _), .slice (some _) _ _, .slice none _ _ => some false
  | some (.map _ _), .map none, .map b => some b.isNone
  | some (.map _ _), .map (some _), .map none => some false
  | some (.func ..), .nilFunc, .func .. => some false
  | some (.func ..), .func .., .nilFunc => some false
  | some (.interface _), .nilIface, .iface .. => some false
  | some (.interface _), .iface .., .nilIface => some false
  | _, _, _ => none

def evNil : Value → Option Value
  | .pointer (some a) => some (.pointer (some a))
  | .iface t v => some (.iface t v)
  | .func (.func f) a b => some (.func (.func f) a b)
  | _ => none

def evAssert (P : Program) (v : Value) (t : TypeId) (ok : Bool) : Option Value := match P.underlying t, v with
  | some (.interface _), _ => none
  | some _, .iface u x => match Nat.beq u t, ok with
    | true, true => some (.tuple #[x, .bool true])
    | true, false => some x
    | false, true => match zeroO P t with
      | some z => match ground z with
        | true => some (.tuple #[z, .bool false])
        | false => none
      | none => none
    | false, false => none
  | some _, .nilIface => match ok, zeroO P t with
    | true, some z => match ground z with
        | true => some (.tuple #[z, .bool false])
        | false => none
    | _, _ => none
  | _, _ => none

/-- What an operation comes to. -/
inductive Out where
  | val (v : Value) (h : Hp)
  | call (f : FuncId) (args : List Value)
  | yield (i : Nat) (args : List Value)

def valO (h : Hp) : Option Value → Option Out
  | some v => some (.val v h)
  | none => none
def newO : Option (Value × Hp) → Option Out
  | some (v, h) => some (.val v h)
  | none => none

/-- The operation over values that name no object. -/
def evGround (P : Program) (h : Hp) (E : Env) (o : Oper) : Option Out := match evalL E o.op.operands.toList with
  | some vs => match vs.all ground with
    | true => match pureRun P (execOp (fun x => (evalO E x).getD undef) o) with
      | some (.value v) => match ground v with
        | true => some (.val v h)
        | false => none
      | some .skip => none
      | _ => none
    | false => none
  | none => none

def partsO (E : Env) : List (Nat × Operand) → Option (List (Nat × Value))
  | [] => some []
  | (i, x) :: l => match evalO E x, partsO E l with
    | some v, some r => some ((i, v) :: r)
    | _, _ => none

def optO (E : Env) : Option Operand → Option (Option Value)
  | none => some none
  | some x => match evalO E x with
    | some v => some (some v)
    | none => none

def evCallV (f : Value) (args : List Value) : Option Out := match f with
  | .func (.func g) first captured => some (.call g (first.toList ++ args ++ captured.toList))
  | .func (.yield i) _ _ => some (.yield i args)
  | _ => none

def v1 (E : Env) (x : Operand) (k : Value → Option Out) : Option Out := match evalO E x with
  | some v => k v
  | none => none
def v2 (E : Env) (x y : Operand) (k : Value → Value → Option Out) : Option Out := match evalO E x, evalO E y with
  | some v, some u => k v u
  | _, _ => none

/-- The builtins over values that name objects. -/
def evBuiltin (P : Program) (h : Hp) (E : Env) (o : Oper) (b : Builtin) (args : List Operand) (ts : List TypeId) : Option Out := match b with
  | .append => match args with
    | [s, x] => v2 E s x fun s x => newO (evAppend P h ts s x)
    | _ => none
  | .len => match args, ts with
    | [s], [t] => v1 E s fun s => match s, P.underlying t with
      | .slice _ n _, some (.slice _) => some (.val (.int .i64 n) h)
      | .slice .., _ => none
      | _, _ => evGround P h E o
    | _, _ => none
  | .copy => match args with
    | [s, x] => v2 E s x fun s x => newO (evCopy P h ts s x)
    | _ => none
  | .clear => match args, ts with
    | [s], [t] => v1 E s fun s => match evClear P h t s with
      | some h' => some (.val (.tuple #[]) h')
      | none => none
    | _, _ => none
  | _ => evGround P h E o

def evOp (P : Program) (h : Hp) (E : Env) (o : Oper) : Option Out := match o.op with
  | .move x | .assign x => v1 E x fun v => some (.val v h)
  | .pick c a b => v1 E c fun c => match c with
    | .bool true => v1 E a fun v => some (.val v h)
    | .bool false => v1 E b fun v => some (.val v h)
    | _ => none
  | .alloc t => newO (evAlloc P h t)
  | .box _ x => v1 E x fun v => newO (some (evNew h v.cells.toList))
  | .build t ps => match partsO E ps.toList with
    | some l => valO h (evBuild P t l)
    | none => none
  | .buildSlice t n ps => match partsO E ps.toList with
    | some l => newO (evBuildSlice P h t n l)
    | none => none
  | .makeSlice t l c => v2 E l c fun l c => match l, c with
    | .int _ n, .int _ k => newO (evMakeSlice P h t n k)
    | _, _ => none
  | .makeMap t none => newO (some (.map (some h.length), h ++ [.mp []]))
  | .lookup t x k ok => v2 E x k fun x k => valO h (evLookup P h t x k ok)
  | .mapUpdate t x k y => v2 E x k fun x k => v1 E y fun y => match evMapUpdate P h t x k y with
    | some h' => some (.val undef h')
    | none => none
  | .insert t x k y => v2 E x k fun x k => v1 E y fun y => match evMapUpdate P h t x k y with
    | some h' => some (.val undef h')
    | none => none
  | .load t a => v1 E a fun a => valO h (evLoad P h t a)
  | .store t a x => v2 E a x fun a x => match evStore P h t a x with
    | some h' => some (.val undef h')
    | none => none
  | .nilCheck x => v1 E x fun v => valO h (evNil v)
  | .makeInterface t x => v1 E x fun v => match P.underlying t with
    | some (.interface _) => none
    | some _ => some (.val (.iface t v) h)
    | none => none
  | .makeFunc f first captured => match f with
    | .func _ => match evalL E first.toList, evalL E captured.toList with
      | some a, some b => some (.val (.func f a.toArray b.toArray) h)
      | _, _ => none
    | _ => none
  | .fieldAddr t x f => v1 E x fun v => valO h (evFieldAddr P t v f)
  | .field t x f => v1 E x fun v => valO h (evField P t v f)
  | .indexAddr t x ix => v2 E x ix fun x ix => valO h (evIndexAddr P t x ix)
  | .index t x ix => v2 E x ix fun v ix => match v with
    | .agg _ => valO h (evIndex P t v ix)
    | _ => evGround P h E o
  | .slice t x lo hi none => match optO E lo, optO E hi with
    | some lo, some hi => v1 E x fun v => match v with
      | .slice .. => valO h (evSlice P t v lo hi)
      | _ => evGround P h E o
    | _, _ => none
  | .extract t i => v1 E t fun v => match v with
    | .tuple vs => valO h vs[i]?
    | _ => none
  | .typeAssert x _ t ok => v1 E x fun v => valO h (evAssert P v t ok)
  | .binOp op t x y _ => v2 E x y fun a b => match ground a && ground b with
    | true => evGround P h E o
    | false => match op with
      | .eql => match evEq P h t a b with
        | some r => some (.val (.bool r) h)
        | none => none
      | .neq => match evEq P h t a b with
        | some r => some (.val (.bool (!r)) h)
        | none => none
      | _ => none
  | .unOp .. | .convert .. => evGround P h E o
  | .call c => match c.callee with
    | .value f => match evalL E c.args.toList with
      | some l => v1 E f fun f => evCallV f l
      | none => none
    | .builtin b => evBuiltin P h E o b c.args.toList c.argTypes.toList
    | .invoke r name => match evalL E c.args.toList with
      | some l => v1 E r fun r => match evMethod P h name r with
        | some (f, x) => some (.call f (x :: l))
        | none => none
      | none => none
  | _ => none

end Go.Ev
