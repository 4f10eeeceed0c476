import Derived.Test.YtlonjogfeidgfaaSbEvAgg
namespace Go.Ev

/-! ### Runs with enough fuel -/

/-- From some number on. -/
def Evt (p : Nat → Prop) : Prop := ∃ k0, ∀ k, k0 ≤ k → p k
theorem Evt.of {p : Nat → Prop} (h : ∀ k, p k) : Evt p := ⟨0, fun k _ => h k⟩
theorem Evt.and {p q : Nat → Prop} (hp : Evt p) (hq : Evt q) : Evt fun k => p k ∧ q k :=
  let ⟨a, ha⟩ := hp; let ⟨b, hb⟩ := hq
  ⟨max a b, fun k hk => ⟨ha k (by omega), hb k (by omega)⟩⟩
theorem Evt.mono {p q : Nat → Prop} (hp : Evt p) (h : ∀ k, p k → q k) : Evt q := let ⟨a, ha⟩ := hp; ⟨a, fun k hk => h k (ha k hk)⟩
theorem Evt.map2 {p q r : Nat → Prop} (hp : Evt p) (hq : Evt q) (h : ∀ k, p k → q k → r k) : Evt r := (hp.and hq).mono fun k hk => h k hk.1 hk.2
theorem Evt.succ {p : Nat → Prop} (hp : Evt p) : Evt fun k => ∃ j, k = j + 1 ∧ p j :=
  let ⟨a, ha⟩ := hp; ⟨a + 1, fun k hk => ⟨k - 1, by omega, ha _ (by omega)⟩⟩

def Run (P : Program) (f : FuncId) (args : List Value) (h : Hp) (r : Value) (h' : Hp) : Prop := Evt fun k => evCall P k (.fn f) args h = some (r, h')
def RunR (P : Program) (i : Nat) (args : List Value) (h : Hp) (r : Value) (h' : Hp) : Prop := Evt fun k => evCall P k (.round i) args h = some (r, h')
def CRun (P : Program) (n : Nat) (rd : Bool) (c : Code) (E : Env) (h : Hp) (x : Ex) (E' : Env) (h' : Hp) : Prop := Evt fun k => evCode P (evCall P k) k n rd c E h = some (x, E', h')
/-- A loop's rounds: the fuel of the calls and that of the rounds apart. -/
def LRun (P : Program) (n : Nat) (rd : Bool) (b : Code) (E : Env) (h : Hp) (x : Ex) (E' : Env) (h' : Hp) : Prop :=
  ∃ k0, ∀ j i, k0 ≤ j → k0 ≤ i → evLoop (evCode P (evCall P j) j n rd b) i E h = some (x, E', h')

theorem Run.of_ev {P : Program} {f : FuncId} {args : List Value} {h h' : Hp} {v : Value} {k : Nat} (he : evCall P k (.fn f) args h = some (v, h')) : Run P f args h v h' :=
  ⟨k, fun _ hk => evCall_mono hk _ _ _ _ he⟩

/-! ### The symbolic heap -/

inductive SH where
  | is (h : Hp)
  | set (s : SH) (i : Nat) (o : AObj)
  | push (s : SH) (o : AObj)

def SH.den : SH → Hp
  | .is h => h
  | .set s i o => s.den.set i o
  | .push s o => s.den ++ [o]

def EnvLe (E E' : Env) : Prop := ∀ t v, look E t = some v → look E' t = some v
theorem EnvLe.refl (E : Env) : EnvLe E E := fun _ _ h => h
theorem EnvLe.trans {A B C : Env} (h : EnvLe A B) (k : EnvLe B C) : EnvLe A C := fun t v hv => k t v (h t v hv)
theorem EnvLe.cons {E E' : Env} (h : EnvLe E E') (t : Nat) (v : Value) : EnvLe ((t, v) :: E) ((t, v) :: E') := fun s u hu => by
  rw [look_cons] at hu ⊢
  split
  · rename_i e; rw [if_pos e] at hu; exact hu
  · rename_i e; rw [if_neg e] at hu; exact h s u hu

/-- What is told ahead. -/
inductive Ans where
  | val (v : Value)
  | cells (l : List Value)
  | idx (i : Nat)
  | offs (o : Nat)
  | bit (b : Bool)
  | num (n : Int)
  | ret (v : Value) (s : SH)
  | inl
  | dir
  | run (k : Nat)
  | unr (m : Nat)
  | loop (x : Ex) (E : Env) (s : SH)
  | app0
  | app (c news : List Value) (k : Nat) (i : Nat)
  | cut (a b : Nat)
  | mk (v : Value) (c : List Value)

/-- What must hold for it. -/
inductive Asm where
  | ld1 (s : SH) (i off : Nat) (v : Value)
  | ldn (s : SH) (i off n : Nat) (l : List Value)
  | len (s : SH) (i : Nat)
  | st (s : SH) (i off : Nat) (l c : List Value)
  | cmp (op : BinOp) (a b : Int) (z : Bool)
  | scmp (op : BinOp) (a b : ByteArray) (z : Bool)
  | arith (op : BinOp) (k : IntKind) (a b z : Int)
  | mm (mx : Bool) (a b z : Int)
  | off (o base : Nat) (n : Int) (len sz : Nat)
  | sidx (s : ByteArray) (n z : Int)
  | cut (lo hi : Option Value) (len a b : Nat)
  | aeq (op : BinOp) (t : TypeId) (xs ys : Array Value) (z : Bool)
  | peq (s : SH) (op : BinOp) (t : TypeId) (i o j o' : Nat) (z : Bool)
  | call (f : FuncId) (args : List Value) (s : SH) (v : Value) (s' : SH)
  | yld (i : Nat) (args : List Value) (s : SH) (v : Value) (s' : SH)
  | loop (n : Nat) (rd : Bool) (b : Code) (E : Env) (s : SH) (x : Ex) (E' : Env) (s' : SH)
  | stat (ops : Array Oper)
  | again (s : SH) (t : TypeId) (av v : Value)
  | refl (v : Value)
  | app0 (s : SH) (j o k : Nat)
  | appNil (s : SH) (j o k k' z bytes : Nat) (news : List Value) (i : Nat)
  | app (s : SH) (i off n j o k k' z bytes : Nat) (c news : List Value) (q : Nat)
  | mks (s : SH) (t : TypeId) (n k : Int) (v : Value) (c : List Value)
  | kept (s s1 s2 : SH) (c : List Value)
  | ff

def cmpB (op : BinOp) (a b : Int) : Option Bool := match op with
  | .eql => some (a == b)
  | .neq => some (a != b)
  | .lss => some (decide (a < b))
  | .leq => some (decide (a ≤ b))
  | .gtr => some (decide (a > b))
  | .geq => some (decide (a ≥ b))
  | _ => none
def isCmp : BinOp → Bool
  | .eql | .neq | .lss | .leq | .gtr | .geq => true
  | _ => false
def arithI (op : BinOp) (k : IntKind) (a b : Int) : Option Int := match op with
  | .add => some (k.wrap (a + b))
  | .sub => some (k.wrap (a - b))
  | .mul => some (k.wrap (a * b))
  | _ => none
def isArith : BinOp → Bool
  | .add | .sub | .mul => true
  | _ => false

def Asm.holds (P : Program) : Asm → Prop
  | .ld1 s i d v => ∃ c, cellsAt s.den i = some c ∧ c[d]? = some v
  | .ldn s i d n l => ∃ c, cellsAt s.den i = some c ∧ d + n ≤ c.length ∧ (c.drop d).take n = l
  | .len s i => s.den.length = i
  | .st s i d l c' => ∃ c, ownAt s.den i = some c ∧ d + l.length ≤ c.length ∧ c.take d ++ l ++ c.drop (d + l.length) = c'
  | .cmp op a b z => cmpB op a b = some z
  | .scmp op a b z => (op = .eql ∧ (a.toList == b.toList) = z) ∨ (op = .neq ∧ (!(a.toList == b.toList)) = z)
  | .arith op k a b z => arithI op k a b = some z
  | .mm mx a b z => (mx = true ∧ (if b > a then b else a) = z) ∨ (mx = false ∧ (if b < a then b else a) = z)
  | .off o base n ln sz => 0 ≤ n ∧ n < (ln : Int) ∧ base + n.toNat * sz = o
  | .sidx s n z => 0 ≤ n ∧ ∃ b : UInt8, s[n.toNat]? = some b ∧ (b.toNat : Int) = z
  | .cut lo hi ln a b => boundO ln ln hi = some b ∧ boundO 0 b lo = some a
  | .aeq op t xs ys z => groundA xs = true ∧ groundA ys = true ∧ ((op = .eql ∧ aggEq P t xs ys = some z) ∨ (op = .neq ∧ aggEq P t xs ys = some (!z)))
  | .peq s op t i o j o' z => ∃ e n c d, P.underlying t = some (.pointer e) ∧ sizeO P e = some (n + 1) ∧ ownAt s.den i = some c ∧ ownAt s.den j = some d ∧ ((op = .eql ∧ (decide (i = j) && decide (o = o')) = z) ∨ (op = .neq ∧ (!(decide (i = j) && decide (o = o'))) = z))
  | .call f args s v s' => Run P f args s.den v s'.den
  | .yld i args s v s' => RunR P i args s.den v s'.den
  | .loop n rd b E s x E' s' => ∀ E0, EnvLe E E0 → ∃ E1, EnvLe E' E1 ∧ LRun P n rd b E0 s.den x E1 s'.den
  | .stat ops => statOk ops = true
  | .again s t av v => evLoad P s.den t av = some v ∧ veq v v = true
  | .refl v => veq v v = true
  | .app0 s j o k => k = 0 ∧ ∃ c, cellsAt s.den j = some c ∧ o ≤ c.length
  | .appNil s j o k k' z bytes news i => k = k' + 1 ∧ (∃ c, cellsAt s.den j = some c ∧ o + k * z ≤ c.length ∧ (c.drop o).take (k * z) = news) ∧ news.all Value.oneCell' = true ∧
      k * bytes ≤ 140737488355328 ∧ k ≤ 9007199254740992 ∧ s.den.length = i
  | .app s i d n j o k k' z bytes c' news q => k = k' + 1 ∧ (∃ c, cellsAt s.den j = some c ∧ o + k * z ≤ c.length ∧ (c.drop o).take (k * z) = news) ∧ news.all Value.oneCell' = true ∧
      (n + k) * bytes ≤ 140737488355328 ∧ n + k ≤ 9007199254740992 ∧ (∃ c, ownAt s.den i = some c ∧ d + n * z ≤ c.length ∧ (c.drop d).take (n * z) ++ news = c') ∧ s.den.length = q
  | .mks s t n k v c => evMakeSlice P s.den t n k = some (v, s.den ++ [.cells c true])
  | .kept s s1 s2 c => ownAt s1.den s.den.length = some c ∧ ownAt s2.den s.den.length = some c ∧ veqL c c = true
  | .ff => False

def AllA (P : Program) : List Asm → Prop
  | [] => True
  | a :: l => a.holds P ∧ AllA P l

theorem AllA.app {P : Program} : ∀ {a b : List Asm}, AllA P (a ++ b) → AllA P a ∧ AllA P b
  | [], _, h => ⟨trivial, h⟩
  | _ :: _, _, h => let ⟨h1, h2⟩ := AllA.app h.2; ⟨⟨h.1, h1⟩, h2⟩

/-! ### The walk by answers -/

def pvLoad (P : Program) (s : SH) (t : TypeId) (a : Value) : List Ans → Option (Value × List Ans × List Asm)
  | .val v :: r => match a, aggSize P t with
    | .pointer (some ⟨i, off, none⟩), some none => some (v, r, [.ld1 s i off v])
    | _, _ => none
  | .cells l :: r => match a, aggSize P t with
    | .pointer (some ⟨i, off, none⟩), some (some n) => some (.agg l.toArray, r, [.ldn s i off n l])
    | _, _ => none
  | _ => none

inductive POut where
  | val (v : Value) (s : SH)
  | call (f : FuncId) (args : List Value)
  | yield (i : Nat) (args : List Value)

def definedO (E : Env) : List Nat → Bool
  | [] => true
  | t :: l => match look E t with
    | some _ => definedO E l
    | none => false

def plainK (o : Oper) : Bool := match kindOf o with
  | .pure | .read => true
  | _ => false

def pvPlain (P : Program) (E : Env) (o : Oper) (s : SH) (as : List Ans) : Option (POut × List Ans × List Asm) := match plainK o, definedO E (tmpsOf o.op.operands.toList) with
  | true, true => match evOp P [] E o with
    | some (.val v _) => some (.val v s, as, [])
    | _ => none
  | _, _ => none

def pvAppend (P : Program) (s : SH) (ts : List TypeId) (x y : Value) (as : List Ans) : Option (POut × List Ans × List Asm) := match ts with
  | [st, xt] => match P.underlying st, P.underlying xt with
    | some (.slice e), some (.slice _) => match P.info? e with
      | some inf => match y, as with
        | .slice none 0 0, .app0 :: r => match x, inf.zero with
          | .slice none 0 0, some _ => some (.val x s, r, [])
          | .slice (some ⟨_, _, none⟩) _ _, some _ => some (.val x s, r, [])
          | _, _ => none
        | .slice (some ⟨j, o, none⟩) k z, .app0 :: r => match x, inf.zero, Nat.beq z inf.size with
          | .slice none 0 0, some _, true => some (.val x s, r, [.app0 s j o k])
          | .slice (some ⟨_, _, none⟩) _ _, some _, true => some (.val x s, r, [.app0 s j o k])
          | _, _, _ => none
        | .slice (some ⟨j, o, none⟩) k z, .app c news k' i :: r => match inf.zero with
          | some zv => match ground zv, Nat.beq zv.cells.size inf.size, Nat.ble 1 inf.size, Nat.beq z inf.size with
            | true, true, true, true => match x with
              | .slice none 0 0 => some (.val (.slice (some ⟨i, 0, none⟩) k inf.size) (.push s (.cells news true)), r, [.appNil s j o k k' inf.size inf.bytes news i])
              | .slice (some ⟨i0, off, none⟩) n z0 => match Nat.beq z0 inf.size with
                | true => some (.val (.slice (some ⟨i, 0, none⟩) (n + k) inf.size) (.push (.set s i0 .dead) (.cells c true)), r, [.app s i0 off n j o k k' inf.size inf.bytes c news i])
                | false => none
              | _ => none
            | _, _, _, _ => none
          | none => none
        | _, _ => none
      | none => none
    | _, _ => none
  | _ => none

def pvOp0 (P : Program) (E : Env) (o : Oper) (s : SH) (as : List Ans) : Option (POut × List Ans × List Asm) := match o.op with
  | .load t a => match evalO E a with
    | some av => match pvLoad P s t av as with
      | some (v, r, asm) => some (.val v s, r, asm)
      | none => none
    | none => none
  | .store t a x => match evalO E a, evalO E x, sizeO P t, as with
    | some (.pointer (some ⟨i, off, none⟩)), some v, some n, .cells c :: r => match Nat.beq v.cells.toList.length n, v.cells.toList.all Value.oneCell' with
      | true, true => some (.val undef (.set s i (.cells c true)), r, [.st s i off v.cells.toList c])
      | _, _ => none
    | _, _, _, _ => none
  | .alloc t => match zeroO P t, as with
    | some z, .idx i :: r => match ground z with
      | true => some (.val (ptrO i) (.push s (.cells z.cells.toList true)), r, [.len s i])
      | false => none
    | _, _ => none
  | .box _ x => match evalO E x, as with
    | some v, .idx i :: r => some (.val (ptrO i) (.push s (.cells v.cells.toList true)), r, [.len s i])
    | _, _ => none
  | .buildSlice t len ps => match partsO E ps.toList, P.underlying t, as with
    | some parts, some (.slice e), .idx i :: r => match zeroO P e, sizeO P e with
      | some z, some n => match ground z, Nat.ble 1 n, Nat.ble (len * n) 16777216 with
        | true, true, true => match Instr.fill (fun i => some (i * n, n)) ((Array.range (len * n)).map (z.cells[· % z.cells.size]!)) parts with
          | some cs => some (.val (.slice (some ⟨i, 0, none⟩) len n) (.push s (.cells cs.toList true)), r, [.len s i])
          | none => none
        | _, _, _ => none
      | _, _ => none
    | _, _, _ => none
  | .makeSlice t x y => match evalO E x, evalO E y, as with
    | some (.int _ n), some (.int _ k), .mk v c :: r => some (.val v (.push s (.cells c true)), r, [.mks s t n k v c])
    | _, _, _ => none
  | .indexAddr t x ix => match evalO E x, evalO E ix, P.underlying t, as with
    | some (.slice (some ⟨i, off, none⟩) len _), some (.int _ n), some (.slice e), .offs q :: r => match sizeO P e with
      | some sz => some (.val (.pointer (some ⟨i, q, none⟩)) s, r, [.off q off n len sz])
      | none => none
    | some (.pointer (some ⟨i, off, none⟩)), some (.int _ n), some (.array len e), .offs q :: r => match sizeO P e with
      | some sz => some (.val (.pointer (some ⟨i, q, none⟩)) s, r, [.off q off n len sz])
      | none => none
    | _, _, _, _ => none
  | .index t x ix => match as with
    | .num z :: r => match evalO E x, evalO E ix, P.underlying t with
      | some (.string b), some (.int _ n), some .string => some (.val (.int .u8 z) s, r, [.sidx b n z])
      | _, _, _ => pvPlain P E o s as
    | _ => pvPlain P E o s as
  | .slice t x lo hi none => match as with
    | .cut a b :: r => match evalO E x, optO E lo, optO E hi, P.underlying t with
      | some (.slice (some ⟨i, off, none⟩) len z), some lv, some hv, some (.slice e) => match sizeO P e with
        | some sz => match Nat.beq z sz with
          | true => some (.val (.slice (some ⟨i, off + a * z, none⟩) (b - a) z) s, r, [.cut lv hv len a b])
          | false => none
        | none => none
      | _, _, _, _ => none
    | _ => pvPlain P E o s as
  | .binOp op t x y _ => match as with
    | .bit z :: r => match evalO E x, evalO E y with
      | some (.int k a), some (.int k' b) => match isCmp op, decide (k = k') with
        | true, true => some (.val (.bool z) s, r, [.cmp op a b z])
        | _, _ => none
      | some (.string a), some (.string b) => some (.val (.bool z) s, r, [.scmp op a b z])
      | some (.agg a), some (.agg b) => some (.val (.bool z) s, r, [.aeq op t a b z])
      | some (.pointer (some ⟨i, o, none⟩)), some (.pointer (some ⟨j, o', none⟩)) => some (.val (.bool z) s, r, [.peq s op t i o j o' z])
      | _, _ => pvPlain P E o s as
    | .num z :: r => match evalO E x, evalO E y with
      | some (.int k a), some (.int k' b) => match isArith op, decide (k = k') with
        | true, true => some (.val (.int k z) s, r, [.arith op k a b z])
        | _, _ => none
      | _, _ => pvPlain P E o s as
    | _ => pvPlain P E o s as
  | .call c => match c.callee with
    | .value f => match evalL E c.args.toList, evalO E f with
      | some l, some fv => match evCallV fv l with
        | some (.call g a) => some (.call g a, as, [])
        | some (.yield i a) => some (.yield i a, as, [])
        | _ => none
      | _, _ => none
    | .builtin .append => match c.args.toList with
      | [x, y] => match evalO E x, evalO E y with
        | some xv, some yv => pvAppend P s c.argTypes.toList xv yv as
        | _, _ => none
      | _ => none
    | .builtin .max => match c.args.toList, as with
      | [x, y], .num z :: r => match evalO E x, evalO E y with
        | some (.int k a), some (.int _ b) => some (.val (.int k z) s, r, [.mm true a b z])
        | _, _ => none
      | _, _ => none
    | .builtin .min => match c.args.toList, as with
      | [x, y], .num z :: r => match evalO E x, evalO E y with
        | some (.int k a), some (.int _ b) => some (.val (.int k z) s, r, [.mm false a b z])
        | _, _ => none
      | _, _ => none
    | .builtin .len => pvPlain P E o s as
    | _ => none
  | _ => pvPlain P E o s as

def asksO (o : Oper) : Bool := match o.op with
  | .load .. | .store .. | .alloc .. | .box .. | .buildSlice .. | .makeSlice .. | .indexAddr .. | .binOp .. => true
  | .call c => match c.callee with
    | .builtin .append | .builtin .max | .builtin .min => true
    | _ => false
  | _ => false

/-- An operation; where the answer is 'dir' it is carried out in the heap as it stands. -/
def pvOp (P : Program) (E : Env) (o : Oper) (s : SH) (as : List Ans) : Option (POut × List Ans × List Asm) := match as with
  | .dir :: r => match asksO o with
    | true => match definedO E (tmpsOf o.op.operands.toList) with
      | true => match evOp P s.den E o with
        | some (.val v h') => some (.val v (.is h'), r, [])
        | _ => none
      | false => none
    | false => pvOp0 P E o s as
  | _ => pvOp0 P E o s as

abbrev PC := FuncId → List Value → SH → List Ans → Option (Value × SH × List Ans × List Asm)

def pvStep (P : Program) (C : PC) (E : Env) (o : Oper) (s : SH) (as : List Ans) : Option (Value × SH × List Ans × List Asm) := match pvOp P E o s as with
  | some (.val v s', r, a) => some (v, s', r, a)
  | some (.call f args, .ret v s' :: r, a) => some (v, s', r, .call f args s v s' :: a)
  | some (.call f args, .inl :: r, a) => match C f args s r with
    | some (v, s', r', b) => some (v, s', r', b ++ a)
    | none => none
  | some (.call f args, .run k :: r, a) => match evCall P k (.fn f) args s.den with
    | some (v, h') => some (v, .is h', r, a)
    | none => none
  | some (.yield i args, .ret v s' :: r, a) => some (v, s', r, .yld i args s v s' :: a)
  | _ => none

def pvOps (P : Program) (C : PC) (n : Nat) (ops : Array Oper) : List Oper → Env → SH → List Ans → Option (Env × SH × List Ans × List Asm)
  | [], E, s, as => some (E, s, as, [])
  | o :: rest, E, s, as => match wantedO ops E o with
    | some true => match pvStep P C E o s as with
      | some (v, s', r, a) => match putE n E o.dst v with
        | some E' => match pvOps P C n ops rest E' s' r with
          | some (E2, s2, r2, b) => some (E2, s2, r2, a ++ b)
          | none => none
        | none => none
      | none => none
    | some false => match putE n E o.dst undef with
      | some E' => pvOps P C n ops rest E' s as
      | none => none
    | none => none

def pvTrace (P : Program) (C : PC) (n : Nat) (ops : Array Oper) : List Oper → Env → SH → List Ans → Option (List (Env × SH) × List Ans × List Asm)
  | [], E, s, as => some ([(E, s)], as, [])
  | o :: rest, E, s, as => match wantedO ops E o with
    | some true => match pvStep P C E o s as with
      | some (v, s', r, a) => match putE n E o.dst v with
        | some E' => match pvTrace P C n ops rest E' s' r with
          | some (tr, r2, b) => some ((E, s) :: tr, r2, a ++ b)
          | none => none
        | none => none
      | none => none
    | some false => match putE n E o.dst undef with
      | some E' => match pvTrace P C n ops rest E' s as with
        | some (tr, r2, b) => some ((E, s) :: tr, r2, b)
        | none => none
      | none => none
    | none => none

/-- What a reader whose place is open must show. -/
def pairAsm (P : Program) (ops : Array Oper) (tr : List (Env × SH)) (ij : Nat × Nat) : Option (List Asm) := match ops[ij.1]?, tr[ij.1]?, tr[ij.1 + 1]?, tr[ij.2]?, tr[ij.2 + 1]? with
  | some o, some (E, s), some (E', s'), some (_, s1), some (_, s2) => match wantedO ops E o with
    | some false => some []
    | some true => match kindOf o with
     | .alloc => match s' with
      | .push _ (.cells c true) => some [.kept s s1 s2 c]
      | .is h' => match ownAt h' s.den.length with
        | some c => some [.kept s s1 s2 c]
        | none => none
      | _ => none
     | .read => match o.op, o.dst with
      | .load t x, some d => match evalO E x, look E' d with
        | some av, some v => some [.again s t av v, .again s1 t av v, .again s2 t av v]
        | _, _ => none
      | .binOp op _ x y _, some d => match evalO E x, evalO E y, look E' d with
        | some (.int k a), some (.int k' b), some (.bool z) => match isCmp op, decide (k = k') with
          | true, true => some [.cmp op a b z]
          | _, _ => none
        | some (.int k a), some (.int k' b), some (.int _ z) => match isArith op, decide (k = k') with
          | true, true => some [.arith op k a b z, .refl (.int k z)]
          | _, _ => none
        | _, _, _ => match pvPlain P E o s [] with
          | some (.val v _, _, _) => some [.refl v]
          | _ => none
      | _, _ => none
     | _ => none
    | none => none
  | _, _, _, _, _ => none

def pairAsms (P : Program) (ops : Array Oper) (tr : List (Env × SH)) : List (Nat × Nat) → Option (List Asm)
  | [] => some []
  | p :: l => match pairAsm P ops tr p, pairAsms P ops tr l with
    | some a, some b => some (a ++ b)
    | _, _ => none

def pvDraw (P : Program) (C : PC) (n : Nat) (ops : Array Oper) (E : Env) (s : SH) (as : List Ans) : Option (Env × SH × List Ans × List Asm) := match pairsOf ops with
  | [] => match pvOps P C n ops ops.toList E s as with
    | some (E', s', r, a) => some (E', s', r, .stat ops :: a)
    | none => none
  | p :: ps => match pvTrace P C n ops ops.toList E s as with
    | some (tr, r, a) => match pairAsms P ops tr (p :: ps), tr[ops.size]? with
      | some b, some (E', s') => some (E', s', r, .stat ops :: (b ++ a))
      | _, _ => none
    | none => none

/-- A loop's rounds, one by one: so many at most. -/
def pvLoop (body : Env → SH → List Ans → Option (Ex × Env × SH × List Ans × List Asm)) : Nat → Env → SH → List Ans → Option (Ex × Env × SH × List Ans × List Asm)
  | 0, _, _, _ => none
  | m + 1, E, s, as => match body E s as with
    | some (.normal, E', s', r, a) => match pvLoop body m E' s' r with
      | some (x, E2, s2, r2, b) => some (x, E2, s2, r2, a ++ b)
      | none => none
    | r => r

def pvCode (P : Program) (C : PC) (n : Nat) (rd : Bool) : Code → Env → SH → List Ans → Option (Ex × Env × SH × List Ans × List Asm)
  | .skip, E, s, as => some (.normal, E, s, as, [])
  | .label _, E, s, as => some (.normal, E, s, as, [])
  | .ret, E, s, as => some (.ret, E, s, as, [])
  | .exit id, E, s, as => some (.exit id, E, s, as, [])
  | .seq c d, E, s, as => match pvCode P C n rd c E s as with
    | some (.normal, E', s', r, a) => match pvCode P C n rd d E' s' r with
      | some (x, E2, s2, r2, b) => some (x, E2, s2, r2, a ++ b)
      | none => none
    | some (x, E', s', r, a) => some (x, E', s', r, a)
    | none => none
  | .cond c x y, E, s, as => match evalO E c with
    | some (.bool true) => pvCode P C n rd x E s as
    | some (.bool false) => pvCode P C n rd y E s as
    | _ => none
  | .block id b, E, s, as => match pvCode P C n rd b E s as with
    | some (.exit j, E', s', r, a) => match Nat.beq j id with
      | true => some (.normal, E', s', r, a)
      | false => some (.exit j, E', s', r, a)
    | r => r
  | .loop b, E, s, as => match as with
    | .loop x E' s' :: r => some (x, E', s', r, [.loop n rd b E s x E' s'])
    | .unr m :: r => pvLoop (pvCode P C n rd b) m E s r
    | _ => none
  | .region _ ops false, E, s, as => match pvOps P C n ops ops.toList E s as with
    | some (E', s', r, a) => some (.normal, E', s', r, a)
    | none => none
  | .region _ ops true, E, s, as => match pvDraw P C n (drawOps ops) E s as with
    | some (E', s', r, a) => some (.normal, E', s', r, a)
    | none => none
  | _, _, _, _ => none

def pvResult (P : Program) (E : Env) (s : SH) (as : List Ans) : ResultVar → Option (Value × List Ans × List Asm)
  | .tmp t => match look E t with
    | some v => some (v, as, [])
    | none => none
  | .cell a t => match look E a with
    | some v => pvLoad P s t v as
    | none => none

def pvResultL (P : Program) (E : Env) (s : SH) : List ResultVar → List Ans → Option (List Value × List Ans × List Asm)
  | [], as => some ([], as, [])
  | r :: l, as => match pvResult P E s as r with
    | some (v, q, a) => match pvResultL P E s l q with
      | some (vs, q', b) => some (v :: vs, q', a ++ b)
      | none => none
    | none => none

def pvResults (P : Program) (fn : Func) (E : Env) (s : SH) (as : List Ans) : Option (Value × List Ans × List Asm) := match pvResultL P E s fn.results.toList as with
  | some ([v], r, a) => some (v, r, a)
  | some (vs, r, a) => some (.tuple vs.toArray, r, a)
  | none => none

def pvFn (P : Program) (C : PC) (fn : Func) (args : List Value) (s : SH) (as : List Ans) : Option (Value × SH × List Ans × List Asm) := match args with
  | [] => none
  | _ :: _ => match fn.body with
  | some c => match pvCode P C (args.length + (fn.ntmps - args.length)) false c (enterE 0 args) s as with
    | some (.normal, E, s', r, a) => match pvResults P fn E s' r with
      | some (v, r', b) => some (v, s', r', a ++ b)
      | none => none
    | some (.ret, E, s', r, a) => match pvResults P fn E s' r with
      | some (v, r', b) => some (v, s', r', a ++ b)
      | none => none
    | _ => none
  | none => none

def pvCall (P : Program) : Nat → PC
  | 0, _, _, _, _ => none
  | k + 1, f, args, s, as => match P.funcs[f]? with
    | some fn => pvFn P (pvCall P k) fn args s as
    | none => none

end Go.Ev
