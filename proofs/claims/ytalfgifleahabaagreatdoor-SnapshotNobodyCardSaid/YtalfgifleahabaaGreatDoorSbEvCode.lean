import Derived.Test.YtalfgifleahabaaGreatDoorSbEvDraw
namespace Go.Ev

def evLoop (body : Env → Hp → Option (Ex × Env × Hp)) : Nat → Env → Hp → Option (Ex × Env × Hp)
  | 0, _, _ => none
  | k + 1, E, h => match body E h with
    | some (.normal, E', h') => evLoop body k E' h'
    | r => r

def jumpO : Option Code → Option Ex
  | none => some .normal
  | some .ret => some .ret
  | some (.exit id) => some (.exit id)
  | _ => none

def evRange (C : CallF) (n : Nat) (E : Env) (h : Hp) (g : Operand) (ps : Array Tmp) (assign body : Code) : Option (Ex × Env × Hp) := match evalO E g with
  | some gv => match evCallV gv [.func (.yield h.length) #[] #[]] with
    | some (.call f args) => match C (.fn f) args (h ++ [.loop .ready none E n ps assign body]) with
      | some (_, h2) => match h2[h.length]? with
        | some (.loop .ready pend _ _ _ _ _) => match jumpO pend with
          | some x => some (x, E, h2.set h.length .dead)
          | none => none
        | some (.loop .done pend _ _ _ _ _) => match jumpO pend with
          | some x => some (x, E, h2.set h.length .dead)
          | none => none
        | _ => none
      | none => none
    | _ => none
  | none => none

def evCode (P : Program) (C : CallF) (k n : Nat) (rd : Bool) : Code → Env → Hp → Option (Ex × Env × Hp)
  | .skip, E, h => some (.normal, E, h)
  | .label _, E, h => some (.normal, E, h)
  | .ret, E, h => some (.ret, E, h)
  | .exit id, E, h => some (.exit id, E, h)
  | .seq a b, E, h => match evCode P C k n rd a E h with
    | some (.normal, E', h') => evCode P C k n rd b E' h'
    | r => r
  | .cond c x y, E, h => match evalO E c with
    | some (.bool true) => evCode P C k n rd x E h
    | some (.bool false) => evCode P C k n rd y E h
    | _ => none
  | .block id b, E, h => match evCode P C k n rd b E h with
    | some (.exit j, E', h') => match Nat.beq j id with
      | true => some (.normal, E', h')
      | false => some (.exit j, E', h')
    | r => r
  | .loop b, E, h => evLoop (evCode P C k n rd b) k E h
  | .region _ ops false, E, h => match evOps P C n ops ops.toList E h with
    | some (E', h') => some (.normal, E', h')
    | none => none
  | .region _ ops true, E, h => match evDraw P C n (drawOps ops) E h with
    | some (E', h') => some (.normal, E', h')
    | none => none
  | .scope b, E, h => evCode P C k n rd b E h
  | .rangeFunc g ps assign body, E, h => match rd with
    | false => evRange C n E h g ps assign body
    | true => none
  | _, _, _ => none

def enterE : Nat → List Value → Env
  | _, [] => []
  | i, v :: l => (i, v) :: enterE (i + 1) l

def evResult (P : Program) (E : Env) (h : Hp) : ResultVar → Option Value
  | .tmp t => look E t
  | .cell a t => match look E a with
    | some v => evLoad P h t v
    | none => none

def evResultL (P : Program) (E : Env) (h : Hp) : List ResultVar → Option (List Value)
  | [] => some []
  | r :: l => match evResult P E h r, evResultL P E h l with
    | some v, some vs => some (v :: vs)
    | _, _ => none

def evResults (P : Program) (fn : Func) (E : Env) (h : Hp) : Option Value := match evResultL P E h fn.results.toList with
  | some [v] => some v
  | some vs => some (.tuple vs.toArray)
  | none => none

def setRound (h : Hp) (i : Nat) (st : LoopState) (pend : Option Code) : Option Hp := match h[i]? with
  | some (.loop _ _ E n ps assign body) => some (h.set i (.loop st pend E n ps assign body))
  | _ => none

def evRound (P : Program) (C : CallF) (k : Nat) (i : Nat) (args : List Value) (h : Hp) : Option (Value × Hp) := match h[i]? with
  | some (.loop _ _ E n ps assign body) => match Nat.beq ps.toList.length args.length, ps.toList.all (Nat.blt · n) with
    | true, true => match evCode P C k n true assign ((ps.toList.zip args).foldl (fun E x => x :: E) E) h with
      | some (.normal, E2, h2) => match h2[i]? with
        | some (.loop .ready pend2 _ _ _ _ _) => match setRound h2 i .busy pend2 with
          | some h3 => match evCode P C k n true body E2 h3 with
            | some (.normal, _, h4) => match setRound h4 i .ready none with
              | some h5 => some (.bool true, h5)
              | none => none
            | some (.ret, _, h4) => match setRound h4 i .done (some .ret) with
              | some h5 => some (.bool false, h5)
              | none => none
            | some (.exit id, _, h4) => match setRound h4 i .done (some (.exit id)) with
              | some h5 => some (.bool false, h5)
              | none => none
            | none => none
          | none => none
        | _ => none
      | _ => none
    | _, _ => none
  | _ => none

def evBody (P : Program) (C : CallF) (k : Nat) (f : FuncId) (args : List Value) (h : Hp) : Option (Value × Hp) := match P.funcs[f]? with
  | some fn => match fn.body with
    | some c => match evCode P C k (args.length + (fn.ntmps - args.length)) false c (enterE 0 args) h with
      | some (.normal, E, h') => match evResults P fn E h' with
        | some v => some (v, h')
        | none => none
      | some (.ret, E, h') => match evResults P fn E h' with
        | some v => some (v, h')
        | none => none
      | _ => none
    | none => none
  | none => none

/-- A function that answers one bool. -/
def closedF (P : Program) (f : FuncId) : Bool := match P.funcs[f]? with
  | some fn => match fn.resultTypes.toList with
    | [t] => match P.underlying t with
      | some .bool => true
      | _ => false
    | _ => false
  | none => false

/-- A call that took nothing from the heap, and left nothing that is seen. -/
def closedO (r : Option (Value × Hp)) (h : Hp) : Option (Value × Hp) := match r with
  | some (v, _) => match ground v with
    | true => some (v, h)
    | false => none
  | none => none

/-- A function without a body: the one that copies a map. -/
def bodyless (P : Program) (f : FuncId) : Bool := match P.funcs[f]? with
  | some fn => match fn.body with
    | some _ => false
    | none => true
  | none => false
def cloneO (h : Hp) (args : List Value) : Option (Value × Hp) := match args with
  | [.iface t (.map (some r))] => match mpAt h r with
    | some es => some (.iface t (.map (some h.length)), h ++ [.mp es])
    | none => none
  | _ => none
def externO (P : Program) (f : FuncId) (args : List Value) (h : Hp) : Option (Value × Hp) := match P.funcs[f]? with
  | some fn => match fn.name == "maps.clone" && fn.origin == "" with
    | true => cloneO h args
    | false => none
  | none => none

/-- A call, with so many calls deep, and so many rounds of each loop. (A call without arguments that answers a bool is run in a heap of its own.) -/
def evCall (P : Program) : Nat → CallF
  | 0, _, _, _ => none
  | k + 1, .fn f, args, h => match args.isEmpty && closedF P f with
    | true => closedO (evBody P (evCall P k) k f args []) h
    | false => match bodyless P f with
      | true => externO P f args h
      | false => evBody P (evCall P k) k f args h
  | k + 1, .round i, args, h => evRound P (evCall P k) k i args h

end Go.Ev
