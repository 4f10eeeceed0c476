import Derived.Test.YtahomnlkkafbjaaPlaysB
import Derived.Test.YtahomnlkkafbjaaProg
import Derived.KernelRfl
set_option linter.constructorNameAsVariable false
set_option linter.unusedVariables false
set_option maxRecDepth 100000
namespace Go.Proofs.Ytahomnlkkafbjaa
open Go Go.Ev
noncomputable abbrev PC:=pvCode Try.prog (pvCall Try.prog 0)
noncomputable abbrev PF:=pvFn Try.prog (pvCall Try.prog 0)
end Go.Proofs.Ytahomnlkkafbjaa
namespace Go.Proofs.Ytahomnlkkafbjaa.q1p
open Go Go.Ev
theorem tx_end(t:ByteArray)(k:Int)(g:Hp) :
  cutP [3,0] (PC 23 false (loopN Try.f85 0) [(3,iV k),(0,.string t)] g [.bit false]) =
  some (.exit 0,[(3,iV k),(0,.string t)],.is g,[],[.cmp .lss k (Int.ofNat (ByteArray.size t)) false]):=by intros;kernel_rfl
theorem tx_low(t:ByteArray)(k:Int)(g:Hp)(c:Int) :
  cutP [2,3,0] (PC 23 false (loopN Try.f85 0) [(3,iV k),(0,.string t)] g [.bit true,.num c,.bit true]) =
  some (.ret,[(2,bF),(3,iV k),(0,.string t)],.is g,[],[.cmp .lss k (Int.ofNat (ByteArray.size t)) true,.sidx t k c,.cmp .lss c 32 true]):=by intros;kernel_rfl
theorem tx_high(t:ByteArray)(k:Int)(g:Hp)(c:Int) :
  cutP [2,3,0] (PC 23 false (loopN Try.f85 0) [(3,iV k),(0,.string t)] g [.bit true,.num c,.bit false,.num c,.bit true]) =
  some (.ret,[(2,bF),(3,iV k),(0,.string t)],.is g,[],[.cmp .lss k (Int.ofNat (ByteArray.size t)) true,.sidx t k c,.cmp .lss c 32 false,.sidx t k c,.cmp .gtr c 126 true]):=by intros;kernel_rfl
theorem tx_go(t:ByteArray)(k:Int)(g:Hp)(c k1:Int) :
  cutP [3,0] (PC 23 false (loopN Try.f85 0) [(3,iV k),(0,.string t)] g [.bit true,.num c,.bit false,.num c,.bit false,.num k1]) =
  some (.normal,[(3,iV k1),(0,.string t)],.is g,[],[.cmp .lss k (Int.ofNat (ByteArray.size t)) true,.sidx t k c,.cmp .lss c 32 false,.sidx t k c,.cmp .gtr c 126 false,.arith .add .i64 k 1 k1]):=by intros;kernel_rfl
theorem tx_long(t:ByteArray)(g:Hp) :
  PF Try.f85 [.string t] g [.bit true] =
  some (bF,.is g,[],[.cmp .gtr (Int.ofNat (ByteArray.size t)) 60 true]):=by intros;kernel_rfl
theorem tx_yes(t:ByteArray)(g g1:Hp)(E1:Env) :
  PF Try.f85 [.string t] g [.bit false,.loop (.exit 0) E1 g1] =
  some (bT,.is g1,[],[.cmp .gtr (Int.ofNat (ByteArray.size t)) 60 false,.loop 23 false (loopN Try.f85 0) [(3,iV 0),(6,bF),(5,iN (ByteArray.size t)),(4,.string t),(2,bF),(0,.string t)] g (.exit 0) E1 g1]):=by intros;kernel_rfl
theorem tx_no(t:ByteArray)(g g1:Hp)(E1:Env) :
  PF Try.f85 [.string t] g [.bit false,.loop .ret ((2,bF)::E1) g1] =
  some (bF,.is g1,[],[.cmp .gtr (Int.ofNat (ByteArray.size t)) 60 false,.loop 23 false (loopN Try.f85 0) [(3,iV 0),(6,bF),(5,iN (ByteArray.size t)),(4,.string t),(2,bF),(0,.string t)] g .ret ((2,bF)::E1) g1]):=by intros;kernel_rfl
theorem va_0(b:Nat)(k:Int)(t:ByteArray)(z:Bool)(g:Hp) :
  let Z1:SH:=.push g (cS [iV k,.string t])
  PF Try.f78 [.agg #[iV k,.string t]] g [.idx b,.val (iV k),.bit true,.val (.string t),.bit z] =
  some (.bool z,Z1,[],[.len g b,.ld1 Z1 b 0 (iV k),.cmp .eql k 0 true,.ld1 Z1 b 1 (.string t),.scmp .eql t eS z]):=by intros;kernel_rfl
theorem va_2(b:Nat)(k:Int)(t:ByteArray)(z:Bool)(g:Hp) :
  let Z1:SH:=.push g (cS [iV k,.string t])
  PF Try.f78 [.agg #[iV k,.string t]] g [.idx b,.val (iV k),.bit false,.bit true,.val (.string t),.bit z] =
  some (.bool z,Z1,[],[.len g b,.ld1 Z1 b 0 (iV k),.cmp .eql k 0 false,.cmp .eql k 2 true,.ld1 Z1 b 1 (.string t),.scmp .eql t eS z]):=by intros;kernel_rfl
theorem va_1(b:Nat)(k:Int)(t:ByteArray)(z:Bool)(g:Hp)(g2:Hp) :
  let Z1:SH:=.push g (cS [iV k,.string t])
  PF Try.f78 [.agg #[iV k,.string t]] g [.idx b,.val (iV k),.bit false,.bit false,.bit true,.val (.string t),.ret (.bool z) g2] =
  some (.bool z,.is g2,[],[.len g b,.ld1 Z1 b 0 (iV k),.cmp .eql k 0 false,.cmp .eql k 2 false,.cmp .eql k 1 true,.ld1 Z1 b 1 (.string t),.call 85 [.string t] Z1 (.bool z) g2]):=by intros;kernel_rfl
theorem va_no(b:Nat)(k:Int)(t:ByteArray)(z:Bool)(g:Hp) :
  let Z1:SH:=.push g (cS [iV k,.string t])
  PF Try.f78 [.agg #[iV k,.string t]] g [.idx b,.val (iV k),.bit false,.bit false,.bit false] =
  some (bF,Z1,[],[.len g b,.ld1 Z1 b 0 (iV k),.cmp .eql k 0 false,.cmp .eql k 2 false,.cmp .eql k 1 false]):=by intros;kernel_rfl
theorem ru_lo(a1 a2 a3:OA)(n1 n2 n3 z1 z2 z3:Nat)(b:Nat)(n:Int)(g:Hp) :
  PF Try.f71 [.agg #[.slice a1 n1 z1,.slice a2 n2 z2,.slice a3 n3 z3],iV n] g [.idx b,.bit false] =
  some (bF,.push g (cS [.slice a1 n1 z1,.slice a2 n2 z2,.slice a3 n3 z3]),[],[.len g b,.cmp .geq n 1 false]):=by intros;kernel_rfl
theorem ru_hi(a1 a2 a3:OA)(n1 n2 n3 z1 z2 z3:Nat)(b:Nat)(n:Int)(g:Hp) :
  let Z1:SH:=.push g (cS [.slice a1 n1 z1,.slice a2 n2 z2,.slice a3 n3 z3])
  PF Try.f71 [.agg #[.slice a1 n1 z1,.slice a2 n2 z2,.slice a3 n3 z3],iV n] g [.idx b,.bit true,.val (.slice a1 n1 z1),.bit false] =
  some (bF,Z1,[],[.len g b,.cmp .geq n 1 true,.ld1 Z1 b 0 (.slice a1 n1 z1),.cmp .leq n (Int.ofNat n1) false]):=by intros;kernel_rfl
theorem ru_at(a2 a3:OA)(n2 n3 z2 z3:Nat)(o m b e:Nat)(n j:Int)(z:Bool)(g:Hp) :
  let Z1:=sL o m 6
  let Z2:SH:=.push g (cS [Z1,.slice a2 n2 z2,.slice a3 n3 z3])
  PF Try.f71 [.agg #[Z1,.slice a2 n2 z2,.slice a3 n3 z3],iV n] g [.idx b,.bit true,.val Z1,.bit true,.val Z1,.num j,.offs e,.val (.bool z)] =
  some (.bool !z,Z2,[],[.len g b,.cmp .geq n 1 true,.ld1 Z2 b 0 Z1,.cmp .leq n (Int.ofNat m) true,.ld1 Z2 b 0 Z1,.arith .sub .i64 n 1 j,.off e 0 j m 6,.ld1 Z2 o (Nat.succ e) (.bool z)]):=by intros;kernel_rfl
theorem op_lo(a1 a2 a3:OA)(n1 n2 n3 z1 z2 z3:Nat)(b:Nat)(n:Int)(g:Hp) :
  PF Try.f84 [.agg #[.slice a1 n1 z1,.slice a2 n2 z2,.slice a3 n3 z3],iV n] g [.idx b,.bit false] =
  some (bF,.push g (cS [.slice a1 n1 z1,.slice a2 n2 z2,.slice a3 n3 z3]),[],[.len g b,.cmp .geq n 1 false]):=by intros;kernel_rfl
theorem op_hi(a1 a2 a3:OA)(n1 n2 n3 z1 z2 z3:Nat)(b:Nat)(n:Int)(g:Hp) :
  let Z1:SH:=.push g (cS [.slice a1 n1 z1,.slice a2 n2 z2,.slice a3 n3 z3])
  PF Try.f84 [.agg #[.slice a1 n1 z1,.slice a2 n2 z2,.slice a3 n3 z3],iV n] g [.idx b,.bit true,.val (.slice a2 n2 z2),.bit false] =
  some (bF,Z1,[],[.len g b,.cmp .geq n 1 true,.ld1 Z1 b 1 (.slice a2 n2 z2),.cmp .leq n (Int.ofNat n2) false]):=by intros;kernel_rfl
theorem op_at(a1 a3:OA)(n1 n3 z1 z3:Nat)(o m b e:Nat)(n j:Int)(z:Bool)(g:Hp) :
  let Z1:=sL o m 6
  let Z2:SH:=.push g (cS [.slice a1 n1 z1,Z1,.slice a3 n3 z3])
  PF Try.f84 [.agg #[.slice a1 n1 z1,Z1,.slice a3 n3 z3],iV n] g [.idx b,.bit true,.val Z1,.bit true,.val Z1,.num j,.offs e,.val (.bool z)] =
  some (.bool !z,Z2,[],[.len g b,.cmp .geq n 1 true,.ld1 Z2 b 1 Z1,.cmp .leq n (Int.ofNat m) true,.ld1 Z2 b 1 Z1,.arith .sub .i64 n 1 j,.off e 0 j m 6,.ld1 Z2 o (Nat.succ (Nat.succ e)) (.bool z)]):=by intros;kernel_rfl
theorem bu_none(a1 a2 a3:OA)(n1 n2 n3 z1 z2 z3:Nat)(b:Nat)(n:Int)(g g1:Hp) :
  let Z1:LV:=[.agg #[.slice a1 n1 z1,.slice a2 n2 z2,.slice a3 n3 z3],iV n]
  let Z2:LV:=[.slice a1 n1 z1,.slice a2 n2 z2,.slice a3 n3 z3]
  let Z3:SH:=.push g (cS Z2)
  PF Try.f75 Z1 g [.idx b,.cells Z2,.ret bF g1] =
  some (iV 6,.is g1,[],[.len g b,.ldn Z3 b 0 3 Z2,.call 71 Z1 Z3 bF g1]):=by intros;kernel_rfl
theorem bu_lv(a2 a3:OA)(n2 n3 z2 z3:Nat)(o m b e:Nat)(n j:Int)(g g1:Hp) :
  let Z1:=sL o m 6
  let Z2:LV:=[.agg #[Z1,.slice a2 n2 z2,.slice a3 n3 z3],iV n]
  let Z3:LV:=[Z1,.slice a2 n2 z2,.slice a3 n3 z3]
  let Z4:SH:=.push g (cS Z3)
  PF Try.f75 Z2 g [.idx b,.cells Z3,.ret bT g1,.val Z1,.num j,.offs e,.val bT] =
  some (iV 22,.is g1,[],[.len g b,.ldn Z4 b 0 3 Z3,.call 71 Z2 Z4 bT g1,.ld1 g1 b 0 Z1,.arith .sub .i64 n 1 j,.off e 0 j m 6,.ld1 g1 o (Nat.succ (Nat.succ e)) bT]):=by intros;kernel_rfl
theorem bu_ok(a2 a3:OA)(n2 n3 z2 z3:Nat)(o m b e:Nat)(n j:Int)(g g1:Hp) :
  let Z1:=sL o m 6
  let Z2:LV:=[.agg #[Z1,.slice a2 n2 z2,.slice a3 n3 z3],iV n]
  let Z3:LV:=[Z1,.slice a2 n2 z2,.slice a3 n3 z3]
  let Z4:SH:=.push g (cS Z3)
  PF Try.f75 Z2 g [.idx b,.cells Z3,.ret bT g1,.val Z1,.num j,.offs e,.val bF] =
  some (iV 0,.is g1,[],[.len g b,.ldn Z4 b 0 3 Z3,.call 71 Z2 Z4 bT g1,.ld1 g1 b 0 Z1,.arith .sub .i64 n 1 j,.off e 0 j m 6,.ld1 g1 o (Nat.succ (Nat.succ e)) bF]):=by intros;kernel_rfl
theorem la_nil(a2 a3:OA)(n2 n3 z2 z3:Nat)(o m b c e o2 n2' e2:Nat)(ao:OA)(no zo:Nat)(n j j2 k kn:Int)(c1:LV)(g:Hp) :
  let Z1:=sL o m 6
  let Z2:LV:=[iV 0,iV 0]
  let Z3:SH:=.push g (cS [Z1,.slice a2 n2 z2,.slice a3 n3 z3])
  let Z4:AObj:=cS Z2
  let Z5:SH:=.push Z3 Z4
  let Z6:SH:=.set Z5 c Z4
  PF Try.f80 [.agg #[Z1,.slice a2 n2 z2,.slice a3 n3 z3],iV n] g [.idx b,.idx c,.val Z1,.num j,.offs e,.val (.slice ao no zo),.bit true,.cells Z2,.cells Z2] =
  some (.agg #[iV 0,iV 0],Z6,[],[.len g b,.len Z3 c,.ld1 Z5 b 0 Z1,.arith .sub .i64 n 1 j,.off e 0 j m 6,.ld1 Z5 o (Nat.succ (Nat.succ (Nat.succ (Nat.succ (Nat.succ e))))) (.slice ao no zo),.cmp .eql (Int.ofNat no) 0 true,.st Z5 c 0 Z2 Z2,.ldn Z6 c 0 2 Z2]):=by intros;kernel_rfl
theorem la_at(a2 a3:OA)(n2 n3 z2 z3:Nat)(o m b c e o2 n2' e2:Nat)(ao:OA)(no zo:Nat)(n j j2 k kn:Int)(c1:LV)(g:Hp) :
  let Z1:=sL o m 6
  let Z2:=sL o2 n2' 2
  let Z3:LV:=[iV k,iV kn]
  let Z4:SH:=.push g (cS [Z1,.slice a2 n2 z2,.slice a3 n3 z3])
  let Z5:SH:=.push Z4 (cS [iV 0,iV 0])
  let Z6:SH:=.set Z5 c (cS Z3)
  PF Try.f80 [.agg #[Z1,.slice a2 n2 z2,.slice a3 n3 z3],iV n] g [.idx b,.idx c,.val Z1,.num j,.offs e,.val Z2,.bit false,.num j2,.offs e2,.cells Z3,.cells Z3,.cells Z3] =
  some (.agg #[iV k,iV kn],Z6,[],[.len g b,.len Z4 c,.ld1 Z5 b 0 Z1,.arith .sub .i64 n 1 j,.off e 0 j m 6,.ld1 Z5 o (Nat.succ (Nat.succ (Nat.succ (Nat.succ (Nat.succ e))))) Z2,.cmp .eql (Int.ofNat n2') 0 false,.arith .sub .i64 (Int.ofNat n2') 1 j2,.off e2 0 j2 n2' 2,.ldn Z5 o2 e2 2 Z3,.st Z5 c 0 Z3 Z3,.ldn Z6 c 0 2 Z3]):=by intros;kernel_rfl
theorem id_all(a1 a3:OA)(n1 n3 z1 z3:Nat)(o m b e:Nat)(ao:OA)(no zo:Nat)(n j:Int)(E1:Env)(g g1:Hp) :
  let Z1:=sL o m 6
  let Z2:V:=.agg #[.slice a1 n1 z1,Z1,.slice a3 n3 z3]
  let Z3:SH:=.push g (cS [.slice a1 n1 z1,Z1,.slice a3 n3 z3])
  PF Try.f81 [Z2,iV n] g [.idx b,.val Z1,.num j,.offs e,.val (.slice ao no zo),.loop (.exit 0) E1 g1] =
  some (bT,.is g1,[],[.len g b,.ld1 Z3 b 1 Z1,.arith .sub .i64 n 1 j,.off e 0 j m 6,.ld1 Z3 o (Nat.succ (Nat.succ (Nat.succ e))) (.slice ao no zo),.loop 28 false (loopN Try.f81 0) [(15,iV 0),(14,iN no),(13,.slice ao no zo),(12,pT o (Nat.succ (Nat.succ (Nat.succ e)))),(11,pT o e),(10,iV j),(9,iV n),(8,Z1),(7,pT b 1),(4,bF),(2,pT b 0),(0,Z2),(1,iV n)] Z3 (.exit 0) E1 g1]):=by intros;kernel_rfl
theorem id_hit(a1 a3:OA)(n1 n3 z1 z3:Nat)(o m b e:Nat)(ao:OA)(no zo:Nat)(n j:Int)(E1:Env)(g g1:Hp) :
  let Z1:=sL o m 6
  let Z2:V:=.agg #[.slice a1 n1 z1,Z1,.slice a3 n3 z3]
  let Z3:SH:=.push g (cS [.slice a1 n1 z1,Z1,.slice a3 n3 z3])
  PF Try.f81 [Z2,iV n] g [.idx b,.val Z1,.num j,.offs e,.val (.slice ao no zo),.loop .ret ((4,bF)::E1) g1] =
  some (bF,.is g1,[],[.len g b,.ld1 Z3 b 1 Z1,.arith .sub .i64 n 1 j,.off e 0 j m 6,.ld1 Z3 o (Nat.succ (Nat.succ (Nat.succ e))) (.slice ao no zo),.loop 28 false (loopN Try.f81 0) [(15,iV 0),(14,iN no),(13,.slice ao no zo),(12,pT o (Nat.succ (Nat.succ (Nat.succ e)))),(11,pT o e),(10,iV j),(9,iV n),(8,Z1),(7,pT b 1),(4,bF),(2,pT b 0),(0,Z2),(1,iV n)] Z3 .ret ((4,bF)::E1) g1]):=by intros;kernel_rfl
theorem il_out(o m b e e2 so no zo:Nat)(ao:OA)(i i1 n j:Int)(g:Hp) :
  PC 28 false (loopN Try.f81 0) [(15,iV i),(14,iN no),(13,.slice ao no zo),(2,pT b 0)] g [.bit false] =
  some (.exit 0,[(16,bF),(15,iV i),(14,iN no),(13,.slice ao no zo),(2,pT b 0)],.is g,[],[.cmp .lss i (Int.ofNat no) false]):=by intros;kernel_rfl
theorem il_go(o m b e e2 so no zo:Nat)(ao:OA)(i i1 n j:Int)(g:Hp) :
  let Z1:=pT b 0
  let Z2:=sL o m 6
  cutP [15,6,14,13,2] (PC 28 false (loopN Try.f81 0) [(15,iV i),(14,iN no),(13,sL so no 1),(2,Z1)] g [.bit true,.offs e,.val (iV n),.val Z2,.num j,.offs e2,.val bT,.num i1]) =
  some (.normal,[(15,iV i1),(6,iV n),(14,iN no),(13,sL so no 1),(2,Z1)],.is g,[],[.cmp .lss i (Int.ofNat no) true,.off e 0 i no 1,.ld1 g so e (iV n),.ld1 g b 0 Z2,.arith .sub .i64 n 1 j,.off e2 0 j m 6,.ld1 g o (Nat.succ e2) bT,.arith .add .i64 i 1 i1]):=by intros;kernel_rfl
theorem il_hit(o m b e e2 so no zo:Nat)(ao:OA)(i i1 n j:Int)(g:Hp) :
  let Z1:=pT b 0
  let Z2:=sL o m 6
  cutP [4,6,15,14,13,2] (PC 28 false (loopN Try.f81 0) [(15,iV i),(14,iN no),(13,sL so no 1),(2,Z1)] g [.bit true,.offs e,.val (iV n),.val Z2,.num j,.offs e2,.val bF]) =
  some (.ret,[(4,bF),(6,iV n),(15,iV i),(14,iN no),(13,sL so no 1),(2,Z1)],.is g,[],[.cmp .lss i (Int.ofNat no) true,.off e 0 i no 1,.ld1 g so e (iV n),.ld1 g b 0 Z2,.arith .sub .i64 n 1 j,.off e2 0 j m 6,.ld1 g o (Nat.succ e2) bF]):=by intros;kernel_rfl
theorem pl_out(a2 a3:OA)(n2 n3 z2 z3:Nat)(o m b e:Nat)(ao:OA)(no zo:Nat)(n s j r:Int)(E1:Env)(g g1:Hp) :
  let Z1:=sL o m 6
  let Z2:V:=.agg #[Z1,.slice a2 n2 z2,.slice a3 n3 z3]
  let Z3:SH:=.push g (cS [Z1,.slice a2 n2 z2,.slice a3 n3 z3])
  let Z4:=pT b 0
  PF Try.f72 [Z2,iV n,iV s] g [.idx b,.val Z1,.num j,.offs e,.val (.slice ao no zo),.loop (.exit 0) E1 g1] =
  some (iV 0,.is g1,[],[.len g b,.ld1 Z3 b 0 Z1,.arith .sub .i64 n 1 j,.off e 0 j m 6,.ld1 Z3 o (Nat.succ (Nat.succ (Nat.succ (Nat.succ (Nat.succ e))))) (.slice ao no zo),.loop 33 false (loopN Try.f72 0) [(17,iV 0),(16,iN no),(15,.slice ao no zo),(14,pT o (Nat.succ (Nat.succ (Nat.succ (Nat.succ (Nat.succ e)))))),(13,pT o e),(12,iV j),(11,iV n),(10,Z1),(9,Z4),(6,iV 0),(3,Z4),(0,Z2),(1,iV n),(2,iV s)] Z3 (.exit 0) E1 g1]):=by intros;kernel_rfl
theorem pl_hit(a2 a3:OA)(n2 n3 z2 z3:Nat)(o m b e:Nat)(ao:OA)(no zo:Nat)(n s j r:Int)(E1:Env)(g g1:Hp) :
  let Z1:=sL o m 6
  let Z2:V:=.agg #[Z1,.slice a2 n2 z2,.slice a3 n3 z3]
  let Z3:SH:=.push g (cS [Z1,.slice a2 n2 z2,.slice a3 n3 z3])
  let Z4:=pT b 0
  PF Try.f72 [Z2,iV n,iV s] g [.idx b,.val Z1,.num j,.offs e,.val (.slice ao no zo),.loop .ret ((6,iV r)::E1) g1] =
  some (iV r,.is g1,[],[.len g b,.ld1 Z3 b 0 Z1,.arith .sub .i64 n 1 j,.off e 0 j m 6,.ld1 Z3 o (Nat.succ (Nat.succ (Nat.succ (Nat.succ (Nat.succ e))))) (.slice ao no zo),.loop 33 false (loopN Try.f72 0) [(17,iV 0),(16,iN no),(15,.slice ao no zo),(14,pT o (Nat.succ (Nat.succ (Nat.succ (Nat.succ (Nat.succ e)))))),(13,pT o e),(12,iV j),(11,iV n),(10,Z1),(9,Z4),(6,iV 0),(3,Z4),(0,Z2),(1,iV n),(2,iV s)] Z3 .ret ((6,iV r)::E1) g1]):=by intros;kernel_rfl
theorem pp_out(e c so no zo:Nat)(ao:OA)(i i1 s k n:Int)(g:Hp) :
  PC 33 false (loopN Try.f72 0) [(17,iV i),(16,iN no),(15,.slice ao no zo),(2,iV s)] g [.bit false] =
  some (.exit 0,[(18,bF),(17,iV i),(16,iN no),(15,.slice ao no zo),(2,iV s)],.is g,[],[.cmp .lss i (Int.ofNat no) false]):=by intros;kernel_rfl
theorem pp_no1(e c so no zo:Nat)(ao:OA)(i i1 s k n:Int)(g:Hp) :
  let Z1:LV:=[iV k,iV n]
  let Z2:=pT c 0
  let Z3:SH:=.push g (cS [iV 0,iV 0])
  let Z4:SH:=.set Z3 c (cS Z1)
  cutP [17,7,8,16,15,2] (PC 33 false (loopN Try.f72 0) [(17,iV i),(16,iN no),(15,sL so no 2),(2,iV s)] g [.bit true,.offs e,.cells Z1,.idx c,.cells Z1,.val (iV k),.bit false,.num i1]) =
  some (.normal,[(17,iV i1),(7,iV i),(8,Z2),(16,iN no),(15,sL so no 2),(2,iV s)],Z4,[],[.cmp .lss i (Int.ofNat no) true,.off e 0 i no 2,.ldn g so e 2 Z1,.len g c,.st Z3 c 0 Z1 Z1,.ld1 Z4 c 0 (iV k),.cmp .eql k 2 false,.arith .add .i64 i 1 i1]):=by intros;kernel_rfl
theorem pp_no2(e c so no zo:Nat)(ao:OA)(i i1 s k n:Int)(g:Hp) :
  let Z1:LV:=[iV k,iV n]
  let Z2:=pT c 0
  let Z3:SH:=.push g (cS [iV 0,iV 0])
  let Z4:SH:=.set Z3 c (cS Z1)
  cutP [17,7,8,16,15,2] (PC 33 false (loopN Try.f72 0) [(17,iV i),(16,iN no),(15,sL so no 2),(2,iV s)] g [.bit true,.offs e,.cells Z1,.idx c,.cells Z1,.val (iV k),.bit true,.val (iV n),.bit false,.num i1]) =
  some (.normal,[(17,iV i1),(7,iV i),(8,Z2),(16,iN no),(15,sL so no 2),(2,iV s)],Z4,[],[.cmp .lss i (Int.ofNat no) true,.off e 0 i no 2,.ldn g so e 2 Z1,.len g c,.st Z3 c 0 Z1 Z1,.ld1 Z4 c 0 (iV k),.cmp .eql k 2 true,.ld1 Z4 c 1 (iV n),.cmp .eql n s false,.arith .add .i64 i 1 i1]):=by intros;kernel_rfl
theorem pp_hit(e c so no zo:Nat)(ao:OA)(i i1 s k n:Int)(g:Hp) :
  let Z1:LV:=[iV k,iV n]
  let Z2:=pT c 0
  let Z3:SH:=.push g (cS [iV 0,iV 0])
  let Z4:SH:=.set Z3 c (cS Z1)
  cutP [6,7,8,17,16,15,2] (PC 33 false (loopN Try.f72 0) [(17,iV i),(16,iN no),(15,sL so no 2),(2,iV s)] g [.bit true,.offs e,.cells Z1,.idx c,.cells Z1,.val (iV k),.bit true,.val (iV n),.bit true]) =
  some (.ret,[(6,iV i),(7,iV i),(8,Z2),(17,iV i),(16,iN no),(15,sL so no 2),(2,iV s)],Z4,[],[.cmp .lss i (Int.ofNat no) true,.off e 0 i no 2,.ldn g so e 2 Z1,.len g c,.st Z3 c 0 Z1 Z1,.ld1 Z4 c 0 (iV k),.cmp .eql k 2 true,.ld1 Z4 c 1 (iV n),.cmp .eql n s true]):=by intros;kernel_rfl
theorem in_out(ao:OA)(no zo:Nat)(E1:Env)(g g1:Hp) :
  PF Try.f74 [.slice ao no zo] g [.loop (.exit 0) E1 g1] =
  some (iV 0,.is g1,[],[.loop 17 false (loopN Try.f74 0) [(7,iV 0),(6,iN no),(5,.slice ao no zo),(2,iV 0),(0,.slice ao no zo)] g (.exit 0) E1 g1]):=by intros;kernel_rfl
theorem in_hit(ao:OA)(no zo:Nat)(E1:Env)(r:Int)(g g1:Hp) :
  PF Try.f74 [.slice ao no zo] g [.loop .ret ((2,iV r)::E1) g1] =
  some (iV r,.is g1,[],[.loop 17 false (loopN Try.f74 0) [(7,iV 0),(6,iN no),(5,.slice ao no zo),(2,iV 0),(0,.slice ao no zo)] g .ret ((2,iV r)::E1) g1]):=by intros;kernel_rfl
theorem ii_out(e c so so0 no zo:Nat)(ao:OA)(i i1 k n:Int)(g:Hp) :
  PC 17 false (loopN Try.f74 0) [(7,iV i),(6,iN no),(5,.slice ao no zo)] g [.bit false] =
  some (.exit 0,[(8,bF),(7,iV i),(6,iN no),(5,.slice ao no zo)],.is g,[],[.cmp .lss i (Int.ofNat no) false]):=by intros;kernel_rfl
theorem ii_no(e c so so0 no zo:Nat)(ao:OA)(i i1 k n:Int)(g:Hp) :
  let Z1:LV:=[iV k,iV n]
  let Z2:=pT c 0
  let Z3:SH:=.push g (cS [iV 0,iV 0])
  let Z4:SH:=.set Z3 c (cS Z1)
  cutP [7,4,6,5] (PC 17 false (loopN Try.f74 0) [(7,iV i),(6,iN no),(5,.slice (some ⟨so,so0,none⟩) no 2)] g [.bit true,.offs e,.cells Z1,.idx c,.cells Z1,.val (iV k),.bit false,.num i1]) =
  some (.normal,[(7,iV i1),(4,Z2),(6,iN no),(5,.slice (some ⟨so,so0,none⟩) no 2)],Z4,[],[.cmp .lss i (Int.ofNat no) true,.off e so0 i no 2,.ldn g so e 2 Z1,.len g c,.st Z3 c 0 Z1 Z1,.ld1 Z4 c 0 (iV k),.cmp .eql k 2 false,.arith .add .i64 i 1 i1]):=by intros;kernel_rfl
theorem ii_hit(e c so so0 no zo:Nat)(ao:OA)(i i1 k n:Int)(g:Hp) :
  let Z1:LV:=[iV k,iV n]
  let Z2:=pT c 0
  let Z3:SH:=.push g (cS [iV 0,iV 0])
  let Z4:SH:=.set Z3 c (cS Z1)
  cutP [2,4,7,6,5] (PC 17 false (loopN Try.f74 0) [(7,iV i),(6,iN no),(5,.slice (some ⟨so,so0,none⟩) no 2)] g [.bit true,.offs e,.cells Z1,.idx c,.cells Z1,.val (iV k),.bit true,.val (iV n)]) =
  some (.ret,[(2,iV n),(4,Z2),(7,iV i),(6,iN no),(5,.slice (some ⟨so,so0,none⟩) no 2)],Z4,[],[.cmp .lss i (Int.ofNat no) true,.off e so0 i no 2,.ldn g so e 2 Z1,.len g c,.st Z3 c 0 Z1 Z1,.ld1 Z4 c 0 (iV k),.cmp .eql k 2 true,.ld1 Z4 c 1 (iV n)]):=by intros;kernel_rfl
theorem ou(a2 a3:OA)(n2 n3 z2 z3:Nat)(o m b e:Nat)(ao:OA)(no zo:Nat)(n j r:Int)(g g1:Hp) :
  let Z1:=sL o m 6
  let Z2:SH:=.push g (cS [Z1,.slice a2 n2 z2,.slice a3 n3 z3])
  PF Try.f73 [.agg #[Z1,.slice a2 n2 z2,.slice a3 n3 z3],iV n] g [.idx b,.val Z1,.num j,.offs e,.val (.slice ao no zo),.ret (iV r) g1] =
  some (iV r,.is g1,[],[.len g b,.ld1 Z2 b 0 Z1,.arith .sub .i64 n 1 j,.off e 0 j m 6,.ld1 Z2 o (Nat.succ (Nat.succ (Nat.succ (Nat.succ (Nat.succ e))))) (.slice ao no zo),.call 74 [.slice ao no zo] Z2 (iV r) g1]):=by intros;kernel_rfl
end Go.Proofs.Ytahomnlkkafbjaa.q1p
namespace Go.Proofs.Ytahomnlkkafbjaa.r30p
open Go Go.Ev
theorem gk(oa ob:OA)(la za zb:Nat)(g g2:Hp) :
  PF Try.f54 [.slice oa la za,.slice ob la zb] g [.bit false,.loop (.exit 0) [] g2] =
  some (bT,.is g2,[],[.cmp .neq (Int.ofNat la) (Int.ofNat la) false,.loop 26 false (loopN Try.f54 0) [(14,iV 0),(13,iN la),(12,.slice oa la za),(11,bF),(10,iN la),(9,.slice ob la zb),(8,iN la),(7,.slice oa la za),(4,bF),(0,.slice oa la za),(1,.slice ob la zb)] g (.exit 0) [] g2]):=by intros;kernel_rfl
theorem gk_out(oa ob:OA)(ln za zb:Nat)(i:Int)(g:Hp) :
  PC 26 false (loopN Try.f54 0) [(14,iV i),(13,iN ln),(12,.slice oa ln za),(1,.slice ob ln zb),(0,.slice oa ln za)] g [.bit false] =
  some (.exit 0,[(15,bF),(14,iV i),(13,iN ln),(12,.slice oa ln za),(1,.slice ob ln zb),(0,.slice oa ln za)],.is g,[],[.cmp .lss i (Int.ofNat ln) false]):=by intros;kernel_rfl
theorem gk_go(ox oy ln q d:Nat)(i i1 k n:Int)(g:Hp) :
  let Z1:=sL ox ln 2
  let Z2:=sL oy ln 2
  let Z3:LV:=[iV k,iV n]
  let Z4:V:=.agg #[iV k,iV n]
  let Z5:SH:=.push g (cS [iV 0,iV 0])
  let Z6:SH:=.set Z5 d (cS Z3)
  cutP [14,5,6,13,12,1,0] (PC 26 false (loopN Try.f54 0) [(14,iV i),(13,iN ln),(12,Z1),(1,Z2),(0,Z1)] g [.bit true,.offs q,.cells Z3,.idx d,.cells Z3,.cells Z3,.offs q,.cells Z3,.bit false,.num i1]) =
  some (.normal,[(14,iV i1),(5,iV i),(6,pT d 0),(13,iN ln),(12,Z1),(1,Z2),(0,Z1)],Z6,[],[.cmp .lss i (Int.ofNat ln) true,.off q 0 i ln 2,.ldn g ox q 2 Z3,.len g d,.st Z5 d 0 Z3 Z3,.stat (drawN Try.f54 0),.ldn Z6 d 0 2 Z3,.off q 0 i ln 2,.ldn Z6 oy q 2 Z3,.aeq .neq 44 #[iV k,iV n] #[iV k,iV n] false,.arith .add .i64 i 1 i1]):=by intros;kernel_rfl
theorem gs_00(b2 b3 ln za zb:Nat)(kn fk:Int)(ft:ByteArray)(oa ob:OA)(g g2:Hp) :
  let Z1:V:=.agg #[iV kn,bF,bF,.slice oa ln za,iV fk,.string ft]
  let Z2:V:=.agg #[iV kn,bF,bF,.slice ob ln zb,iV fk,.string ft]
  let Z3:LV:=[iV fk,.string ft]
  let Z4:SH:=.push g (cS [iV kn,bF,bF,.slice oa ln za,iV fk,.string ft])
  let Z5:SH:=.push Z4 (cS [iV kn,bF,bF,.slice ob ln zb,iV fk,.string ft])
  let Z6:=pT b2 3
  let Z7:V:=.agg #[iV fk,.string ft]
  let Z8:=pT b3 0
  let Z9:=pT b2 0
  PF Try.f35 [Z1,Z2] g [.idx b2,.idx b3,.val (iV kn),.val (iV kn),.bit false,.val bF,.val bF,.val bF,.val bF,.cells Z3,.cells Z3,.bit false,.val (.slice oa ln za),.val (.slice ob ln zb),.bit false,.val (.slice oa ln za),.loop (.exit 0) [] g2] =
  some (bT,.is g2,[],[.len g b2,.len Z4 b3,.ld1 Z5 b2 0 (iV kn),.ld1 Z5 b3 0 (iV kn),.cmp .neq kn kn false,.ld1 Z5 b2 1 bF,.ld1 Z5 b3 1 bF,.ld1 Z5 b2 2 bF,.ld1 Z5 b3 2 bF,.ldn Z5 b2 4 2 Z3,.ldn Z5 b3 4 2 Z3,.aeq .neq 30 #[iV fk,.string ft] #[iV fk,.string ft] false,.ld1 Z5 b2 3 (.slice oa ln za),.ld1 Z5 b3 3 (.slice ob ln zb),.cmp .neq (Int.ofNat ln) (Int.ofNat ln) false,.ld1 Z5 b2 3 (.slice oa ln za),.loop 58 false (loopN Try.f35 0) [(45,iV 0),(44,iN ln),(43,.slice oa ln za),(42,Z6),(41,bF),(40,bF),(39,iN ln),(38,.slice ob ln zb),(37,pT b3 3),(36,iN ln),(35,.slice oa ln za),(34,Z6),(33,bF),(32,bF),(31,bF),(30,Z7),(29,pT b3 4),(28,Z7),(27,pT b2 4),(26,bF),(25,bF),(24,bF),(23,bF),(22,pT b3 2),(21,bF),(20,pT b2 2),(19,bF),(18,bF),(17,bF),(16,bF),(15,pT b3 1),(14,bF),(13,pT b2 1),(12,bF),(11,bF),(10,iV kn),(9,Z8),(8,iV kn),(7,Z9),(4,bF),(3,Z8),(2,Z9),(0,Z1),(1,Z2)] Z5 (.exit 0) [] g2]):=by intros;kernel_rfl
theorem gs_01(b2 b3 ln za zb:Nat)(kn fk:Int)(ft:ByteArray)(oa ob:OA)(g g2:Hp) :
  let Z1:V:=.agg #[iV kn,bF,bT,.slice oa ln za,iV fk,.string ft]
  let Z2:V:=.agg #[iV kn,bF,bT,.slice ob ln zb,iV fk,.string ft]
  let Z3:LV:=[iV fk,.string ft]
  let Z4:SH:=.push g (cS [iV kn,bF,bT,.slice oa ln za,iV fk,.string ft])
  let Z5:SH:=.push Z4 (cS [iV kn,bF,bT,.slice ob ln zb,iV fk,.string ft])
  let Z6:=pT b2 3
  let Z7:V:=.agg #[iV fk,.string ft]
  let Z8:=pT b3 0
  let Z9:=pT b2 0
  PF Try.f35 [Z1,Z2] g [.idx b2,.idx b3,.val (iV kn),.val (iV kn),.bit false,.val bF,.val bF,.val bT,.val bT,.cells Z3,.cells Z3,.bit false,.val (.slice oa ln za),.val (.slice ob ln zb),.bit false,.val (.slice oa ln za),.loop (.exit 0) [] g2] =
  some (bT,.is g2,[],[.len g b2,.len Z4 b3,.ld1 Z5 b2 0 (iV kn),.ld1 Z5 b3 0 (iV kn),.cmp .neq kn kn false,.ld1 Z5 b2 1 bF,.ld1 Z5 b3 1 bF,.ld1 Z5 b2 2 bT,.ld1 Z5 b3 2 bT,.ldn Z5 b2 4 2 Z3,.ldn Z5 b3 4 2 Z3,.aeq .neq 30 #[iV fk,.string ft] #[iV fk,.string ft] false,.ld1 Z5 b2 3 (.slice oa ln za),.ld1 Z5 b3 3 (.slice ob ln zb),.cmp .neq (Int.ofNat ln) (Int.ofNat ln) false,.ld1 Z5 b2 3 (.slice oa ln za),.loop 58 false (loopN Try.f35 0) [(45,iV 0),(44,iN ln),(43,.slice oa ln za),(42,Z6),(41,bF),(40,bF),(39,iN ln),(38,.slice ob ln zb),(37,pT b3 3),(36,iN ln),(35,.slice oa ln za),(34,Z6),(33,bF),(32,bF),(31,bF),(30,Z7),(29,pT b3 4),(28,Z7),(27,pT b2 4),(26,bF),(25,bF),(24,bF),(23,bT),(22,pT b3 2),(21,bT),(20,pT b2 2),(19,bF),(18,bF),(17,bF),(16,bF),(15,pT b3 1),(14,bF),(13,pT b2 1),(12,bF),(11,bF),(10,iV kn),(9,Z8),(8,iV kn),(7,Z9),(4,bF),(3,Z8),(2,Z9),(0,Z1),(1,Z2)] Z5 (.exit 0) [] g2]):=by intros;kernel_rfl
theorem gs_10(b2 b3 ln za zb:Nat)(kn fk:Int)(ft:ByteArray)(oa ob:OA)(g g2:Hp) :
  let Z1:V:=.agg #[iV kn,bT,bF,.slice oa ln za,iV fk,.string ft]
  let Z2:V:=.agg #[iV kn,bT,bF,.slice ob ln zb,iV fk,.string ft]
  let Z3:LV:=[iV fk,.string ft]
  let Z4:SH:=.push g (cS [iV kn,bT,bF,.slice oa ln za,iV fk,.string ft])
  let Z5:SH:=.push Z4 (cS [iV kn,bT,bF,.slice ob ln zb,iV fk,.string ft])
  let Z6:=pT b2 3
  let Z7:V:=.agg #[iV fk,.string ft]
  let Z8:=pT b3 0
  let Z9:=pT b2 0
  PF Try.f35 [Z1,Z2] g [.idx b2,.idx b3,.val (iV kn),.val (iV kn),.bit false,.val bT,.val bT,.val bF,.val bF,.cells Z3,.cells Z3,.bit false,.val (.slice oa ln za),.val (.slice ob ln zb),.bit false,.val (.slice oa ln za),.loop (.exit 0) [] g2] =
  some (bT,.is g2,[],[.len g b2,.len Z4 b3,.ld1 Z5 b2 0 (iV kn),.ld1 Z5 b3 0 (iV kn),.cmp .neq kn kn false,.ld1 Z5 b2 1 bT,.ld1 Z5 b3 1 bT,.ld1 Z5 b2 2 bF,.ld1 Z5 b3 2 bF,.ldn Z5 b2 4 2 Z3,.ldn Z5 b3 4 2 Z3,.aeq .neq 30 #[iV fk,.string ft] #[iV fk,.string ft] false,.ld1 Z5 b2 3 (.slice oa ln za),.ld1 Z5 b3 3 (.slice ob ln zb),.cmp .neq (Int.ofNat ln) (Int.ofNat ln) false,.ld1 Z5 b2 3 (.slice oa ln za),.loop 58 false (loopN Try.f35 0) [(45,iV 0),(44,iN ln),(43,.slice oa ln za),(42,Z6),(41,bF),(40,bF),(39,iN ln),(38,.slice ob ln zb),(37,pT b3 3),(36,iN ln),(35,.slice oa ln za),(34,Z6),(33,bF),(32,bF),(31,bF),(30,Z7),(29,pT b3 4),(28,Z7),(27,pT b2 4),(26,bF),(25,bF),(24,bF),(23,bF),(22,pT b3 2),(21,bF),(20,pT b2 2),(19,bF),(18,bF),(17,bF),(16,bT),(15,pT b3 1),(14,bT),(13,pT b2 1),(12,bF),(11,bF),(10,iV kn),(9,Z8),(8,iV kn),(7,Z9),(4,bF),(3,Z8),(2,Z9),(0,Z1),(1,Z2)] Z5 (.exit 0) [] g2]):=by intros;kernel_rfl
theorem gs_11(b2 b3 ln za zb:Nat)(kn fk:Int)(ft:ByteArray)(oa ob:OA)(g g2:Hp) :
  let Z1:V:=.agg #[iV kn,bT,bT,.slice oa ln za,iV fk,.string ft]
  let Z2:V:=.agg #[iV kn,bT,bT,.slice ob ln zb,iV fk,.string ft]
  let Z3:LV:=[iV fk,.string ft]
  let Z4:SH:=.push g (cS [iV kn,bT,bT,.slice oa ln za,iV fk,.string ft])
  let Z5:SH:=.push Z4 (cS [iV kn,bT,bT,.slice ob ln zb,iV fk,.string ft])
  let Z6:=pT b2 3
  let Z7:V:=.agg #[iV fk,.string ft]
  let Z8:=pT b3 0
  let Z9:=pT b2 0
  PF Try.f35 [Z1,Z2] g [.idx b2,.idx b3,.val (iV kn),.val (iV kn),.bit false,.val bT,.val bT,.val bT,.val bT,.cells Z3,.cells Z3,.bit false,.val (.slice oa ln za),.val (.slice ob ln zb),.bit false,.val (.slice oa ln za),.loop (.exit 0) [] g2] =
  some (bT,.is g2,[],[.len g b2,.len Z4 b3,.ld1 Z5 b2 0 (iV kn),.ld1 Z5 b3 0 (iV kn),.cmp .neq kn kn false,.ld1 Z5 b2 1 bT,.ld1 Z5 b3 1 bT,.ld1 Z5 b2 2 bT,.ld1 Z5 b3 2 bT,.ldn Z5 b2 4 2 Z3,.ldn Z5 b3 4 2 Z3,.aeq .neq 30 #[iV fk,.string ft] #[iV fk,.string ft] false,.ld1 Z5 b2 3 (.slice oa ln za),.ld1 Z5 b3 3 (.slice ob ln zb),.cmp .neq (Int.ofNat ln) (Int.ofNat ln) false,.ld1 Z5 b2 3 (.slice oa ln za),.loop 58 false (loopN Try.f35 0) [(45,iV 0),(44,iN ln),(43,.slice oa ln za),(42,Z6),(41,bF),(40,bF),(39,iN ln),(38,.slice ob ln zb),(37,pT b3 3),(36,iN ln),(35,.slice oa ln za),(34,Z6),(33,bF),(32,bF),(31,bF),(30,Z7),(29,pT b3 4),(28,Z7),(27,pT b2 4),(26,bF),(25,bF),(24,bF),(23,bT),(22,pT b3 2),(21,bT),(20,pT b2 2),(19,bF),(18,bF),(17,bF),(16,bT),(15,pT b3 1),(14,bT),(13,pT b2 1),(12,bF),(11,bF),(10,iV kn),(9,Z8),(8,iV kn),(7,Z9),(4,bF),(3,Z8),(2,Z9),(0,Z1),(1,Z2)] Z5 (.exit 0) [] g2]):=by intros;kernel_rfl
theorem gs_out(b3 ln za:Nat)(oa:OA)(i:Int)(g:Hp) :
  PC 58 false (loopN Try.f35 0) [(45,iV i),(44,iN ln),(43,.slice oa ln za),(3,pT b3 0)] g [.bit false] =
  some (.exit 0,[(46,bF),(45,iV i),(44,iN ln),(43,.slice oa ln za),(3,pT b3 0)],.is g,[],[.cmp .lss i (Int.ofNat ln) false]):=by intros;kernel_rfl
end Go.Proofs.Ytahomnlkkafbjaa.r30p
namespace Go.Proofs.Ytahomnlkkafbjaa.r27p
open Go Go.Ev
theorem cl_nil(o n a d:Nat)(cs:LV)(g:Hp) :
  PF Try.f45 [nS] g [] =
  some (nS,.is g,[],[]):=by intros;kernel_rfl
theorem cl_0(o n a d:Nat)(cs:LV)(g:Hp) :
  let Z1:SH:=.push g (cS [])
  PF Try.f45 [sL o 0 1] g [.idx a,.app0] =
  some (sL a 0 1,Z1,[],[.len g a,.app0 Z1 o 0 0]):=by intros;kernel_rfl
theorem cl_1(o n a d:Nat)(cs:LV)(g:Hp) :
  let Z1:SH:=.push g (cS [])
  PF Try.f45 [sL o (n+1) 1] g [.idx a,.app cs cs n d] =
  some (sL d (0+(n+1)) 1,.push (.set Z1 a .dead) (cS cs),[],[.len g a,.app Z1 a 0 0 o 0 (Nat.succ n) n 1 8 cs cs d]):=by intros;kernel_rfl
theorem cp(r b k:Nat)(oa ob oc:OA)(la lb lc za zb zc:Nat)(g g1 g2 g3:Hp) :
  let Z1:=pT r 0
  let Z2:=pT b 0
  let Z3:Env:=[(3,Z2),(0,Z1)]
  let Z4:SH:=.push g (cS [nS,nS])
  PF Try.f20 [Z1] g [.idx b,.val (.slice oa la za),.loop (.exit 0) Z3 g1,.val (.slice ob lb zb),.loop (.exit 2) Z3 g2,.val (.slice oc lc zc),.loop (.exit 6) Z3 g3] =
  some (Z2,.is g3,[],[.len g b,.ld1 Z4 r 0 (.slice oa la za),.loop 177 false (loopN Try.f20 0) [(25,iV 0),(24,iN la),(23,.slice oa la za),(22,Z1),(21,Z1),(20,Z1),(3,Z2),(19,Z2),(18,.agg #[nS,nS]),(17,bF),(16,Z1),(2,.pointer none),(0,Z1)] Z4 (.exit 0) Z3 g1,.ld1 g1 r 1 (.slice ob lb zb),.loop 177 false (loopN Try.f20 1) [(47,iV 0),(46,iN lb),(45,.slice ob lb zb),(44,pT r 1),(43,Z1),(42,Z1),(3,Z2),(0,Z1)] g1 (.exit 2) Z3 g2,.ld1 g2 b 0 (.slice oc lc zc),.loop 177 false (loopN Try.f20 3) [(111,iV 0),(110,iN lc),(109,.slice oc lc zc),(108,Z2),(107,Z2),(106,Z2),(3,Z2),(0,Z1)] g2 (.exit 6) Z3 g3]):=by intros;kernel_rfl
theorem c0_out(pin op:OA)(lp zp:Nat)(n0:Int)(lv en:Bool)(fk:Int)(ft:ByteArray)(r b o q x d e z w:Nat)(oa:OA)(la za n:Nat)(i i1:Int)(c7 news cs c2:LV)(g:Hp) :
  PC 177 false (loopN Try.f20 0) [(25,iV i),(24,iN la),(23,.slice oa la za),(3,pT b 0),(0,pT r 0)] g [.bit false] =
  some (.exit 0,[(26,bF),(25,iV i),(24,iN la),(23,.slice oa la za),(3,pT b 0),(0,pT r 0)],.is g,[],[.cmp .lss i (Int.ofNat la) false]):=by intros;kernel_rfl
theorem c0_gon(pin op:OA)(lp zp:Nat)(n0:Int)(lv en:Bool)(fk:Int)(ft:ByteArray)(r b o q x d e z w:Nat)(oa:OA)(la za n:Nat)(i i1:Int)(c7 news cs c2:LV)(g:Hp) :
  let Z1:=pT b 0
  let Z2:=pT x 0
  let Z3:LV:=[iV n0,.pointer pin,.slice op lp zp,.bool lv,.bool en,iV fk,.string ft]
  let Z4:=sL z 1 1
  let Z5:=pT d 0
  let Z6:SH:=.push g (cS [iV 0,.pointer none,nS,bF,bF,iV 0,.string eS])
  let Z7:SH:=.set Z6 d (cS c7)
  let Z8:SH:=.push Z7 (cS [Z5])
  let Z9:SH:=.push Z8 (cS news)
  cutP [25,6,5,24,23,3,0] (PC 177 false (loopN Try.f20 0) [(25,iV i),(24,iN la),(23,sL o la za),(3,Z1),(0,pT r 0)] g [.bit true,.offs q,.val Z2,.cells Z3,.idx d,.cells c7,.val (nS),.idx e,.app [] news 0 z,.cells c2,.num i1]) =
  some (.normal,[(25,iV i1),(6,Z5),(5,Z2),(24,iN la),(23,sL o la za),(3,Z1),(0,pT r 0)],.set Z9 b (cS c2),[],[.cmp .lss i (Int.ofNat la) true,.off q 0 i la 1,.ld1 g o q Z2,.ldn g x 0 7 Z3,.len g d,.st Z6 d 0 Z3 c7,.ld1 Z7 b 0 (nS),.len Z7 e,.appNil Z8 e 0 1 0 1 8 news z,.st Z9 b 0 [Z4] c2,.arith .add .i64 i 1 i1]):=by intros;kernel_rfl
theorem c0_gos(pin op:OA)(lp zp:Nat)(n0:Int)(lv en:Bool)(fk:Int)(ft:ByteArray)(r b o q x d e z w:Nat)(oa:OA)(la za n:Nat)(i i1:Int)(c7 news cs c2:LV)(g:Hp) :
  let Z1:=pT b 0
  let Z2:=pT x 0
  let Z3:LV:=[iV n0,.pointer pin,.slice op lp zp,.bool lv,.bool en,iV fk,.string ft]
  let Z4:=sL w n 1
  let Z5:=sL z (Nat.succ n) 1
  let Z6:=pT d 0
  let Z7:SH:=.push g (cS [iV 0,.pointer none,nS,bF,bF,iV 0,.string eS])
  let Z8:SH:=.set Z7 d (cS c7)
  let Z9:SH:=.push Z8 (cS [Z6])
  let Z10:SH:=.push (.set Z9 w .dead) (cS cs)
  cutP [25,6,5,24,23,3,0] (PC 177 false (loopN Try.f20 0) [(25,iV i),(24,iN la),(23,sL o la za),(3,Z1),(0,pT r 0)] g [.bit true,.offs q,.val Z2,.cells Z3,.idx d,.cells c7,.val Z4,.idx e,.app cs news 0 z,.cells c2,.num i1]) =
  some (.normal,[(25,iV i1),(6,Z6),(5,Z2),(24,iN la),(23,sL o la za),(3,Z1),(0,pT r 0)],.set Z10 b (cS c2),[],[.cmp .lss i (Int.ofNat la) true,.off q 0 i la 1,.ld1 g o q Z2,.ldn g x 0 7 Z3,.len g d,.st Z7 d 0 Z3 c7,.ld1 Z8 b 0 Z4,.len Z8 e,.app Z9 w 0 n e 0 1 0 1 8 cs news z,.st Z10 b 0 [Z5] c2,.arith .add .i64 i 1 i1]):=by intros;kernel_rfl
theorem c1_out(pin op:OA)(lp zp:Nat)(n0:Int)(lv en:Bool)(fk:Int)(ft:ByteArray)(r b o q x d e z w y y2 q2 o2 l2:Nat)(oa ob:OA)(la za lb zb n:Nat)(i i1 n1 n2 n3:Int)(c8 c81 c82 news cs c2:LV)(g g1:Hp) :
  PC 177 false (loopN Try.f20 1) [(47,iV i),(46,iN la),(45,.slice oa la za),(3,pT b 0),(0,pT r 0)] g [.bit false] =
  some (.exit 2,[(48,bF),(47,iV i),(46,iN la),(45,.slice oa la za),(3,pT b 0),(0,pT r 0)],.is g,[],[.cmp .lss i (Int.ofNat la) false]):=by intros;kernel_rfl
theorem c1_gon(pin op:OA)(lp zp:Nat)(n0:Int)(lv en:Bool)(fk:Int)(ft:ByteArray)(r b o q x d e z w y y2 q2 o2 l2:Nat)(oa ob:OA)(la za lb zb n:Nat)(i i1 n1 n2 n3:Int)(c8 c81 c82 news cs c2:LV)(g g1:Hp) :
  let Z1:=pT b 0
  let Z2:=pT x 0
  let Z3:LV:=[iV n0,.pointer pin,.bool lv,.bool en,.slice op lp zp,iV n1,iV fk,.string ft]
  let Z4:=sL o2 l2 1
  let Z5:=pT y 0
  let Z6:=pT y2 0
  let Z7:=pT d 0
  let Z8:Env:=[(9,Z7),(47,iV i),(46,iN la),(45,sL o la za),(3,Z1),(0,pT r 0)]
  let Z9:=pT b 1
  let Z10:=sL z 1 1
  let Z11:SH:=.push g1 (cS [Z7])
  let Z12:SH:=.push Z11 (cS news)
  let Z13:SH:=.push g (cS [iV 0,.pointer none,bF,bF,nS,iV 0,iV 0,.string eS])
  let Z14:SH:=.set Z13 d (cS c8)
  let Z15:SH:=.set Z14 d (cS c81)
  let Z16:SH:=.set Z15 d (cS c82)
  cutP [47,9,46,45,3,0] (PC 177 false (loopN Try.f20 1) [(47,iV i),(46,iN la),(45,sL o la za),(3,Z1),(0,pT r 0)] g [.bit true,.offs q,.val Z2,.cells Z3,.idx d,.cells c8,.val Z4,.val Z5,.val (iV n2),.num n3,.offs q2,.val Z6,.cells c81,.cells c82,.val (.slice ob lb zb),.loop (.exit 4) Z8 g1,.val (nS),.idx e,.app [] news 0 z,.cells c2,.num i1]) =
  some (.normal,[(47,iV i1),(9,Z7),(46,iN la),(45,sL o la za),(3,Z1),(0,pT r 0)],.set Z12 b (cS c2),[],[.cmp .lss i (Int.ofNat la) true,.off q 0 i la 1,.ld1 g o q Z2,.ldn g x 0 8 Z3,.len g d,.st Z13 d 0 Z3 c8,.stat (drawN Try.f20 0),.ld1 Z14 b 0 Z4,.ld1 Z14 x 1 Z5,.ld1 Z14 y 0 (iV n2),.arith .sub .i64 n2 1 n3,.off q2 0 n3 l2 1,.ld1 Z14 o2 q2 Z6,.st Z14 d 1 [Z6] c81,.st Z15 d 4 [nS] c82,.ld1 Z16 x 4 (.slice ob lb zb),.loop 177 false (loopN Try.f20 2) [(75,iV 0),(74,iN lb),(73,.slice ob lb zb),(72,pT x 4),(71,Z2),(70,Z2),(69,pT d 4),(68,pT d 1),(67,Z6),(66,pT o2 q2),(65,iV n3),(64,iV n2),(63,Z5),(62,Z5),(61,Z5),(60,pT x 1),(59,Z2),(58,Z2),(57,Z4),(56,Z1),(55,Z1),(54,Z1),(9,Z7),(53,.agg #[iV n0,.pointer pin,.bool lv,.bool en,.slice op lp zp,iV n1,iV fk,.string ft]),(52,Z2),(51,Z2),(8,Z2),(50,Z2),(49,pT o q),(48,bT),(47,iV i),(46,iN la),(45,sL o la za),(3,Z1),(0,pT r 0)] Z16 (.exit 4) Z8 g1,.ld1 g1 b 1 (nS),.len g1 e,.appNil Z11 e 0 1 0 1 8 news z,.st Z12 b 1 [Z10] c2,.arith .add .i64 i 1 i1]):=by intros;kernel_rfl
theorem c1_gos(pin op:OA)(lp zp:Nat)(n0:Int)(lv en:Bool)(fk:Int)(ft:ByteArray)(r b o q x d e z w y y2 q2 o2 l2:Nat)(oa ob:OA)(la za lb zb n:Nat)(i i1 n1 n2 n3:Int)(c8 c81 c82 news cs c2:LV)(g g1:Hp) :
  let Z1:=pT b 0
  let Z2:=pT x 0
  let Z3:LV:=[iV n0,.pointer pin,.bool lv,.bool en,.slice op lp zp,iV n1,iV fk,.string ft]
  let Z4:=sL o2 l2 1
  let Z5:=pT y 0
  let Z6:=pT y2 0
  let Z7:=pT d 0
  let Z8:Env:=[(9,Z7),(47,iV i),(46,iN la),(45,sL o la za),(3,Z1),(0,pT r 0)]
  let Z9:=sL w n 1
  let Z10:=pT b 1
  let Z11:=sL z (Nat.succ n) 1
  let Z12:SH:=.push g1 (cS [Z7])
  let Z13:SH:=.push (.set Z12 w .dead) (cS cs)
  let Z14:SH:=.push g (cS [iV 0,.pointer none,bF,bF,nS,iV 0,iV 0,.string eS])
  let Z15:SH:=.set Z14 d (cS c8)
  let Z16:SH:=.set Z15 d (cS c81)
  let Z17:SH:=.set Z16 d (cS c82)
  cutP [47,9,46,45,3,0] (PC 177 false (loopN Try.f20 1) [(47,iV i),(46,iN la),(45,sL o la za),(3,Z1),(0,pT r 0)] g [.bit true,.offs q,.val Z2,.cells Z3,.idx d,.cells c8,.val Z4,.val Z5,.val (iV n2),.num n3,.offs q2,.val Z6,.cells c81,.cells c82,.val (.slice ob lb zb),.loop (.exit 4) Z8 g1,.val Z9,.idx e,.app cs news 0 z,.cells c2,.num i1]) =
  some (.normal,[(47,iV i1),(9,Z7),(46,iN la),(45,sL o la za),(3,Z1),(0,pT r 0)],.set Z13 b (cS c2),[],[.cmp .lss i (Int.ofNat la) true,.off q 0 i la 1,.ld1 g o q Z2,.ldn g x 0 8 Z3,.len g d,.st Z14 d 0 Z3 c8,.stat (drawN Try.f20 0),.ld1 Z15 b 0 Z4,.ld1 Z15 x 1 Z5,.ld1 Z15 y 0 (iV n2),.arith .sub .i64 n2 1 n3,.off q2 0 n3 l2 1,.ld1 Z15 o2 q2 Z6,.st Z15 d 1 [Z6] c81,.st Z16 d 4 [nS] c82,.ld1 Z17 x 4 (.slice ob lb zb),.loop 177 false (loopN Try.f20 2) [(75,iV 0),(74,iN lb),(73,.slice ob lb zb),(72,pT x 4),(71,Z2),(70,Z2),(69,pT d 4),(68,pT d 1),(67,Z6),(66,pT o2 q2),(65,iV n3),(64,iV n2),(63,Z5),(62,Z5),(61,Z5),(60,pT x 1),(59,Z2),(58,Z2),(57,Z4),(56,Z1),(55,Z1),(54,Z1),(9,Z7),(53,.agg #[iV n0,.pointer pin,.bool lv,.bool en,.slice op lp zp,iV n1,iV fk,.string ft]),(52,Z2),(51,Z2),(8,Z2),(50,Z2),(49,pT o q),(48,bT),(47,iV i),(46,iN la),(45,sL o la za),(3,Z1),(0,pT r 0)] Z17 (.exit 4) Z8 g1,.ld1 g1 b 1 Z9,.len g1 e,.app Z12 w 0 n e 0 1 0 1 8 cs news z,.st Z13 b 1 [Z11] c2,.arith .add .i64 i 1 i1]):=by intros;kernel_rfl
theorem c2_out(r b o q d e z w y y2 q2 o2 l2:Nat)(oa:OA)(la za n:Nat)(i i1 n0 n1:Int)(u47 u46 u45:V)(news cs c2:LV)(g:Hp) :
  PC 177 false (loopN Try.f20 2) [(75,iV i),(74,iN la),(73,.slice oa la za),(9,pT d 0),(47,u47),(46,u46),(45,u45),(3,pT b 0),(0,pT r 0)] g [.bit false] =
  some (.exit 4,[(76,bF),(75,iV i),(74,iN la),(73,.slice oa la za),(9,pT d 0),(47,u47),(46,u46),(45,u45),(3,pT b 0),(0,pT r 0)],.is g,[],[.cmp .lss i (Int.ofNat la) false]):=by intros;kernel_rfl
theorem c2_gon(r b o q d e z w y y2 q2 o2 l2:Nat)(oa:OA)(la za n:Nat)(i i1 n0 n1:Int)(u47 u46 u45:V)(news cs c2:LV)(g:Hp) :
  let Z1:=pT b 0
  let Z2:=pT y 0
  let Z3:=sL o2 l2 1
  let Z4:=pT y2 0
  let Z5:=pT d 4
  let Z6:=sL z 1 1
  let Z7:SH:=.push g (cS [Z4])
  let Z8:SH:=.push Z7 (cS news)
  cutP [75,11,74,73,9,47,46,45,3,0] (PC 177 false (loopN Try.f20 2) [(75,iV i),(74,iN la),(73,sL o la za),(9,pT d 0),(47,u47),(46,u46),(45,u45),(3,Z1),(0,pT r 0)] g [.bit true,.offs q,.val Z2,.val (nS),.val Z3,.val (iV n0),.num n1,.offs q2,.val Z4,.idx e,.app [] news 0 z,.cells c2,.num i1]) =
  some (.normal,[(75,iV i1),(11,Z2),(74,iN la),(73,sL o la za),(9,pT d 0),(47,u47),(46,u46),(45,u45),(3,Z1),(0,pT r 0)],.set Z8 d (cS c2),[],[.cmp .lss i (Int.ofNat la) true,.off q 0 i la 1,.ld1 g o q Z2,.stat (drawN Try.f20 1),.ld1 g d 4 (nS),.ld1 g b 0 Z3,.ld1 g y 0 (iV n0),.arith .sub .i64 n0 1 n1,.off q2 0 n1 l2 1,.ld1 g o2 q2 Z4,.len g e,.appNil Z7 e 0 1 0 1 8 news z,.st Z8 d 4 [Z6] c2,.arith .add .i64 i 1 i1]):=by intros;kernel_rfl
theorem c2_gos(r b o q d e z w y y2 q2 o2 l2:Nat)(oa:OA)(la za n:Nat)(i i1 n0 n1:Int)(u47 u46 u45:V)(news cs c2:LV)(g:Hp) :
  let Z1:=pT b 0
  let Z2:=pT y 0
  let Z3:=sL w n 1
  let Z4:=sL o2 l2 1
  let Z5:=pT y2 0
  let Z6:=pT d 4
  let Z7:=sL z (Nat.succ n) 1
  let Z8:SH:=.push g (cS [Z5])
  let Z9:SH:=.push (.set Z8 w .dead) (cS cs)
  cutP [75,11,74,73,9,47,46,45,3,0] (PC 177 false (loopN Try.f20 2) [(75,iV i),(74,iN la),(73,sL o la za),(9,pT d 0),(47,u47),(46,u46),(45,u45),(3,Z1),(0,pT r 0)] g [.bit true,.offs q,.val Z2,.val Z3,.val Z4,.val (iV n0),.num n1,.offs q2,.val Z5,.idx e,.app cs news 0 z,.cells c2,.num i1]) =
  some (.normal,[(75,iV i1),(11,Z2),(74,iN la),(73,sL o la za),(9,pT d 0),(47,u47),(46,u46),(45,u45),(3,Z1),(0,pT r 0)],.set Z9 d (cS c2),[],[.cmp .lss i (Int.ofNat la) true,.off q 0 i la 1,.ld1 g o q Z2,.stat (drawN Try.f20 1),.ld1 g d 4 Z3,.ld1 g b 0 Z4,.ld1 g y 0 (iV n0),.arith .sub .i64 n0 1 n1,.off q2 0 n1 l2 1,.ld1 g o2 q2 Z5,.len g e,.app Z8 w 0 n e 0 1 0 1 8 cs news z,.st Z9 d 4 [Z7] c2,.arith .add .i64 i 1 i1]):=by intros;kernel_rfl
theorem c3_out(r b o q x y y2 q2 o2 l2:Nat)(oa ob oc od:OA)(la za lb zb lc zc ld zd:Nat)(i i1 n0 n1:Int)(c1 c2:LV)(v:V)(g g1 g2:Hp) :
  PC 177 false (loopN Try.f20 3) [(111,iV i),(110,iN la),(109,.slice oa la za),(3,pT b 0),(0,pT r 0)] g [.bit false] =
  some (.exit 6,[(112,bF),(111,iV i),(110,iN la),(109,.slice oa la za),(3,pT b 0),(0,pT r 0)],.is g,[],[.cmp .lss i (Int.ofNat la) false]):=by intros;kernel_rfl
theorem c3_nil(r b o q x y y2 q2 o2 l2:Nat)(oa ob oc od:OA)(la za lb zb lc zc ld zd:Nat)(i i1 n0 n1:Int)(c1 c2:LV)(v:V)(g g1 g2:Hp) :
  let Z1:=pT x 0
  let Z2:Env:=[(13,Z1),(111,iV i),(110,iN la),(109,sL o la za),(3,pT b 0),(0,pT r 0)]
  let Z3:SH:=.set g1 x (cS c2)
  let Z4:=pT x 2
  PC 177 false (loopN Try.f20 3) [(111,iV i),(110,iN la),(109,sL o la za),(3,pT b 0),(0,pT r 0)] g [.bit true,.offs q,.val Z1,.val (.pointer none),.val (.slice ob lb zb),.ret (.slice oc lc zc) g1,.cells c2,.val (.slice od ld zd),.loop (.exit 8) Z2 g2,.num i1] =
  some (.normal,[(111,iV i1),(175,iV i1),(13,Z1),(111,iV i),(110,iN la),(109,sL o la za),(3,pT b 0),(0,pT r 0)],.is g2,[],[.cmp .lss i (Int.ofNat la) true,.off q 0 i la 1,.ld1 g o q Z1,.ld1 g x 1 (.pointer none),.ld1 g x 2 (.slice ob lb zb),.call 45 [.slice ob lb zb] g (.slice oc lc zc) g1,.st g1 x 2 [.slice oc lc zc] c2,.ld1 Z3 x 2 (.slice od ld zd),.loop 177 false (loopN Try.f20 4) [(150,iV 0),(149,iN ld),(148,.slice od ld zd),(147,Z4),(146,Z1),(145,Z1),(144,Z4),(143,Z1),(142,.slice oc lc zc),(141,.slice ob lb zb),(140,Z4),(139,Z1),(138,Z1),(137,Z1),(119,bF),(118,.pointer none),(117,pT x 1),(116,Z1),(115,Z1),(13,Z1),(114,Z1),(113,pT o q),(112,bT),(111,iV i),(110,iN la),(109,sL o la za),(3,pT b 0),(0,pT r 0)] Z3 (.exit 8) Z2 g2,.arith .add .i64 i 1 i1]):=by intros;kernel_rfl
theorem c3_in(r b o q x y y2 q2 o2 l2:Nat)(oa ob oc od:OA)(la za lb zb lc zc ld zd:Nat)(i i1 n0 n1:Int)(c1 c2:LV)(v:V)(g g1 g2:Hp) :
  let Z1:=pT b 0
  let Z2:=pT x 0
  let Z3:=pT y 0
  let Z4:=sL o2 l2 1
  let Z5:=pT y2 0
  let Z6:Env:=[(13,Z2),(111,iV i),(110,iN la),(109,sL o la za),(3,Z1),(0,pT r 0)]
  let Z7:SH:=.set g x (cS c1)
  let Z8:SH:=.set g1 x (cS c2)
  let Z9:=pT x 2
  let Z10:=pT x 1
  PC 177 false (loopN Try.f20 3) [(111,iV i),(110,iN la),(109,sL o la za),(3,Z1),(0,pT r 0)] g [.bit true,.offs q,.val Z2,.val Z3,.val Z4,.val Z3,.val (iV n0),.num n1,.offs q2,.val Z5,.cells c1,.val (.slice ob lb zb),.ret (.slice oc lc zc) g1,.cells c2,.val (.slice od ld zd),.loop (.exit 8) Z6 g2,.num i1] =
  some (.normal,[(111,iV i1),(175,iV i1),(13,Z2),(111,iV i),(110,iN la),(109,sL o la za),(3,Z1),(0,pT r 0)],.is g2,[],[.cmp .lss i (Int.ofNat la) true,.off q 0 i la 1,.ld1 g o q Z2,.ld1 g x 1 Z3,.stat (drawN Try.f20 2),.ld1 g b 1 Z4,.ld1 g x 1 Z3,.ld1 g y 0 (iV n0),.arith .sub .i64 n0 1 n1,.off q2 0 n1 l2 1,.ld1 g o2 q2 Z5,.st g x 1 [Z5] c1,.ld1 Z7 x 2 (.slice ob lb zb),.call 45 [.slice ob lb zb] Z7 (.slice oc lc zc) g1,.st g1 x 2 [.slice oc lc zc] c2,.ld1 Z8 x 2 (.slice od ld zd),.loop 177 false (loopN Try.f20 4) [(150,iV 0),(149,iN ld),(148,.slice od ld zd),(147,Z9),(146,Z2),(145,Z2),(144,Z9),(143,Z2),(142,.slice oc lc zc),(141,.slice ob lb zb),(140,Z9),(139,Z2),(138,Z2),(137,Z2),(136,Z10),(135,Z2),(134,Z5),(133,pT o2 q2),(132,iV n1),(131,iV n0),(130,Z3),(129,Z3),(128,Z3),(127,Z10),(126,Z2),(125,Z2),(124,Z4),(123,pT b 1),(122,Z1),(121,Z1),(120,Z2),(119,bT),(118,Z3),(117,Z10),(116,Z2),(115,Z2),(13,Z2),(114,Z2),(113,pT o q),(112,bT),(111,iV i),(110,iN la),(109,sL o la za),(3,Z1),(0,pT r 0)] Z8 (.exit 8) Z6 g2,.arith .add .i64 i 1 i1]):=by intros;kernel_rfl
theorem c4_out(r b o q x y y2 q2 o2 l2 o3 q3:Nat)(oa:OA)(la za:Nat)(i i1 n0 n1:Int)(u11 u10 u09:V)(c1:LV)(g:Hp) :
  PC 177 false (loopN Try.f20 4) [(150,iV i),(149,iN la),(148,.slice oa la za),(13,pT x 0),(111,u11),(110,u10),(109,u09),(3,pT b 0),(0,pT r 0)] g [.bit false] =
  some (.exit 8,[(151,bF),(150,iV i),(149,iN la),(148,.slice oa la za),(13,pT x 0),(111,u11),(110,u10),(109,u09),(3,pT b 0),(0,pT r 0)],.is g,[],[.cmp .lss i (Int.ofNat la) false]):=by intros;kernel_rfl
theorem c4_nil(r b o q x y y2 q2 o2 l2 o3 q3:Nat)(oa:OA)(la za:Nat)(i i1 n0 n1:Int)(u11 u10 u09:V)(c1:LV)(g:Hp) :
  cutP [150,15,14,149,148,13,111,110,109,3,0] (PC 177 false (loopN Try.f20 4) [(150,iV i),(149,iN la),(148,sL o la 1),(13,pT x 0),(111,u11),(110,u10),(109,u09),(3,pT b 0),(0,pT r 0)] g [.bit true,.offs q,.val (.pointer none),.num i1]) =
  some (.normal,[(150,iV i1),(15,.pointer none),(14,iV i),(149,iN la),(148,sL o la 1),(13,pT x 0),(111,u11),(110,u10),(109,u09),(3,pT b 0),(0,pT r 0)],.is g,[],[.cmp .lss i (Int.ofNat la) true,.off q 0 i la 1,.ld1 g o q (.pointer none),.arith .add .i64 i 1 i1]):=by intros;kernel_rfl
theorem c4_go(r b o q x y y2 q2 o2 l2 o3 q3:Nat)(oa:OA)(la za:Nat)(i i1 n0 n1:Int)(u11 u10 u09:V)(c1:LV)(g:Hp) :
  let Z1:=pT x 0
  let Z2:=pT b 0
  let Z3:=pT y 0
  let Z4:=sL o3 la 1
  let Z5:=sL o2 l2 1
  let Z6:=pT y2 0
  cutP [150,15,14,149,148,13,111,110,109,3,0] (PC 177 false (loopN Try.f20 4) [(150,iV i),(149,iN la),(148,sL o la 1),(13,Z1),(111,u11),(110,u10),(109,u09),(3,Z2),(0,pT r 0)] g [.bit true,.offs q,.val Z3,.val Z4,.val Z5,.val (iV n0),.num n1,.offs q2,.val Z6,.offs q3,.cells c1,.num i1]) =
  some (.normal,[(150,iV i1),(15,Z3),(14,iV i),(149,iN la),(148,sL o la 1),(13,Z1),(111,u11),(110,u10),(109,u09),(3,Z2),(0,pT r 0)],.set g o3 (cS c1),[],[.cmp .lss i (Int.ofNat la) true,.off q 0 i la 1,.ld1 g o q Z3,.stat (drawN Try.f20 3),.ld1 g x 2 Z4,.ld1 g b 1 Z5,.ld1 g y 0 (iV n0),.arith .sub .i64 n0 1 n1,.off q2 0 n1 l2 1,.ld1 g o2 q2 Z6,.off q3 0 i la 1,.st g o3 q3 [Z6] c1,.arith .add .i64 i 1 i1]):=by intros;kernel_rfl
end Go.Proofs.Ytahomnlkkafbjaa.r27p
namespace Go.Proofs.Ytahomnlkkafbjaa.r17p
open Go Go.Ev
end Go.Proofs.Ytahomnlkkafbjaa.r17p
namespace Go.Proofs.Ytahomnlkkafbjaa.r15p
open Go Go.Ev
end Go.Proofs.Ytahomnlkkafbjaa.r15p
namespace Go.Proofs.Ytahomnlkkafbjaa.r13p
open Go Go.Ev
theorem ta_low(r b4 b7 to len q k s oo ol:Nat)(n n1 sn fk:Int)(en lv:Bool)(ft:ByteArray)(c7 c8 c9 out:LV)(oa:OA)(la za:Nat)(g g2:Hp) :
  let Z1:LV:=[iV 0,bF,bF,iV 0,.string eS,nS]
  let Z2:AObj:=cS Z1
  let Z3:SH:=.push g Z2
  let Z4:SH:=.set Z3 b4 Z2
  PF Try.f13 [pT r 0,iV n] g [.idx b4,.bit true,.cells [iV 0,bF,bF,iV 0,.string eS,nS],.cells [iV 0,bF,bF,iV 0,.string eS,nS]] =
  some (.tuple #[.agg { toList:=Z1 },iV 6],Z4,[],[.len g b4,.cmp .lss n 1 true,.st Z3 b4 0 Z1 Z1,.ldn Z4 b4 0 6 Z1]):=by intros;kernel_rfl
theorem ta_highn(r b4 b7 to len q k s oo ol:Nat)(n n1 sn fk:Int)(en lv:Bool)(ft:ByteArray)(c7 c8 c9 out:LV)(oa:OA)(la za:Nat)(g g2:Hp) :
  let Z1:LV:=[iV 0,bF,bF,iV 0,.string eS,nS]
  let Z2:AObj:=cS Z1
  let Z3:SH:=.push g Z2
  let Z4:SH:=.set Z3 b4 Z2
  PF Try.f13 [pT r 0,iV n] g [.idx b4,.bit false,.val (nS),.bit true,.cells [iV 0,bF,bF,iV 0,.string eS,nS],.cells [iV 0,bF,bF,iV 0,.string eS,nS]] =
  some (.tuple #[.agg { toList:=Z1 },iV 6],Z4,[],[.len g b4,.cmp .lss n 1 false,.ld1 Z3 r 0 (nS),.cmp .gtr n 0 true,.st Z3 b4 0 Z1 Z1,.ldn Z4 b4 0 6 Z1]):=by intros;kernel_rfl
theorem ta_highs(r b4 b7 to len q k s oo ol:Nat)(n n1 sn fk:Int)(en lv:Bool)(ft:ByteArray)(c7 c8 c9 out:LV)(oa:OA)(la za:Nat)(g g2:Hp) :
  let Z1:=sL to len 1
  let Z2:LV:=[iV 0,bF,bF,iV 0,.string eS,nS]
  let Z3:AObj:=cS Z2
  let Z4:SH:=.push g Z3
  let Z5:SH:=.set Z4 b4 Z3
  PF Try.f13 [pT r 0,iV n] g [.idx b4,.bit false,.val Z1,.bit true,.cells [iV 0,bF,bF,iV 0,.string eS,nS],.cells [iV 0,bF,bF,iV 0,.string eS,nS]] =
  some (.tuple #[.agg { toList:=Z2 },iV 6],Z5,[],[.len g b4,.cmp .lss n 1 false,.ld1 Z4 r 0 Z1,.cmp .gtr n (Int.ofNat len) true,.st Z4 b4 0 Z2 Z2,.ldn Z5 b4 0 6 Z2]):=by intros;kernel_rfl
theorem ta_000(r b4 b7 to len q k s oo ol:Nat)(n n1 sn fk:Int)(en lv:Bool)(ft:ByteArray)(c7 c8 c9 out:LV)(oa:OA)(la za:Nat)(g g2:Hp) :
  let Z1:=sL to len 1
  let Z2:=pT k 0
  let Z3:LV:=[iV 0,bF,.bool lv,iV 0,.string eS,nS]
  let Z4:AObj:=cS [iV 0,bF,bF,iV 0,.string eS,nS]
  let Z5:SH:=.push g Z4
  let Z6:SH:=.push Z5 Z4
  let Z7:SH:=.set Z6 b7 (cS c7)
  let Z8:SH:=.set Z7 b4 (cS Z3)
  PF Try.f13 [pT r 0,iV n] g [.idx b4,.bit false,.val Z1,.bit false,.val Z1,.num n1,.offs q,.val Z2,.val bF,.val (.bool lv),.idx b7,.cells c7,.val (.pointer none),.val bF,.val (nS),.unr 1,.bit false,.cells [iV 0,bF,.bool lv,iV 0,.string eS,nS],.cells [iV 0,bF,.bool lv,iV 0,.string eS,nS],.cells [iV 0,bF,.bool lv,iV 0,.string eS,nS]] =
  some (.tuple #[.agg { toList:=Z3 },iV 0],Z8,[],[.len g b4,.cmp .lss n 1 false,.ld1 Z5 r 0 Z1,.cmp .gtr n (Int.ofNat len) false,.ld1 Z5 r 0 Z1,.arith .sub .i64 n 1 n1,.off q 0 n1 len 1,.ld1 Z5 to q Z2,.stat (drawN Try.f13 0),.ld1 Z5 k 4 bF,.ld1 Z5 k 3 (.bool lv),.len Z5 b7,.st Z6 b7 0 Z3 c7,.ld1 Z7 k 1 (.pointer none),.ld1 Z7 k 4 bF,.ld1 Z7 k 2 (nS),.cmp .lss 0 0 false,.ldn Z7 b7 0 6 Z3,.st Z7 b4 0 Z3 Z3,.ldn Z8 b4 0 6 Z3]):=by intros;kernel_rfl
theorem ta_001(r b4 b7 to len q k s oo ol:Nat)(n n1 sn fk:Int)(en lv:Bool)(ft:ByteArray)(c7 c8 c9 out:LV)(oa:OA)(la za:Nat)(g g2:Hp) :
  let Z1:=pT r 0
  let Z2:=sL to len 1
  let Z3:=pT k 0
  let Z4:=sL oo ol 1
  let Z5:Env:=[(7,pT b7 0),(4,pT b4 0)]
  let Z6:LV:=[iV 0,bF,.bool lv,iV 0,.string eS,.slice oa la za]
  let Z7:SH:=.set g2 b4 (cS Z6)
  let Z8:AObj:=cS [iV 0,bF,bF,iV 0,.string eS,nS]
  let Z9:SH:=.push g Z8
  let Z10:SH:=.push Z9 Z8
  let Z11:LV:=[iV 0,bF,.bool lv,iV 0,.string eS,nS]
  let Z12:SH:=.set Z10 b7 (cS c7)
  let Z13:=pT k 4
  PF Try.f13 [Z1,iV n] g [.idx b4,.bit false,.val Z2,.bit false,.val Z2,.num n1,.offs q,.val Z3,.val bF,.val (.bool lv),.idx b7,.cells c7,.val (.pointer none),.val bF,.val Z4,.loop (.exit 1) Z5 g2,.cells [iV 0,bF,.bool lv,iV 0,.string eS,.slice oa la za],.cells [iV 0,bF,.bool lv,iV 0,.string eS,.slice oa la za],.cells [iV 0,bF,.bool lv,iV 0,.string eS,.slice oa la za]] =
  some (.tuple #[.agg { toList:=Z6 },iV 0],Z7,[],[.len g b4,.cmp .lss n 1 false,.ld1 Z9 r 0 Z2,.cmp .gtr n (Int.ofNat len) false,.ld1 Z9 r 0 Z2,.arith .sub .i64 n 1 n1,.off q 0 n1 len 1,.ld1 Z9 to q Z3,.stat (drawN Try.f13 0),.ld1 Z9 k 4 bF,.ld1 Z9 k 3 (.bool lv),.len Z9 b7,.st Z10 b7 0 Z11 c7,.ld1 Z12 k 1 (.pointer none),.ld1 Z12 k 4 bF,.ld1 Z12 k 2 Z4,.loop 84 false (loopN Try.f13 0) [(71,iV 0),(70,iN ol),(69,Z4),(68,pT k 2),(67,Z3),(66,Z3),(60,bF),(59,Z13),(58,Z3),(57,Z3),(48,bF),(47,.pointer none),(46,pT k 1),(45,Z3),(44,Z3),(7,pT b7 0),(43,.agg { toList:=Z11 }),(42,.bool lv),(41,pT k 3),(40,Z3),(39,Z3),(38,bF),(37,Z13),(36,Z3),(35,Z3),(6,Z3),(34,Z3),(33,pT to q),(32,iV n1),(31,iV n),(30,Z2),(29,Z1),(28,Z1),(27,Z1),(14,bF),(25,bF),(24,bF),(23,iN len),(22,Z2),(21,Z1),(20,Z1),(19,Z1),(18,iV n),(17,bF),(16,bF),(15,iV n),(10,bF),(12,bF),(11,Z1),(5,iV 0),(4,pT b4 0),(0,Z1),(1,iV n)] Z12 (.exit 1) Z5 g2,.ldn g2 b7 0 6 Z6,.st g2 b4 0 Z6 Z6,.ldn Z7 b4 0 6 Z6]):=by intros;kernel_rfl
theorem ta_010(r b4 b7 to len q k s oo ol:Nat)(n n1 sn fk:Int)(en lv:Bool)(ft:ByteArray)(c7 c8 c9 out:LV)(oa:OA)(la za:Nat)(g g2:Hp) :
  let Z1:=sL to len 1
  let Z2:=pT k 0
  let Z3:LV:=[iV fk,.string ft]
  let Z4:LV:=[iV 0,bT,.bool lv,iV fk,.string ft,nS]
  let Z5:AObj:=cS [iV 0,bF,bF,iV 0,.string eS,nS]
  let Z6:SH:=.push g Z5
  let Z7:SH:=.push Z6 Z5
  let Z8:SH:=.set Z7 b7 (cS c7)
  let Z9:SH:=.set Z8 b7 (cS c9)
  let Z10:SH:=.set Z9 b4 (cS Z4)
  PF Try.f13 [pT r 0,iV n] g [.idx b4,.bit false,.val Z1,.bit false,.val Z1,.num n1,.offs q,.val Z2,.val bT,.val (.bool lv),.idx b7,.cells c7,.val (.pointer none),.val bT,.cells Z3,.cells c9,.val (nS),.unr 1,.bit false,.cells Z4,.cells Z4,.cells Z4] =
  some (.tuple { toList:=[.agg #[iV 0,bT,.bool lv,iV fk,.string ft,nS],iV 0] },Z10,[],[.len g b4,.cmp .lss n 1 false,.ld1 Z6 r 0 Z1,.cmp .gtr n (Int.ofNat len) false,.ld1 Z6 r 0 Z1,.arith .sub .i64 n 1 n1,.off q 0 n1 len 1,.ld1 Z6 to q Z2,.stat (drawN Try.f13 0),.ld1 Z6 k 4 bT,.ld1 Z6 k 3 (.bool lv),.len Z6 b7,.st Z7 b7 0 [iV 0,bT,.bool lv,iV 0,.string eS,nS] c7,.ld1 Z8 k 1 (.pointer none),.ld1 Z8 k 4 bT,.ldn Z8 k 5 2 Z3,.st Z8 b7 3 Z3 c9,.ld1 Z9 k 2 (nS),.cmp .lss 0 0 false,.ldn Z9 b7 0 6 Z4,.st Z9 b4 0 Z4 Z4,.ldn Z10 b4 0 6 Z4]):=by intros;kernel_rfl
theorem ta_011(r b4 b7 to len q k s oo ol:Nat)(n n1 sn fk:Int)(en lv:Bool)(ft:ByteArray)(c7 c8 c9 out:LV)(oa:OA)(la za:Nat)(g g2:Hp) :
  let Z1:=pT r 0
  let Z2:=sL to len 1
  let Z3:=pT k 0
  let Z4:LV:=[iV fk,.string ft]
  let Z5:=sL oo ol 1
  let Z6:Env:=[(7,pT b7 0),(4,pT b4 0)]
  let Z7:LV:=[iV 0,bT,.bool lv,iV fk,.string ft,.slice oa la za]
  let Z8:SH:=.set g2 b4 (cS Z7)
  let Z9:AObj:=cS [iV 0,bF,bF,iV 0,.string eS,nS]
  let Z10:SH:=.push g Z9
  let Z11:SH:=.push Z10 Z9
  let Z12:LV:=[iV 0,bT,.bool lv,iV 0,.string eS,nS]
  let Z13:SH:=.set Z11 b7 (cS c7)
  let Z14:SH:=.set Z13 b7 (cS c9)
  let Z15:=pT k 4
  PF Try.f13 [Z1,iV n] g [.idx b4,.bit false,.val Z2,.bit false,.val Z2,.num n1,.offs q,.val Z3,.val bT,.val (.bool lv),.idx b7,.cells c7,.val (.pointer none),.val bT,.cells Z4,.cells c9,.val Z5,.loop (.exit 1) Z6 g2,.cells Z7,.cells Z7,.cells Z7] =
  some (.tuple { toList:=[.agg #[iV 0,bT,.bool lv,iV fk,.string ft,.slice oa la za],iV 0] },Z8,[],[.len g b4,.cmp .lss n 1 false,.ld1 Z10 r 0 Z2,.cmp .gtr n (Int.ofNat len) false,.ld1 Z10 r 0 Z2,.arith .sub .i64 n 1 n1,.off q 0 n1 len 1,.ld1 Z10 to q Z3,.stat (drawN Try.f13 0),.ld1 Z10 k 4 bT,.ld1 Z10 k 3 (.bool lv),.len Z10 b7,.st Z11 b7 0 Z12 c7,.ld1 Z13 k 1 (.pointer none),.ld1 Z13 k 4 bT,.ldn Z13 k 5 2 Z4,.st Z13 b7 3 Z4 c9,.ld1 Z14 k 2 Z5,.loop 84 false (loopN Try.f13 0) [(71,iV 0),(70,iN ol),(69,Z5),(68,pT k 2),(67,Z3),(66,Z3),(65,pT b7 3),(64,.agg #[iV fk,.string ft]),(63,pT k 5),(62,Z3),(61,Z3),(60,bT),(59,Z15),(58,Z3),(57,Z3),(48,bF),(47,.pointer none),(46,pT k 1),(45,Z3),(44,Z3),(7,pT b7 0),(43,.agg { toList:=Z12 }),(42,.bool lv),(41,pT k 3),(40,Z3),(39,Z3),(38,bT),(37,Z15),(36,Z3),(35,Z3),(6,Z3),(34,Z3),(33,pT to q),(32,iV n1),(31,iV n),(30,Z2),(29,Z1),(28,Z1),(27,Z1),(14,bF),(25,bF),(24,bF),(23,iN len),(22,Z2),(21,Z1),(20,Z1),(19,Z1),(18,iV n),(17,bF),(16,bF),(15,iV n),(10,bF),(12,bF),(11,Z1),(5,iV 0),(4,pT b4 0),(0,Z1),(1,iV n)] Z14 (.exit 1) Z6 g2,.ldn g2 b7 0 6 Z7,.st g2 b4 0 Z7 Z7,.ldn Z8 b4 0 6 Z7]):=by intros;kernel_rfl
theorem ta_100(r b4 b7 to len q k s oo ol:Nat)(n n1 sn fk:Int)(en lv:Bool)(ft:ByteArray)(c7 c8 c9 out:LV)(oa:OA)(la za:Nat)(g g2:Hp) :
  let Z1:=sL to len 1
  let Z2:=pT k 0
  let Z3:=pT s 0
  let Z4:LV:=[iV sn,bF,.bool lv,iV 0,.string eS,nS]
  let Z5:AObj:=cS [iV 0,bF,bF,iV 0,.string eS,nS]
  let Z6:SH:=.push g Z5
  let Z7:SH:=.push Z6 Z5
  let Z8:SH:=.set Z7 b7 (cS c7)
  let Z9:SH:=.set Z8 b7 (cS c8)
  let Z10:SH:=.set Z9 b4 (cS Z4)
  PF Try.f13 [pT r 0,iV n] g [.idx b4,.bit false,.val Z1,.bit false,.val Z1,.num n1,.offs q,.val Z2,.val bF,.val (.bool lv),.idx b7,.cells c7,.val Z3,.val Z3,.val (iV sn),.cells c8,.val bF,.val (nS),.unr 1,.bit false,.cells [iV sn,bF,.bool lv,iV 0,.string eS,nS],.cells [iV sn,bF,.bool lv,iV 0,.string eS,nS],.cells [iV sn,bF,.bool lv,iV 0,.string eS,nS]] =
  some (.tuple #[.agg { toList:=Z4 },iV 0],Z10,[],[.len g b4,.cmp .lss n 1 false,.ld1 Z6 r 0 Z1,.cmp .gtr n (Int.ofNat len) false,.ld1 Z6 r 0 Z1,.arith .sub .i64 n 1 n1,.off q 0 n1 len 1,.ld1 Z6 to q Z2,.stat (drawN Try.f13 0),.ld1 Z6 k 4 bF,.ld1 Z6 k 3 (.bool lv),.len Z6 b7,.st Z7 b7 0 [iV 0,bF,.bool lv,iV 0,.string eS,nS] c7,.ld1 Z8 k 1 Z3,.ld1 Z8 k 1 Z3,.ld1 Z8 s 0 (iV sn),.st Z8 b7 0 [iV sn] c8,.ld1 Z9 k 4 bF,.ld1 Z9 k 2 (nS),.cmp .lss 0 0 false,.ldn Z9 b7 0 6 Z4,.st Z9 b4 0 Z4 Z4,.ldn Z10 b4 0 6 Z4]):=by intros;kernel_rfl
theorem ta_101(r b4 b7 to len q k s oo ol:Nat)(n n1 sn fk:Int)(en lv:Bool)(ft:ByteArray)(c7 c8 c9 out:LV)(oa:OA)(la za:Nat)(g g2:Hp) :
  let Z1:=pT r 0
  let Z2:=sL to len 1
  let Z3:=pT k 0
  let Z4:=pT s 0
  let Z5:=sL oo ol 1
  let Z6:=pT b7 0
  let Z7:Env:=[(7,Z6),(4,pT b4 0)]
  let Z8:LV:=[iV sn,bF,.bool lv,iV 0,.string eS,.slice oa la za]
  let Z9:SH:=.set g2 b4 (cS Z8)
  let Z10:AObj:=cS [iV 0,bF,bF,iV 0,.string eS,nS]
  let Z11:SH:=.push g Z10
  let Z12:SH:=.push Z11 Z10
  let Z13:LV:=[iV 0,bF,.bool lv,iV 0,.string eS,nS]
  let Z14:SH:=.set Z12 b7 (cS c7)
  let Z15:SH:=.set Z14 b7 (cS c8)
  let Z16:=pT k 4
  let Z17:=pT k 1
  PF Try.f13 [Z1,iV n] g [.idx b4,.bit false,.val Z2,.bit false,.val Z2,.num n1,.offs q,.val Z3,.val bF,.val (.bool lv),.idx b7,.cells c7,.val Z4,.val Z4,.val (iV sn),.cells c8,.val bF,.val Z5,.loop (.exit 1) Z7 g2,.cells [iV sn,bF,.bool lv,iV 0,.string eS,.slice oa la za],.cells [iV sn,bF,.bool lv,iV 0,.string eS,.slice oa la za],.cells [iV sn,bF,.bool lv,iV 0,.string eS,.slice oa la za]] =
  some (.tuple #[.agg { toList:=Z8 },iV 0],Z9,[],[.len g b4,.cmp .lss n 1 false,.ld1 Z11 r 0 Z2,.cmp .gtr n (Int.ofNat len) false,.ld1 Z11 r 0 Z2,.arith .sub .i64 n 1 n1,.off q 0 n1 len 1,.ld1 Z11 to q Z3,.stat (drawN Try.f13 0),.ld1 Z11 k 4 bF,.ld1 Z11 k 3 (.bool lv),.len Z11 b7,.st Z12 b7 0 Z13 c7,.ld1 Z14 k 1 Z4,.ld1 Z14 k 1 Z4,.ld1 Z14 s 0 (iV sn),.st Z14 b7 0 [iV sn] c8,.ld1 Z15 k 4 bF,.ld1 Z15 k 2 Z5,.loop 84 false (loopN Try.f13 0) [(71,iV 0),(70,iN ol),(69,Z5),(68,pT k 2),(67,Z3),(66,Z3),(60,bF),(59,Z16),(58,Z3),(57,Z3),(56,Z6),(55,iV sn),(54,Z4),(53,Z4),(52,Z4),(51,Z17),(50,Z3),(49,Z3),(48,bT),(47,Z4),(46,Z17),(45,Z3),(44,Z3),(7,Z6),(43,.agg { toList:=Z13 }),(42,.bool lv),(41,pT k 3),(40,Z3),(39,Z3),(38,bF),(37,Z16),(36,Z3),(35,Z3),(6,Z3),(34,Z3),(33,pT to q),(32,iV n1),(31,iV n),(30,Z2),(29,Z1),(28,Z1),(27,Z1),(14,bF),(25,bF),(24,bF),(23,iN len),(22,Z2),(21,Z1),(20,Z1),(19,Z1),(18,iV n),(17,bF),(16,bF),(15,iV n),(10,bF),(12,bF),(11,Z1),(5,iV 0),(4,pT b4 0),(0,Z1),(1,iV n)] Z15 (.exit 1) Z7 g2,.ldn g2 b7 0 6 Z8,.st g2 b4 0 Z8 Z8,.ldn Z9 b4 0 6 Z8]):=by intros;kernel_rfl
theorem ta_110(r b4 b7 to len q k s oo ol:Nat)(n n1 sn fk:Int)(en lv:Bool)(ft:ByteArray)(c7 c8 c9 out:LV)(oa:OA)(la za:Nat)(g g2:Hp) :
  let Z1:=sL to len 1
  let Z2:=pT k 0
  let Z3:=pT s 0
  let Z4:LV:=[iV fk,.string ft]
  let Z5:LV:=[iV sn,bT,.bool lv,iV fk,.string ft,nS]
  let Z6:AObj:=cS [iV 0,bF,bF,iV 0,.string eS,nS]
  let Z7:SH:=.push g Z6
  let Z8:SH:=.push Z7 Z6
  let Z9:SH:=.set Z8 b7 (cS c7)
  let Z10:SH:=.set Z9 b7 (cS c8)
  let Z11:SH:=.set Z10 b7 (cS c9)
  let Z12:SH:=.set Z11 b4 (cS Z5)
  PF Try.f13 [pT r 0,iV n] g [.idx b4,.bit false,.val Z1,.bit false,.val Z1,.num n1,.offs q,.val Z2,.val bT,.val (.bool lv),.idx b7,.cells c7,.val Z3,.val Z3,.val (iV sn),.cells c8,.val bT,.cells Z4,.cells c9,.val (nS),.unr 1,.bit false,.cells Z5,.cells Z5,.cells Z5] =
  some (.tuple { toList:=[.agg #[iV sn,bT,.bool lv,iV fk,.string ft,nS],iV 0] },Z12,[],[.len g b4,.cmp .lss n 1 false,.ld1 Z7 r 0 Z1,.cmp .gtr n (Int.ofNat len) false,.ld1 Z7 r 0 Z1,.arith .sub .i64 n 1 n1,.off q 0 n1 len 1,.ld1 Z7 to q Z2,.stat (drawN Try.f13 0),.ld1 Z7 k 4 bT,.ld1 Z7 k 3 (.bool lv),.len Z7 b7,.st Z8 b7 0 [iV 0,bT,.bool lv,iV 0,.string eS,nS] c7,.ld1 Z9 k 1 Z3,.ld1 Z9 k 1 Z3,.ld1 Z9 s 0 (iV sn),.st Z9 b7 0 [iV sn] c8,.ld1 Z10 k 4 bT,.ldn Z10 k 5 2 Z4,.st Z10 b7 3 Z4 c9,.ld1 Z11 k 2 (nS),.cmp .lss 0 0 false,.ldn Z11 b7 0 6 Z5,.st Z11 b4 0 Z5 Z5,.ldn Z12 b4 0 6 Z5]):=by intros;kernel_rfl
theorem ta_111(r b4 b7 to len q k s oo ol:Nat)(n n1 sn fk:Int)(en lv:Bool)(ft:ByteArray)(c7 c8 c9 out:LV)(oa:OA)(la za:Nat)(g g2:Hp) :
  let Z1:=pT r 0
  let Z2:=sL to len 1
  let Z3:=pT k 0
  let Z4:=pT s 0
  let Z5:LV:=[iV fk,.string ft]
  let Z6:=sL oo ol 1
  let Z7:=pT b7 0
  let Z8:Env:=[(7,Z7),(4,pT b4 0)]
  let Z9:LV:=[iV sn,bT,.bool lv,iV fk,.string ft,.slice oa la za]
  let Z10:SH:=.set g2 b4 (cS Z9)
  let Z11:AObj:=cS [iV 0,bF,bF,iV 0,.string eS,nS]
  let Z12:SH:=.push g Z11
  let Z13:SH:=.push Z12 Z11
  let Z14:LV:=[iV 0,bT,.bool lv,iV 0,.string eS,nS]
  let Z15:SH:=.set Z13 b7 (cS c7)
  let Z16:SH:=.set Z15 b7 (cS c8)
  let Z17:SH:=.set Z16 b7 (cS c9)
  let Z18:=pT k 4
  let Z19:=pT k 1
  PF Try.f13 [Z1,iV n] g [.idx b4,.bit false,.val Z2,.bit false,.val Z2,.num n1,.offs q,.val Z3,.val bT,.val (.bool lv),.idx b7,.cells c7,.val Z4,.val Z4,.val (iV sn),.cells c8,.val bT,.cells Z5,.cells c9,.val Z6,.loop (.exit 1) Z8 g2,.cells Z9,.cells Z9,.cells Z9] =
  some (.tuple { toList:=[.agg #[iV sn,bT,.bool lv,iV fk,.string ft,.slice oa la za],iV 0] },Z10,[],[.len g b4,.cmp .lss n 1 false,.ld1 Z12 r 0 Z2,.cmp .gtr n (Int.ofNat len) false,.ld1 Z12 r 0 Z2,.arith .sub .i64 n 1 n1,.off q 0 n1 len 1,.ld1 Z12 to q Z3,.stat (drawN Try.f13 0),.ld1 Z12 k 4 bT,.ld1 Z12 k 3 (.bool lv),.len Z12 b7,.st Z13 b7 0 Z14 c7,.ld1 Z15 k 1 Z4,.ld1 Z15 k 1 Z4,.ld1 Z15 s 0 (iV sn),.st Z15 b7 0 [iV sn] c8,.ld1 Z16 k 4 bT,.ldn Z16 k 5 2 Z5,.st Z16 b7 3 Z5 c9,.ld1 Z17 k 2 Z6,.loop 84 false (loopN Try.f13 0) [(71,iV 0),(70,iN ol),(69,Z6),(68,pT k 2),(67,Z3),(66,Z3),(65,pT b7 3),(64,.agg #[iV fk,.string ft]),(63,pT k 5),(62,Z3),(61,Z3),(60,bT),(59,Z18),(58,Z3),(57,Z3),(56,Z7),(55,iV sn),(54,Z4),(53,Z4),(52,Z4),(51,Z19),(50,Z3),(49,Z3),(48,bT),(47,Z4),(46,Z19),(45,Z3),(44,Z3),(7,Z7),(43,.agg { toList:=Z14 }),(42,.bool lv),(41,pT k 3),(40,Z3),(39,Z3),(38,bT),(37,Z18),(36,Z3),(35,Z3),(6,Z3),(34,Z3),(33,pT to q),(32,iV n1),(31,iV n),(30,Z2),(29,Z1),(28,Z1),(27,Z1),(14,bF),(25,bF),(24,bF),(23,iN len),(22,Z2),(21,Z1),(20,Z1),(19,Z1),(18,iV n),(17,bF),(16,bF),(15,iV n),(10,bF),(12,bF),(11,Z1),(5,iV 0),(4,pT b4 0),(0,Z1),(1,iV n)] Z17 (.exit 1) Z8 g2,.ldn g2 b7 0 6 Z9,.st g2 b4 0 Z9 Z9,.ldn Z10 b4 0 6 Z9]):=by intros;kernel_rfl
theorem tl_out(b7 b4 oo ol q li d z ln:Nat)(i i1 kd sn:Int)(w:V)(cs news c7:LV)(g g2:Hp) :
  PC 84 false (loopN Try.f13 0) [(71,iV i),(70,iN ol),(69,sL oo ol 1),(7,pT b7 0),(4,pT b4 0)] g [.bit false] =
  some (.exit 1,[(72,bF),(71,iV i),(70,iN ol),(69,sL oo ol 1),(7,pT b7 0),(4,pT b4 0)],.is g,[],[.cmp .lss i (Int.ofNat ol) false]):=by intros;kernel_rfl
theorem tl_gon(b7 b4 oo ol q li d z ln:Nat)(i i1 kd sn:Int)(w:V)(cs news c7:LV)(g g2:Hp) :
  let Z1:V:=.agg #[iV kd,iV sn]
  let Z2:=pT b7 5
  let Z3:=sL z 1 2
  let Z4:SH:=.push g2 (cS [iV kd,iV sn])
  let Z5:SH:=.push Z4 (cS news)
  cutP [71,9,70,69,7,4] (PC 84 false (loopN Try.f13 0) [(71,iV i),(70,iN ol),(69,sL oo ol 1),(7,pT b7 0),(4,pT b4 0)] g [.bit true,.offs q,.val w,.val (nS),.ret Z1 g2,.idx d,.app [] news 0 z,.cells c7,.num i1]) =
  some (.normal,[(71,iV i1),(9,w),(70,iN ol),(69,sL oo ol 1),(7,pT b7 0),(4,pT b4 0)],.set Z5 b7 (cS c7),[],[.cmp .lss i (Int.ofNat ol) true,.off q 0 i ol 1,.ld1 g oo q w,.stat (drawN Try.f13 1),.again g 33 Z2 (nS),.again g 33 Z2 (nS),.again g2 33 Z2 (nS),.ld1 g b7 5 (nS),.call 40 [w] g Z1 g2,.len g2 d,.appNil Z4 d 0 1 0 2 16 news z,.st Z5 b7 5 [Z3] c7,.arith .add .i64 i 1 i1]):=by intros;kernel_rfl
theorem tl_gos(b7 b4 oo ol q li d z ln:Nat)(i i1 kd sn:Int)(w:V)(cs news c7:LV)(g g2:Hp) :
  let Z1:=sL li ln 2
  let Z2:V:=.agg #[iV kd,iV sn]
  let Z3:=pT b7 5
  let Z4:=sL z (Nat.succ ln) 2
  let Z5:SH:=.push g2 (cS [iV kd,iV sn])
  let Z6:SH:=.push (.set Z5 li .dead) (cS cs)
  cutP [71,9,70,69,7,4] (PC 84 false (loopN Try.f13 0) [(71,iV i),(70,iN ol),(69,sL oo ol 1),(7,pT b7 0),(4,pT b4 0)] g [.bit true,.offs q,.val w,.val Z1,.ret Z2 g2,.idx d,.app cs news 0 z,.cells c7,.num i1]) =
  some (.normal,[(71,iV i1),(9,w),(70,iN ol),(69,sL oo ol 1),(7,pT b7 0),(4,pT b4 0)],.set Z6 b7 (cS c7),[],[.cmp .lss i (Int.ofNat ol) true,.off q 0 i ol 1,.ld1 g oo q w,.stat (drawN Try.f13 1),.again g 33 Z3 Z1,.again g 33 Z3 Z1,.again g2 33 Z3 Z1,.ld1 g b7 5 Z1,.call 40 [w] g Z2 g2,.len g2 d,.app Z5 li 0 ln d 0 1 0 2 16 cs news z,.st Z6 b7 5 [Z4] c7,.arith .add .i64 i 1 i1]):=by intros;kernel_rfl
theorem sc_err(r b4 b8 s k oo ol:Nat)(n e kn fk:Int)(su ov:Bool)(ft:ByteArray)(c8 out:LV)(oa:OA)(la za:Nat)(g g2 g3:Hp) :
  let Z1:LV:=[pT r 0,iV n]
  let Z2:V:=.tuple #[.pointer none,iV e]
  let Z3:LV:=[iV 0,bF,bF,nS,iV 0,.string eS]
  let Z4:AObj:=cS Z3
  let Z5:SH:=.set g2 b4 Z4
  PF Try.f14 Z1 g [.idx b4,.ret Z2 g2,.bit true,.cells [iV 0,bF,bF,nS,iV 0,.string eS],.cells [iV 0,bF,bF,nS,iV 0,.string eS]] =
  some (.tuple #[.agg { toList:=Z3 },iV e],Z5,[],[.len g b4,.call 41 Z1 (.push g Z4) Z2 g2,.cmp .neq e 0 true,.st g2 b4 0 Z3 Z3,.ldn Z5 b4 0 6 Z3]):=by intros;kernel_rfl
theorem sc_0(r b4 b8 s k oo ol:Nat)(n e kn fk:Int)(su ov:Bool)(ft:ByteArray)(c8 out:LV)(oa:OA)(la za:Nat)(g g2 g3:Hp) :
  let Z1:LV:=[pT r 0,iV n]
  let Z2:V:=.tuple #[pT s 0,iV 0]
  let Z3:=pT k 0
  let Z4:LV:=[iV fk,.string ft]
  let Z5:LV:=[iV kn,.bool su,.bool ov,nS,iV fk,.string ft]
  let Z6:AObj:=cS [iV 0,bF,bF,nS,iV 0,.string eS]
  let Z7:SH:=.push g2 Z6
  let Z8:SH:=.set Z7 b8 (cS c8)
  let Z9:SH:=.set Z8 b4 (cS Z5)
  PF Try.f14 Z1 g [.idx b4,.ret Z2 g2,.bit false,.val Z3,.val (iV kn),.val (.bool su),.val (.bool ov),.cells Z4,.idx b8,.cells c8,.val (nS),.unr 1,.bit false,.cells Z5,.cells Z5,.cells Z5] =
  some (.tuple { toList:=[.agg #[iV kn,.bool su,.bool ov,nS,iV fk,.string ft],iV 0] },Z9,[],[.len g b4,.call 41 Z1 (.push g Z6) Z2 g2,.cmp .neq 0 0 false,.stat (drawN Try.f14 0),.ld1 g2 s 1 Z3,.ld1 g2 k 0 (iV kn),.ld1 g2 s 2 (.bool su),.ld1 g2 s 3 (.bool ov),.ldn g2 s 6 2 Z4,.len g2 b8,.st Z7 b8 0 Z5 c8,.ld1 Z8 s 4 (nS),.cmp .lss 0 0 false,.ldn Z8 b8 0 6 Z5,.st Z8 b4 0 Z5 Z5,.ldn Z9 b4 0 6 Z5]):=by intros;kernel_rfl
theorem sc_1(r b4 b8 s k oo ol:Nat)(n e kn fk:Int)(su ov:Bool)(ft:ByteArray)(c8 out:LV)(oa:OA)(la za:Nat)(g g2 g3:Hp) :
  let Z1:=pT r 0
  let Z2:LV:=[Z1,iV n]
  let Z3:=pT s 0
  let Z4:V:=.tuple #[Z3,iV 0]
  let Z5:=pT k 0
  let Z6:LV:=[iV fk,.string ft]
  let Z7:=sL oo ol 1
  let Z8:Env:=[(8,pT b8 0),(4,pT b4 0)]
  let Z9:LV:=[iV kn,.bool su,.bool ov,.slice oa la za,iV fk,.string ft]
  let Z10:SH:=.set g3 b4 (cS Z9)
  let Z11:AObj:=cS [iV 0,bF,bF,nS,iV 0,.string eS]
  let Z12:SH:=.push g2 Z11
  let Z13:SH:=.set Z12 b8 (cS c8)
  PF Try.f14 Z2 g [.idx b4,.ret Z4 g2,.bit false,.val Z5,.val (iV kn),.val (.bool su),.val (.bool ov),.cells Z6,.idx b8,.cells c8,.val Z7,.loop (.exit 0) Z8 g3,.cells Z9,.cells Z9,.cells Z9] =
  some (.tuple { toList:=[.agg #[iV kn,.bool su,.bool ov,.slice oa la za,iV fk,.string ft],iV 0] },Z10,[],[.len g b4,.call 41 Z2 (.push g Z11) Z4 g2,.cmp .neq 0 0 false,.stat (drawN Try.f14 0),.ld1 g2 s 1 Z5,.ld1 g2 k 0 (iV kn),.ld1 g2 s 2 (.bool su),.ld1 g2 s 3 (.bool ov),.ldn g2 s 6 2 Z6,.len g2 b8,.st Z12 b8 0 [iV kn,.bool su,.bool ov,nS,iV fk,.string ft] c8,.ld1 Z13 s 4 Z7,.loop 61 false (loopN Try.f14 0) [(46,iV 0),(45,iN ol),(44,Z7),(43,pT s 4),(42,Z3),(41,Z3),(8,pT b8 0),(40,.agg #[iV kn,.bool su,.bool ov,nS,iV fk,.string ft]),(39,.agg #[iV fk,.string ft]),(38,pT s 6),(37,Z3),(36,Z3),(35,.bool ov),(34,pT s 3),(33,Z3),(32,Z3),(31,.bool su),(30,pT s 2),(29,Z3),(28,Z3),(27,iV kn),(26,Z5),(25,Z5),(24,Z5),(23,pT s 1),(22,Z3),(21,Z3),(18,bF),(17,iV 0),(7,iV 0),(6,Z3),(16,iV 0),(15,Z3),(11,Z4),(14,Z4),(13,iV n),(12,Z1),(5,iV 0),(4,pT b4 0),(0,Z1),(1,iV n)] Z13 (.exit 0) Z8 g3,.ldn g3 b8 0 6 Z9,.st g3 b4 0 Z9 Z9,.ldn Z10 b4 0 6 Z9]):=by intros;kernel_rfl
theorem sl_out(b8 b4 oo ol q k li d z ln:Nat)(i i1 kn:Int)(cs news c8:LV)(g g2:Hp) :
  PC 61 false (loopN Try.f14 0) [(46,iV i),(45,iN ol),(44,sL oo ol 1),(8,pT b8 0),(4,pT b4 0)] g [.bit false] =
  some (.exit 0,[(47,bF),(46,iV i),(45,iN ol),(44,sL oo ol 1),(8,pT b8 0),(4,pT b4 0)],.is g,[],[.cmp .lss i (Int.ofNat ol) false]):=by intros;kernel_rfl
theorem sl_gon(b8 b4 oo ol q k li d z ln:Nat)(i i1 kn:Int)(cs news c8:LV)(g g2:Hp) :
  let Z1:=pT k 0
  let Z2:=pT b8 3
  let Z3:=sL z 1 1
  let Z4:SH:=.push g (cS [iV kn])
  let Z5:SH:=.push Z4 (cS news)
  cutP [46,10,45,44,8,4] (PC 61 false (loopN Try.f14 0) [(46,iV i),(45,iN ol),(44,sL oo ol 1),(8,pT b8 0),(4,pT b4 0)] g [.bit true,.offs q,.val Z1,.val (nS),.val (iV kn),.idx d,.app [] news 0 z,.cells c8,.num i1]) =
  some (.normal,[(46,iV i1),(10,Z1),(45,iN ol),(44,sL oo ol 1),(8,pT b8 0),(4,pT b4 0)],.set Z5 b8 (cS c8),[],[.cmp .lss i (Int.ofNat ol) true,.off q 0 i ol 1,.ld1 g oo q Z1,.stat (drawN Try.f14 1),.ld1 g b8 3 (nS),.ld1 g k 0 (iV kn),.len g d,.appNil Z4 d 0 1 0 1 8 news z,.st Z5 b8 3 [Z3] c8,.arith .add .i64 i 1 i1]):=by intros;kernel_rfl
theorem sl_gos(b8 b4 oo ol q k li d z ln:Nat)(i i1 kn:Int)(cs news c8:LV)(g g2:Hp) :
  let Z1:=pT k 0
  let Z2:=sL li ln 1
  let Z3:=pT b8 3
  let Z4:=sL z (Nat.succ ln) 1
  let Z5:SH:=.push g (cS [iV kn])
  let Z6:SH:=.push (.set Z5 li .dead) (cS cs)
  cutP [46,10,45,44,8,4] (PC 61 false (loopN Try.f14 0) [(46,iV i),(45,iN ol),(44,sL oo ol 1),(8,pT b8 0),(4,pT b4 0)] g [.bit true,.offs q,.val Z1,.val Z2,.val (iV kn),.idx d,.app cs news 0 z,.cells c8,.num i1]) =
  some (.normal,[(46,iV i1),(10,Z1),(45,iN ol),(44,sL oo ol 1),(8,pT b8 0),(4,pT b4 0)],.set Z6 b8 (cS c8),[],[.cmp .lss i (Int.ofNat ol) true,.off q 0 i ol 1,.ld1 g oo q Z1,.stat (drawN Try.f14 1),.ld1 g b8 3 Z2,.ld1 g k 0 (iV kn),.len g d,.app Z5 li 0 ln d 0 1 0 1 8 cs news z,.st Z6 b8 3 [Z4] c8,.arith .add .i64 i 1 i1]):=by intros;kernel_rfl
theorem st_00(b2 b3:Nat)(sn fk:Int)(ft:ByteArray)(ox oy:OA)(lx ly zx zy:Nat)(g g2:Hp) :
  let Z1:LV:=[iV fk,.string ft]
  let Z2:SH:=.push g (cS [iV sn,bF,bF,iV fk,.string ft,.slice ox lx zx])
  let Z3:SH:=.push Z2 (cS [iV sn,bF,bF,iV fk,.string ft,.slice oy ly zy])
  PF Try.f34 [.agg #[iV sn,bF,bF,iV fk,.string ft,.slice ox lx zx],.agg #[iV sn,bF,bF,iV fk,.string ft,.slice oy ly zy]] g [.idx b2,.idx b3,.val (iV sn),.val (iV sn),.bit true,.val bF,.val bF,.val bF,.val bF,.cells Z1,.cells Z1,.bit true,.val (.slice ox lx zx),.val (.slice oy ly zy),.ret bT g2] =
  some (bT,.is g2,[],[.len g b2,.len Z2 b3,.ld1 Z3 b2 0 (iV sn),.ld1 Z3 b3 0 (iV sn),.cmp .eql sn sn true,.ld1 Z3 b2 1 bF,.ld1 Z3 b3 1 bF,.ld1 Z3 b2 2 bF,.ld1 Z3 b3 2 bF,.ldn Z3 b2 3 2 Z1,.ldn Z3 b3 3 2 Z1,.aeq .eql 30 #[iV fk,.string ft] #[iV fk,.string ft] true,.ld1 Z3 b2 5 (.slice ox lx zx),.ld1 Z3 b3 5 (.slice oy ly zy),.call 54 [.slice ox lx zx,.slice oy ly zy] Z3 bT g2]):=by intros;kernel_rfl
theorem st_01(b2 b3:Nat)(sn fk:Int)(ft:ByteArray)(ox oy:OA)(lx ly zx zy:Nat)(g g2:Hp) :
  let Z1:LV:=[iV fk,.string ft]
  let Z2:SH:=.push g (cS [iV sn,bF,bT,iV fk,.string ft,.slice ox lx zx])
  let Z3:SH:=.push Z2 (cS [iV sn,bF,bT,iV fk,.string ft,.slice oy ly zy])
  PF Try.f34 [.agg #[iV sn,bF,bT,iV fk,.string ft,.slice ox lx zx],.agg #[iV sn,bF,bT,iV fk,.string ft,.slice oy ly zy]] g [.idx b2,.idx b3,.val (iV sn),.val (iV sn),.bit true,.val bF,.val bF,.val bT,.val bT,.cells Z1,.cells Z1,.bit true,.val (.slice ox lx zx),.val (.slice oy ly zy),.ret bT g2] =
  some (bT,.is g2,[],[.len g b2,.len Z2 b3,.ld1 Z3 b2 0 (iV sn),.ld1 Z3 b3 0 (iV sn),.cmp .eql sn sn true,.ld1 Z3 b2 1 bF,.ld1 Z3 b3 1 bF,.ld1 Z3 b2 2 bT,.ld1 Z3 b3 2 bT,.ldn Z3 b2 3 2 Z1,.ldn Z3 b3 3 2 Z1,.aeq .eql 30 #[iV fk,.string ft] #[iV fk,.string ft] true,.ld1 Z3 b2 5 (.slice ox lx zx),.ld1 Z3 b3 5 (.slice oy ly zy),.call 54 [.slice ox lx zx,.slice oy ly zy] Z3 bT g2]):=by intros;kernel_rfl
theorem st_10(b2 b3:Nat)(sn fk:Int)(ft:ByteArray)(ox oy:OA)(lx ly zx zy:Nat)(g g2:Hp) :
  let Z1:LV:=[iV fk,.string ft]
  let Z2:SH:=.push g (cS [iV sn,bT,bF,iV fk,.string ft,.slice ox lx zx])
  let Z3:SH:=.push Z2 (cS [iV sn,bT,bF,iV fk,.string ft,.slice oy ly zy])
  PF Try.f34 [.agg #[iV sn,bT,bF,iV fk,.string ft,.slice ox lx zx],.agg #[iV sn,bT,bF,iV fk,.string ft,.slice oy ly zy]] g [.idx b2,.idx b3,.val (iV sn),.val (iV sn),.bit true,.val bT,.val bT,.val bF,.val bF,.cells Z1,.cells Z1,.bit true,.val (.slice ox lx zx),.val (.slice oy ly zy),.ret bT g2] =
  some (bT,.is g2,[],[.len g b2,.len Z2 b3,.ld1 Z3 b2 0 (iV sn),.ld1 Z3 b3 0 (iV sn),.cmp .eql sn sn true,.ld1 Z3 b2 1 bT,.ld1 Z3 b3 1 bT,.ld1 Z3 b2 2 bF,.ld1 Z3 b3 2 bF,.ldn Z3 b2 3 2 Z1,.ldn Z3 b3 3 2 Z1,.aeq .eql 30 #[iV fk,.string ft] #[iV fk,.string ft] true,.ld1 Z3 b2 5 (.slice ox lx zx),.ld1 Z3 b3 5 (.slice oy ly zy),.call 54 [.slice ox lx zx,.slice oy ly zy] Z3 bT g2]):=by intros;kernel_rfl
theorem st_11(b2 b3:Nat)(sn fk:Int)(ft:ByteArray)(ox oy:OA)(lx ly zx zy:Nat)(g g2:Hp) :
  let Z1:LV:=[iV fk,.string ft]
  let Z2:SH:=.push g (cS [iV sn,bT,bT,iV fk,.string ft,.slice ox lx zx])
  let Z3:SH:=.push Z2 (cS [iV sn,bT,bT,iV fk,.string ft,.slice oy ly zy])
  PF Try.f34 [.agg #[iV sn,bT,bT,iV fk,.string ft,.slice ox lx zx],.agg #[iV sn,bT,bT,iV fk,.string ft,.slice oy ly zy]] g [.idx b2,.idx b3,.val (iV sn),.val (iV sn),.bit true,.val bT,.val bT,.val bT,.val bT,.cells Z1,.cells Z1,.bit true,.val (.slice ox lx zx),.val (.slice oy ly zy),.ret bT g2] =
  some (bT,.is g2,[],[.len g b2,.len Z2 b3,.ld1 Z3 b2 0 (iV sn),.ld1 Z3 b3 0 (iV sn),.cmp .eql sn sn true,.ld1 Z3 b2 1 bT,.ld1 Z3 b3 1 bT,.ld1 Z3 b2 2 bT,.ld1 Z3 b3 2 bT,.ldn Z3 b2 3 2 Z1,.ldn Z3 b3 3 2 Z1,.aeq .eql 30 #[iV fk,.string ft] #[iV fk,.string ft] true,.ld1 Z3 b2 5 (.slice ox lx zx),.ld1 Z3 b3 5 (.slice oy ly zy),.call 54 [.slice ox lx zx,.slice oy ly zy] Z3 bT g2]):=by intros;kernel_rfl
theorem ss_go(b3 ox oy ln q:Nat)(i i1 v:Int)(g:Hp) :
  let Z1:=sL oy ln 1
  cutP [45,6,5,44,43,3] (PC 58 false (loopN Try.f35 0) [(45,iV i),(44,iN ln),(43,sL ox ln 1),(3,pT b3 0)] g [.bit true,.offs q,.val (iV v),.val Z1,.offs q,.val (iV v),.bit false,.num i1]) =
  some (.normal,[(45,iV i1),(6,iV v),(5,iV i),(44,iN ln),(43,sL ox ln 1),(3,pT b3 0)],.is g,[],[.cmp .lss i (Int.ofNat ln) true,.off q 0 i ln 1,.ld1 g ox q (iV v),.ld1 g b3 3 Z1,.off q 0 i ln 1,.ld1 g oy q (iV v),.cmp .neq v v false,.arith .add .i64 i 1 i1]):=by intros;kernel_rfl
end Go.Proofs.Ytahomnlkkafbjaa.r13p
namespace Go.Proofs.Ytahomnlkkafbjaa.r12p
open Go Go.Ev
theorem sp_err(r k b2 b4 b5:Nat)(n e:Int)(c5:LV)(g g2:Hp) :
  let Z1:=pT r 0
  let Z2:LV:=[Z1,iV n]
  let Z3:V:=.tuple #[.pointer none,iV e]
  let Z4:AObj:=cS [iV 0]
  let Z5:SH:=.set g2 b4 Z4
  let Z6:SH:=.push g (cS [Z1])
  let Z7:SH:=.push Z6 Z4
  let Z8:SH:=.push Z7 Z4
  cutP [7,6,5,4,2,0,1] (PC 37 false (chain [partC Try.f22 [0],partC Try.f22 [1,0],partC Try.f22 [1,1,0]]) (enterE 0 Z2) g [.idx b2,.idx b4,.idx b5,.val Z1,.ret Z3 g2,.bit true,.cells [iV 0],.cells c5]) =
  some (.ret,[(7,iV e),(6,.pointer none),(5,pT b5 0),(4,pT b4 0),(2,pT b2 0),(0,Z1),(1,iV n)],.set Z5 b5 (cS c5),[],[.len g b2,.len Z6 b4,.len Z7 b5,.ld1 Z8 b2 0 Z1,.call 46 Z2 Z8 Z3 g2,.cmp .neq e 0 true,.st g2 b4 0 [iV 0] [iV 0],.st Z5 b5 0 [iV e] c5]):=by intros;kernel_rfl
theorem sp_pre(r k b2 b4 b5:Nat)(n e:Int)(c5:LV)(g g2:Hp) :
  let Z1:=pT r 0
  let Z2:LV:=[Z1,iV n]
  let Z3:=pT k 0
  let Z4:V:=.tuple #[Z3,iV 0]
  let Z5:SH:=.push g (cS [Z1])
  let Z6:AObj:=cS [iV 0]
  let Z7:SH:=.push Z5 Z6
  let Z8:SH:=.push Z7 Z6
  cutP [7,6,5,4,2,0,1] (PC 37 false (chain [partC Try.f22 [0],partC Try.f22 [1,0],partC Try.f22 [1,1,0]]) (enterE 0 Z2) g [.idx b2,.idx b4,.idx b5,.val Z1,.ret Z4 g2,.bit false]) =
  some (.normal,[(7,iV 0),(6,Z3),(5,pT b5 0),(4,pT b4 0),(2,pT b2 0),(0,Z1),(1,iV n)],.is g2,[],[.len g b2,.len Z5 b4,.len Z7 b5,.ld1 Z8 b2 0 Z1,.call 46 Z2 Z8 Z4 g2,.cmp .neq 0 0 false]):=by intros;kernel_rfl
theorem sp_r4(k b2 b4 b5 bb ln z:Nat)(o:Option Addr)(g:Hp) :
  let Z1:=pT k 0
  pvCode Try.prog (pvCall Try.prog 1) 37 false (partC Try.f22 [1,1,1,0,0]) [(6,Z1),(2,pT b2 0),(4,pT b4 0),(5,pT b5 0)] (.is g) [.val (.slice o ln z),.inl,.idx bb] =
  some (.normal,[(23,.func (Fn.func 67) #[] #[pT bb 0]),(22,.slice o ln z),(21,pT k 2),(20,Z1),(19,Z1),(6,Z1),(2,pT b2 0),(4,pT b4 0),(5,pT b5 0)],.push (.is g) (.cells [.slice o ln z] true),[],[.ld1 (.is g) k 2 (.slice o ln z),.len (.is g) bb]):=by intros;kernel_rfl
theorem sp_as(b2 b4 b5:Nat)(j:Int)(v:V)(g:Hp) :
  PC 37 true (partC Try.f22 [1,1,1,0,1,0,0]) [(25,v),(24,iV j),(2,pT b2 0),(4,pT b4 0),(5,pT b5 0)] g [] =
  some (.normal,[(9,v),(25,v),(24,iV j),(2,pT b2 0),(4,pT b4 0),(5,pT b5 0)],.is g,[],[]):=by intros;kernel_rfl
theorem sp_nil(b2 b4 b5 r s to len:Nat)(x:Int)(c4 c5:LV)(g g2:Hp) :
  PC 37 true (partC Try.f22 [1,1,1,0,1,0,1]) [(9,.pointer none),(2,pT b2 0),(4,pT b4 0),(5,pT b5 0)] g [] =
  some (.normal,[(27,bT),(26,.pointer none),(9,.pointer none),(2,pT b2 0),(4,pT b4 0),(5,pT b5 0)],.is g,[],[]):=by intros;kernel_rfl
theorem sp_full(b2 b4 b5 r s to len:Nat)(x:Int)(c4 c5:LV)(g g2:Hp) :
  let Z1:=pT s 0
  let Z2:=pT r 0
  let Z3:=sL to len 1
  let Z4:SH:=.set g b4 (cS c4)
  cutP [9,2,4,5] (PC 37 true (partC Try.f22 [1,1,1,0,1,0,1]) [(9,Z1),(2,pT b2 0),(4,pT b4 0),(5,pT b5 0)] g [.val Z2,.val Z3,.bit true,.cells c4,.cells c5]) =
  some (.ret,[(9,Z1),(2,pT b2 0),(4,pT b4 0),(5,pT b5 0)],.set Z4 b5 (cS c5),[],[.ld1 g b2 0 Z2,.ld1 g r 0 Z3,.cmp .geq (Int.ofNat len) 64 true,.st g b4 0 [iV 0] c4,.st Z4 b5 0 [iV 5] c5]):=by intros;kernel_rfl
theorem sp_ok(b2 b4 b5 r s to len:Nat)(x:Int)(c4 c5:LV)(g g2:Hp) :
  let Z1:=pT s 0
  let Z2:=pT r 0
  let Z3:=sL to len 1
  let Z4:SH:=.set g2 b4 (cS c4)
  cutP [9,2,4,5] (PC 37 true (partC Try.f22 [1,1,1,0,1,0,1]) [(9,Z1),(2,pT b2 0),(4,pT b4 0),(5,pT b5 0)] g [.val Z2,.val Z3,.bit false,.val Z2,.ret (iV x) g2,.cells c4,.cells c5]) =
  some (.ret,[(9,Z1),(2,pT b2 0),(4,pT b4 0),(5,pT b5 0)],.set Z4 b5 (cS c5),[],[.ld1 g b2 0 Z2,.ld1 g r 0 Z3,.cmp .geq (Int.ofNat len) 64 false,.ld1 g b2 0 Z2,.call 39 [Z2,Z1] g (iV x) g2,.st g2 b4 0 [iV x] c4,.st Z4 b5 0 [iV 0] c5]):=by intros;kernel_rfl
theorem sp_post(b4 b5:Nat)(c4 c5:LV)(g:Hp) :
  let Z1:Env:=[(4,pT b4 0),(5,pT b5 0)]
  let Z2:SH:=.set g b4 (cS c4)
  PC 37 false (partC Try.f22 [1,1,1,1]) Z1 g [.cells c4,.cells c5] =
  some (.ret,Z1,.set Z2 b5 (cS c5),[],[.st g b4 0 [iV 0] c4,.st Z2 b5 0 [iV 22] c5]):=by intros;kernel_rfl
theorem bk_r0(bb L n:Nat)(o:OA)(z:Nat)(n1:Int)(g:Hp) :
  let Z1:=pT bb 0
  PC 19 false (partC Try.f67 [0]) (enterE 0 [.func (.yield L) #[] #[],Z1]) g [.val (.slice o n z),.num n1] =
  some (.normal,[(3,iV n1),(6,iV n1),(5,iN n),(4,.slice o n z),(0,.func (Fn.yield L) #[] #[]),(1,Z1)],.is g,[],[.ld1 g bb 0 (.slice o n z),.arith .sub .i64 (Int.ofNat n) 1 n1]):=by intros;kernel_rfl
theorem bk_end(bb L:Nat)(k:Int)(g:Hp) :
  PC 19 false (loopN Try.f67 0) [(3,iV k),(1,pT bb 0),(0,.func (.yield L) #[] #[])] g [.bit false] =
  some (.exit 0,[(8,bF),(7,iV k),(3,iV k),(1,pT bb 0),(0,.func (Fn.yield L) #[] #[])],.is g,[],[.cmp .geq k 0 false]):=by intros;kernel_rfl
theorem bk_go(bb j n L q:Nat)(k k1:Int)(v:V)(g g':Hp) :
  let Z1:=sL j n 1
  let Z2:V:=.func (Fn.yield L) #[] #[]
  cutP [3,1,0] (PC 19 false (loopN Try.f67 0) [(3,iV k),(1,pT bb 0),(0,.func (.yield L) #[] #[])] g [.bit true,.val Z1,.offs q,.val v,.ret bT g',.num k1]) =
  some (.normal,[(3,iV k1),(1,pT bb 0),(0,Z2)],.is g',[],[.cmp .geq k 0 true,.ld1 g bb 0 Z1,.off q 0 k n 1,.ld1 g j q v,.yld L [iV k,v] g bT g',.arith .sub .i64 k 1 k1]):=by intros;kernel_rfl
theorem bk_stop(bb j n L q:Nat)(k k1:Int)(v:V)(g g':Hp) :
  let Z1:=sL j n 1
  let Z2:V:=.func (Fn.yield L) #[] #[]
  cutP [3,1,0] (PC 19 false (loopN Try.f67 0) [(3,iV k),(1,pT bb 0),(0,.func (.yield L) #[] #[])] g [.bit true,.val Z1,.offs q,.val v,.ret bF g']) =
  some (.ret,[(3,iV k),(1,pT bb 0),(0,Z2)],.is g',[],[.cmp .geq k 0 true,.ld1 g bb 0 Z1,.off q 0 k n 1,.ld1 g j q v,.yld L [iV k,v] g bF g']):=by intros;kernel_rfl
end Go.Proofs.Ytahomnlkkafbjaa.r12p
namespace Go.Proofs.Ytahomnlkkafbjaa.r8p
open Go Go.Ev
theorem tx_end(t:ByteArray)(k m:Int)(h:Hp) :
  PC 23 false (loopN Try.f70 0) [(9,iV k),(8,iV m),(0,.string t)] h [.bit false] =
  some (Ex.exit 0,[(10,bF),(9,.int IntKind.i64 k),(8,.int IntKind.i64 m),(0,Value.string t)],SH.is h,[],[Asm.cmp BinOp.lss k m false]):=by intros;kernel_rfl
theorem tx_low(t:ByteArray)(k m:Int)(h:Hp)(c:Int) :
  cutP [2,3,9,8,0] (PC 23 false (loopN Try.f70 0) [(9,iV k),(8,iV m),(0,.string t)] h [.bit true,.num c,.bit true]) =
  some (Ex.ret,[(2,bF),(3,.int IntKind.i64 k),(9,.int IntKind.i64 k),(8,.int IntKind.i64 m),(0,Value.string t)],SH.is h,[],[Asm.cmp BinOp.lss k m true,Asm.sidx t k c,Asm.cmp BinOp.lss c 32 true]):=by intros;kernel_rfl
theorem tx_high(t:ByteArray)(k m:Int)(h:Hp)(c:Int) :
  cutP [2,3,9,8,0] (PC 23 false (loopN Try.f70 0) [(9,iV k),(8,iV m),(0,.string t)] h [.bit true,.num c,.bit false,.num c,.bit true]) =
  some (Ex.ret,[(2,bF),(3,.int IntKind.i64 k),(9,.int IntKind.i64 k),(8,.int IntKind.i64 m),(0,Value.string t)],SH.is h,[],[Asm.cmp BinOp.lss k m true,Asm.sidx t k c,Asm.cmp BinOp.lss c 32 false,Asm.sidx t k c,Asm.cmp BinOp.gtr c 126 true]):=by intros;kernel_rfl
theorem tx_go(t:ByteArray)(k m:Int)(h:Hp)(c k1:Int) :
  cutP [9,3,8,0] (PC 23 false (loopN Try.f70 0) [(9,iV k),(8,iV m),(0,.string t)] h [.bit true,.num c,.bit false,.num c,.bit false,.num k1]) =
  some (Ex.normal,[(9,.int IntKind.i64 k1),(3,.int IntKind.i64 k),(8,.int IntKind.i64 m),(0,Value.string t)],SH.is h,[],[Asm.cmp BinOp.lss k m true,Asm.sidx t k c,Asm.cmp BinOp.lss c 32 false,Asm.sidx t k c,Asm.cmp BinOp.gtr c 126 false,Asm.arith BinOp.add IntKind.i64 k 1 k1]):=by intros;kernel_rfl
theorem tx_long(t:ByteArray)(h:Hp) :
  PF Try.f70 [.string t] h [.bit true] =
  some (bF,SH.is h,[],[Asm.cmp BinOp.gtr (Int.ofNat (ByteArray.size t)) 60 true]):=by intros;kernel_rfl
theorem tx_yes(t:ByteArray)(h:Hp) :
  PF Try.f70 [.string t] h [.bit false,.loop (.exit 0) [] h] =
  some (bT,SH.is h,[],[Asm.cmp BinOp.gtr (Int.ofNat (ByteArray.size t)) 60 false,Asm.loop 23 false (loopN Try.f70 0) [(9,.int IntKind.i64 0),(8,.int IntKind.i64 (Int.ofNat (ByteArray.size t))),(7,Value.string t),(6,bF),(5,.int IntKind.i64 (Int.ofNat (ByteArray.size t))),(4,Value.string t),(2,bF),(0,Value.string t)] (SH.is h) (Ex.exit 0) [] (SH.is h)]):=by intros;kernel_rfl
theorem tx_no(t:ByteArray)(h:Hp) :
  PF Try.f70 [.string t] h [.bit false,.loop .ret [(2,bF)] h] =
  some (bF,SH.is h,[],[Asm.cmp BinOp.gtr (Int.ofNat (ByteArray.size t)) 60 false,Asm.loop 23 false (loopN Try.f70 0) [(9,.int IntKind.i64 0),(8,.int IntKind.i64 (Int.ofNat (ByteArray.size t))),(7,Value.string t),(6,bF),(5,.int IntKind.i64 (Int.ofNat (ByteArray.size t))),(4,Value.string t),(2,bF),(0,Value.string t)] (SH.is h) Ex.ret [(2,bF)] (SH.is h)]):=by intros;kernel_rfl
end Go.Proofs.Ytahomnlkkafbjaa.r8p
namespace Go.Proofs.Ytahomnlkkafbjaa.tr
open Go Go.Ev
structure Tk where
 inn:Option Nat
 opn:List (Option Nat)
 lv:Bool
 en:Bool
 fk:Int
 ft:ByteArray
structure Sc where
 ow:Nat
 su:Bool
 ov:Bool
 tks:List Nat
 live:Int
 fk:Int
 ft:ByteArray
structure TS where
 tks:List Tk
 scs:List Sc
inductive Rl where
 | root
 | ts
 | ss
 | tk (k:Nat)
 | op (k:Nat)
 | sc (k:Nat)
 | st (k:Nat)
 deriving DecidableEq
abbrev Lay:=Rl->Option Nat
def pvv:Option Nat->Value
 | some i=>.pointer (some ⟨i,0,none⟩)
 | none=>.pointer none
def slv(o:Option Nat)(n:Nat):Value:=match o with
 | some i=>.slice (some ⟨i,0,none⟩) n 1
 | none=>.slice none 0 0
def inP(ρ:Lay):Option Nat->Value
 | some s=>pvv (ρ (.sc s))
 | none=>.pointer none
def tkC(ρ:Lay)(k:Nat)(x:Tk):List Value:=[iV ((k+1:Nat):Int),inP ρ x.inn,slv (ρ (.op k)) x.opn.length,.bool x.lv,.bool x.en,iV x.fk,.string x.ft]
def scC(ρ:Lay)(k:Nat)(x:Sc):List Value:=[iV ((k+1:Nat):Int),pvv (ρ (.tk x.ow)),.bool x.su,.bool x.ov,slv (ρ (.st k)) x.tks.length,iV x.live,iV x.fk,.string x.ft]
def cont(ρ:Lay)(t:TS):Rl->List Value
 | .root=>[slv (ρ .ts) t.tks.length,slv (ρ .ss) t.scs.length]
 | .ts=>(List.range t.tks.length).map fun k=>pvv (ρ (.tk k))
 | .ss=>(List.range t.scs.length).map fun k=>pvv (ρ (.sc k))
 | .tk k=>match t.tks[k]? with
  | some x=>tkC ρ k x
  | none=>[]
 | .op k=>match t.tks[k]? with
  | some x=>x.opn.map (inP ρ)
  | none=>[]
 | .sc k=>match t.scs[k]? with
  | some x=>scC ρ k x
  | none=>[]
 | .st k=>match t.scs[k]? with
  | some x=>x.tks.map fun j=>pvv (ρ (.tk j))
  | none=>[]
structure Sh(ρ:Lay)(t:TS):Prop where
 root:∃ i,ρ .root=some i
 tk:∀ k,k<t.tks.length->∃ i,ρ (.tk k)=some i
 sc:∀ k,k<t.scs.length->∃ i,ρ (.sc k)=some i
 ts:ρ .ts=none->t.tks=[]
 ss:ρ .ss=none->t.scs=[]
 op:∀ (k:Nat) x,t.tks[k]?=some x->ρ (.op k)=none->x.opn=[]
 st:∀ (k:Nat) x,t.scs[k]?=some x->ρ (.st k)=none->x.tks=[]
 otk:∀ k,t.tks.length<=k->ρ (.tk k)=none/\ρ (.op k)=none
 osc:∀ k,t.scs.length<=k->ρ (.sc k)=none/\ρ (.st k)=none
structure TAt(h:Hp)(ρ:Lay)(t:TS):Prop where
 sh:Sh ρ t
 inj:∀ r r' i,ρ r=some i->ρ r'=some i->r=r'
 obj:∀ r i,ρ r=some i->∃ junk,h[i]?=some (.cells (cont ρ t r++junk) true)
structure TOk(c:Nat)(t:TS):Prop where
 n64:t.tks.length<=64
 n200:t.scs.length<=200
 inn:∀ (k:Nat) x s,t.tks[k]?=some x->x.inn=some s->s<t.scs.length
 opn:∀ (k:Nat) x s,t.tks[k]?=some x->some s∈x.opn->s<t.scs.length
 len:∀ (k:Nat) x,t.tks[k]?=some x->x.opn.length<=c
 ow:∀ (k:Nat) x,t.scs[k]?=some x->x.ow<t.tks.length
 mem:∀ (k:Nat) x j,t.scs[k]?=some x->j∈x.tks->j<t.tks.length
 mlen:∀ (k:Nat) x,t.scs[k]?=some x->x.tks.length<=c
 live:∀ (k:Nat) x,t.scs[k]?=some x -> -(c:Int)<=x.live/\x.live<=c
def fpT(ρ:Lay)(q:Nat):Prop:=∃ r,ρ r=some q
theorem TAt.lt{h:Hp}{ρ:Lay}{t:TS}(a:TAt h ρ t){r:Rl}{i:Nat}(e:ρ r=some i):i<h.length:=by
 obtain⟨_,hj⟩:=a.obj r i e
 exact get_lt hj
theorem TAt.keep{h h':Hp}{ρ:Lay}{t:TS}{fp:Nat->Prop}(a:TAt h ρ t)(K:Keep fp h h')(hf:∀ q,fp q->¬ fpT ρ q):TAt h' ρ t :=
 ⟨a.sh,a.inj,fun r i e=>by
  obtain⟨junk,hj⟩:=a.obj r i e
  exact⟨junk,K.2 _ _ hj fun q=>hf i q ⟨r,e⟩⟩⟩
theorem TAt.grow{h h':Hp}{ρ:Lay}{t:TS}(a:TAt h ρ t)(K:Keep (fun _=>False) h h'):TAt h' ρ t:=a.keep K fun q e=>e.elim
theorem TAt.upd{h h':Hp}{ρ ρ':Lay}{t t':TS}{fp:Nat->Prop}(a:TAt h ρ t)(D:Rl->Prop)(K:Keep fp h h')(hfp:∀ r q,ρ r=some q->fp q->D r)(sh:Sh ρ' t')
  (same:∀ r,¬ D r->ρ' r=ρ r/\(ρ r≠none->∃ j1,∀ junk,cont ρ t r++junk=cont ρ' t' r++(j1++junk)))
  (new:∀ r i,D r->ρ' r=some i->(∃ junk,h'[i]?=some (.cells (cont ρ' t' r++junk) true))/\∀ r',ρ' r'=some i->r'=r):TAt h' ρ' t':=by
 refine⟨sh,fun r r' i e e'=>?_,fun r i e=>?_⟩
 ·by_cases d:D r
  ·exact ((new r i d e).2 r' e').symm
  ·by_cases d':D r'
   ·exact (new r' i d' e').2 r e
   ·rw[(same r d).1] at e
    rw[(same r' d').1] at e'
    exact a.inj r r' i e e'
 ·by_cases d:D r
  ·exact (new r i d e).1
  ·obtain⟨s1,s2⟩:=same r d
   rw[s1] at e
   obtain⟨junk,hj⟩:=a.obj r i e
   obtain⟨j1,hj1⟩:=s2 (by rw[e];simp)
   exact⟨j1++junk,by rw[<- hj1];exact K.2 _ _ hj fun f=>d (hfp r i e f)⟩
theorem TAt.set1{h:Hp}{ρ:Lay}{t t':TS}(a:TAt h ρ t){r:Rl}{i:Nat}{c:List Value}(hr:ρ r=some i)(sh:Sh ρ t')(hc:∃ junk,c=cont ρ t' r++junk)(same:∀ r',r'≠r->∃ j1,∀ junk,cont ρ t r'++junk=cont ρ t' r'++(j1++junk)) :
  TAt (h.set i (.cells c true)) ρ t':=by
 obtain⟨_,hj⟩:=a.obj r i hr
 refine a.upd (fun r'=>r'=r) (Keep.set (fp:=fun q=>q=i) rfl _) (fun r' q e f=>by subst f;exact a.inj r' r q e hr) sh (fun r' d=>⟨rfl,fun _=>same r' d⟩) (fun r' j d e=>?_)
 subst d
 rw[hr] at e
 cases e
 obtain⟨junk,rfl⟩:=hc
 exact⟨⟨junk,gE hj⟩,fun r' e'=>a.inj r' _ _ e' hr⟩
section
variable {h:Hp} {ρ:Lay} {t:TS}
theorem TAt.cells(a:TAt h ρ t){r:Rl}{i:Nat}(e:ρ r=some i){d:Nat}{v:Value}(hv:(cont ρ t r)[d]?=some v):∃ c,h[i]?=some (.cells c true)/\c[d]?=some v:=by
 obtain⟨junk,hj⟩:=a.obj r i e
 exact⟨_,hj,by rw[List.getElem?_append_left (gTq hv)];exact hv⟩
theorem TAt.ld1(a:TAt h ρ t){P:Program}{s:SH}(hs:s.den=h){r:Rl}{i:Nat}(e:ρ r=some i){d:Nat}{v:Value}(hv:(cont ρ t r)[d]?=some v):(Asm.ld1 s i d v).holds P:=by
 obtain⟨c,h1,h2⟩:=a.cells e hv
 rw[<- hs] at h1
 exact aL h1 h2
theorem TAt.ldn(a:TAt h ρ t){P:Program}{s:SH}(hs:s.den=h){r:Rl}{i:Nat}(e:ρ r=some i){d k:Nat}{l:List Value}(hd:d+k<=(cont ρ t r).length)(hl:((cont ρ t r).drop d).take k=l):(Asm.ldn s i d k l).holds P:=by
 obtain⟨junk,hj⟩:=a.obj r i e
 rw[<- hs] at hj
 refine aN hj (by simp;omega) ?_
 rw[List.drop_append_of_le_length (by omega),List.take_append_of_le_length (by simp;omega)]
 exact hl
theorem TAt.own(a:TAt h ρ t){r:Rl}{i:Nat}(e:ρ r=some i):∃ c,ownAt h i=some c:=by
 obtain⟨junk,hj⟩:=a.obj r i e
 exact⟨_,own_of hj⟩
theorem cT{k:Nat}{x:Tk}(hx:t.tks[k]?=some x):cont ρ t (.tk k)=tkC ρ k x:=by simp only[cont,hx]
theorem cont_op{k:Nat}{x:Tk}(hx:t.tks[k]?=some x):cont ρ t (.op k)=x.opn.map (inP ρ):=by simp only[cont,hx]
theorem cSq{k:Nat}{x:Sc}(hx:t.scs[k]?=some x):cont ρ t (.sc k)=scC ρ k x:=by simp only[cont,hx]
theorem cont_st{k:Nat}{x:Sc}(hx:t.scs[k]?=some x):cont ρ t (.st k)=x.tks.map fun j=>pvv (ρ (.tk j)):=by simp only[cont,hx]
theorem cont_ts{k:Nat}(hk:k<t.tks.length):(cont ρ t .ts)[k]?=some (pvv (ρ (.tk k))):=by simp[cont,hk]
theorem cont_ss{k:Nat}(hk:k<t.scs.length):(cont ρ t .ss)[k]?=some (pvv (ρ (.sc k))):=by simp[cont,hk]
theorem Sh.ts'(s:Sh ρ t){k:Nat}(hk:k<t.tks.length):∃ i,ρ .ts=some i:=by
 cases e:ρ .ts with
 | some i=>exact⟨i,rfl⟩
 | none=>have:=s.ts e;rw[this] at hk;simp at hk
theorem Sh.ss'(s:Sh ρ t){k:Nat}(hk:k<t.scs.length):∃ i,ρ .ss=some i:=by
 cases e:ρ .ss with
 | some i=>exact⟨i,rfl⟩
 | none=>have:=s.ss e;rw[this] at hk;simp at hk
end
end Go.Proofs.Ytahomnlkkafbjaa.tr
namespace Go.Proofs.Ytahomnlkkafbjaa.r2p
open Go Go.Ev
theorem ru_low(r to len q k:Nat)(n n1:Int)(g:Hp) :
  PF Try.f42 [pT r 0,iV n] g [.bit true] =
  some (.tuple #[.pointer none,iV 6],.is g,[],[.cmp .lss n 1 true]):=by intros;kernel_rfl
theorem ru_highn(r to len q k:Nat)(n n1:Int)(g:Hp) :
  PF Try.f42 [pT r 0,iV n] g [.bit false,.val (nS),.bit true] =
  some (.tuple #[.pointer none,iV 6],.is g,[],[.cmp .lss n 1 false,.ld1 g r 0 (nS),.cmp .gtr n 0 true]):=by intros;kernel_rfl
theorem ru_highs(r to len q k:Nat)(n n1:Int)(g:Hp) :
  let Z1:=sL to len 1
  PF Try.f42 [pT r 0,iV n] g [.bit false,.val Z1,.bit true] =
  some (.tuple #[.pointer none,iV 6],.is g,[],[.cmp .lss n 1 false,.ld1 g r 0 Z1,.cmp .gtr n (Int.ofNat len) true]):=by intros;kernel_rfl
theorem ru_end(r to len q k:Nat)(n n1:Int)(g:Hp) :
  let Z1:=sL to len 1
  let Z2:=pT k 0
  PF Try.f42 [pT r 0,iV n] g [.bit false,.val Z1,.bit false,.val Z1,.num n1,.offs q,.val Z2,.val bT] =
  some (.tuple #[.pointer none,iV 6],.is g,[],[.cmp .lss n 1 false,.ld1 g r 0 Z1,.cmp .gtr n (Int.ofNat len) false,.ld1 g r 0 Z1,.arith .sub .i64 n 1 n1,.off q 0 n1 len 1,.ld1 g to q Z2,.ld1 g k 4 bT]):=by intros;kernel_rfl
theorem ru_ok(r to len q k:Nat)(n n1:Int)(g:Hp) :
  let Z1:=sL to len 1
  let Z2:=pT k 0
  PF Try.f42 [pT r 0,iV n] g [.bit false,.val Z1,.bit false,.val Z1,.num n1,.offs q,.val Z2,.val bF,.val Z1,.num n1,.offs q,.val Z2] =
  some (.tuple #[Z2,iV 0],.is g,[],[.cmp .lss n 1 false,.ld1 g r 0 Z1,.cmp .gtr n (Int.ofNat len) false,.ld1 g r 0 Z1,.arith .sub .i64 n 1 n1,.off q 0 n1 len 1,.ld1 g to q Z2,.ld1 g k 4 bF,.ld1 g r 0 Z1,.arith .sub .i64 n 1 n1,.off q 0 n1 len 1,.ld1 g to q Z2]):=by intros;kernel_rfl
theorem ac_err(r k:Nat)(n e:Int)(g:Hp) :
  let Z1:LV:=[pT r 0,iV n]
  let Z2:V:=.tuple #[.pointer none,iV e]
  PF Try.f46 Z1 g [.ret Z2 g,.bit false] =
  some (Z2,.is g,[],[.call 42 Z1 g Z2 g,.cmp .eql e 0 false]):=by intros;kernel_rfl
theorem ac_lv(r k:Nat)(n e:Int)(g:Hp) :
  let Z1:LV:=[pT r 0,iV n]
  let Z2:V:=.tuple #[pT k 0,iV 0]
  PF Try.f46 Z1 g [.ret Z2 g,.bit true,.val bT] =
  some (.tuple #[.pointer none,iV 22],.is g,[],[.call 42 Z1 g Z2 g,.cmp .eql 0 0 true,.ld1 g k 3 bT]):=by intros;kernel_rfl
theorem ac_ok(r k:Nat)(n e:Int)(g:Hp) :
  let Z1:LV:=[pT r 0,iV n]
  let Z2:V:=.tuple #[pT k 0,iV 0]
  PF Try.f46 Z1 g [.ret Z2 g,.bit true,.val bF] =
  some (Z2,.is g,[],[.call 42 Z1 g Z2 g,.cmp .eql 0 0 true,.ld1 g k 3 bF]):=by intros;kernel_rfl
theorem sc_low(r to len q k:Nat)(n n1:Int)(g:Hp) :
  PF Try.f41 [pT r 0,iV n] g [.bit true] =
  some (.tuple #[.pointer none,iV 6],.is g,[],[.cmp .lss n 1 true]):=by intros;kernel_rfl
theorem sc_highn(r to len q k:Nat)(n n1:Int)(g:Hp) :
  PF Try.f41 [pT r 0,iV n] g [.bit false,.val (nS),.bit true] =
  some (.tuple #[.pointer none,iV 6],.is g,[],[.cmp .lss n 1 false,.ld1 g r 1 (nS),.cmp .gtr n 0 true]):=by intros;kernel_rfl
theorem sc_highs(r to len q k:Nat)(n n1:Int)(g:Hp) :
  let Z1:=sL to len 1
  PF Try.f41 [pT r 0,iV n] g [.bit false,.val Z1,.bit true] =
  some (.tuple #[.pointer none,iV 6],.is g,[],[.cmp .lss n 1 false,.ld1 g r 1 Z1,.cmp .gtr n (Int.ofNat len) true]):=by intros;kernel_rfl
theorem sc_ok(r to len q k:Nat)(n n1:Int)(g:Hp) :
  let Z1:=sL to len 1
  let Z2:=pT k 0
  PF Try.f41 [pT r 0,iV n] g [.bit false,.val Z1,.bit false,.val Z1,.num n1,.offs q,.val Z2] =
  some (.tuple #[Z2,iV 0],.is g,[],[.cmp .lss n 1 false,.ld1 g r 1 Z1,.cmp .gtr n (Int.ofNat len) false,.ld1 g r 1 Z1,.arith .sub .i64 n 1 n1,.off q 0 n1 len 1,.ld1 g to q Z2]):=by intros;kernel_rfl
theorem in_nil(k o len q:Nat)(l1:Int)(v:V)(g:Hp) :
  PF Try.f47 [pT k 0] g [.val (nS),.bit true] =
  some (.tuple #[.pointer none,bF],.is g,[],[.ld1 g k 2 (nS),.cmp .eql 0 0 true]):=by intros;kernel_rfl
theorem in_zero(k o len q:Nat)(l1:Int)(v:V)(g:Hp) :
  let Z1:=sL o len 1
  PF Try.f47 [pT k 0] g [.val Z1,.bit true] =
  some (.tuple #[.pointer none,bF],.is g,[],[.ld1 g k 2 Z1,.cmp .eql (Int.ofNat len) 0 true]):=by intros;kernel_rfl
theorem in_some(k o len q:Nat)(l1:Int)(v:V)(g:Hp) :
  let Z1:=sL o len 1
  PF Try.f47 [pT k 0] g [.val Z1,.bit false,.val Z1,.val Z1,.num l1,.offs q,.val v] =
  some (.tuple #[v,bT],.is g,[],[.ld1 g k 2 Z1,.cmp .eql (Int.ofNat len) 0 false,.stat (drawN Try.f47 0),.ld1 g k 2 Z1,.ld1 g k 2 Z1,.arith .sub .i64 (Int.ofNat len) 1 l1,.off q 0 l1 len 1,.ld1 g o q v]):=by intros;kernel_rfl
theorem ad_n(r to len b c z sid so sl d y:Nat)(n1 lv l1:Int)(cr cs cs2 cs3 ns news:LV)(g:Hp)(cs3':LV) :
  let Z1:SH:=.push g (cS [iV n1,.pointer none,nS,bF,bF,iV 0,.string eS])
  let Z2:SH:=.push Z1 (cS [pT b 0])
  let Z3:SH:=.push Z2 (cS news)
  let Z4:SH:=.set Z3 r (cS cr)
  PF Try.f39 [pT r 0,.pointer none] g [.val (nS),.num n1,.idx b,.val (nS),.idx c,.app [] news 0 z,.cells cr,.val (iV n1)] =
  some (iV n1,Z4,[],[.ld1 g r 0 (nS),.arith .add .i64 0 1 n1,.len g b,.ld1 Z1 r 0 (nS),.len Z1 c,.appNil Z2 c 0 1 0 1 8 news z,.st Z3 r 0 [sL z 1 1] cr,.ld1 Z4 b 0 (iV n1)]):=by intros;kernel_rfl
theorem ad_s(r to len b c z sid so sl d y:Nat)(n1 lv l1:Int)(cr cs cs2 cs3 ns news:LV)(g:Hp)(cs3':LV) :
  let Z1:=sL to len 1
  let Z2:SH:=.push g (cS [iV n1,.pointer none,nS,bF,bF,iV 0,.string eS])
  let Z3:SH:=.push Z2 (cS [pT b 0])
  let Z4:SH:=.push (.set Z3 to .dead) (cS cs)
  let Z5:SH:=.set Z4 r (cS cr)
  PF Try.f39 [pT r 0,.pointer none] g [.val Z1,.num n1,.idx b,.val Z1,.idx c,.app cs news 0 z,.cells cr,.val (iV n1)] =
  some (iV n1,Z5,[],[.ld1 g r 0 Z1,.arith .add .i64 (Int.ofNat len) 1 n1,.len g b,.ld1 Z2 r 0 Z1,.len Z2 c,.app Z3 to 0 len c 0 1 0 1 8 cs news z,.st Z4 r 0 [sL z (Nat.succ len) 1] cr,.ld1 Z5 b 0 (iV n1)]):=by intros;kernel_rfl
theorem ad_sn(r to len b c z sid so sl d y:Nat)(n1 lv l1:Int)(cr cs cs2 cs3 ns news:LV)(g:Hp)(cs3':LV) :
  let Z1:=pT sid 0
  let Z2:=sL to len 1
  let Z3:SH:=.push g (cS [iV n1,Z1,nS,bF,bF,iV 0,.string eS])
  let Z4:AObj:=cS [pT b 0]
  let Z5:SH:=.push Z3 Z4
  let Z6:SH:=.push (.set Z5 to .dead) (cS cs)
  let Z7:SH:=.set Z6 r (cS cr)
  let Z8:SH:=.push Z7 Z4
  let Z9:SH:=.push Z8 (cS ns)
  let Z10:SH:=.set Z9 sid (cS cs3)
  let Z11:SH:=.set Z10 sid (cS cs3')
  PF Try.f39 [pT r 0,Z1] g [.val Z2,.num n1,.idx b,.val Z2,.idx c,.app cs news 0 z,.cells cr,.val (nS),.idx d,.app [] ns 0 y,.cells cs3,.val (iV lv),.num l1,.cells cs3',.val (iV n1)] =
  some (iV n1,Z11,[],[.ld1 g r 0 Z2,.arith .add .i64 (Int.ofNat len) 1 n1,.len g b,.ld1 Z3 r 0 Z2,.len Z3 c,.app Z5 to 0 len c 0 1 0 1 8 cs news z,.st Z6 r 0 [sL z (Nat.succ len) 1] cr,.ld1 Z7 sid 4 (nS),.len Z7 d,.appNil Z8 d 0 1 0 1 8 ns y,.st Z9 sid 4 [sL y 1 1] cs3,.ld1 Z10 sid 5 (iV lv),.arith .add .i64 lv 1 l1,.st Z10 sid 5 [iV l1] cs3',.ld1 Z11 b 0 (iV n1)]):=by intros;kernel_rfl
theorem ad_ss(r to len b c z sid so sl d y:Nat)(n1 lv l1:Int)(cr cs cs2 cs3 ns news:LV)(g:Hp)(cs3':LV) :
  let Z1:=pT sid 0
  let Z2:=sL to len 1
  let Z3:=sL so sl 1
  let Z4:SH:=.push g (cS [iV n1,Z1,nS,bF,bF,iV 0,.string eS])
  let Z5:AObj:=cS [pT b 0]
  let Z6:SH:=.push Z4 Z5
  let Z7:SH:=.push (.set Z6 to .dead) (cS cs)
  let Z8:SH:=.set Z7 r (cS cr)
  let Z9:SH:=.push Z8 Z5
  let Z10:SH:=.push (.set Z9 so .dead) (cS cs2)
  let Z11:SH:=.set Z10 sid (cS cs3)
  let Z12:SH:=.set Z11 sid (cS cs3')
  PF Try.f39 [pT r 0,Z1] g [.val Z2,.num n1,.idx b,.val Z2,.idx c,.app cs news 0 z,.cells cr,.val Z3,.idx d,.app cs2 ns 0 y,.cells cs3,.val (iV lv),.num l1,.cells cs3',.val (iV n1)] =
  some (iV n1,Z12,[],[.ld1 g r 0 Z2,.arith .add .i64 (Int.ofNat len) 1 n1,.len g b,.ld1 Z4 r 0 Z2,.len Z4 c,.app Z6 to 0 len c 0 1 0 1 8 cs news z,.st Z7 r 0 [sL z (Nat.succ len) 1] cr,.ld1 Z8 sid 4 Z3,.len Z8 d,.app Z9 so 0 sl d 0 1 0 1 8 cs2 ns y,.st Z10 sid 4 [sL y (Nat.succ sl) 1] cs3,.ld1 Z11 sid 5 (iV lv),.arith .add .i64 lv 1 l1,.st Z11 sid 5 [iV l1] cs3',.ld1 Z12 b 0 (iV n1)]):=by intros;kernel_rfl
theorem ro_full(r to len:Nat)(x:Int)(g g2:Hp) :
  let Z1:=sL to len 1
  PF Try.f33 [pT r 0] g [.val Z1,.bit true] =
  some (.tuple #[iV 0,iV 5],.is g,[],[.ld1 g r 0 Z1,.cmp .geq (Int.ofNat len) 64 true]):=by intros;kernel_rfl
theorem ro_oks(r to len:Nat)(x:Int)(g g2:Hp) :
  let Z1:=pT r 0
  let Z2:=sL to len 1
  PF Try.f33 [Z1] g [.val Z2,.bit false,.ret (iV x) g2] =
  some (.tuple #[iV x,iV 0],.is g2,[],[.ld1 g r 0 Z2,.cmp .geq (Int.ofNat len) 64 false,.call 39 [Z1,.pointer none] g (iV x) g2]):=by intros;kernel_rfl
theorem ro_okn(r to len:Nat)(x:Int)(g g2:Hp) :
  let Z1:=pT r 0
  PF Try.f33 [Z1] g [.val (nS),.bit false,.ret (iV x) g2] =
  some (.tuple #[iV x,iV 0],.is g2,[],[.ld1 g r 0 (nS),.cmp .geq 0 64 false,.call 39 [Z1,.pointer none] g (iV x) g2]):=by intros;kernel_rfl
theorem nw_low(b:Nat)(n:Int)(g g2:Hp) :
  PF Try.f11 [iV n] g [.bit true] =
  some (.tuple #[.pointer none,iV 2],.is g,[],[.cmp .lss n 1 true]):=by intros;kernel_rfl
theorem nw_high(b:Nat)(n:Int)(g g2:Hp) :
  PF Try.f11 [iV n] g [.bit false,.bit true] =
  some (.tuple #[.pointer none,iV 2],.is g,[],[.cmp .lss n 1 false,.cmp .gtr n 64 true]):=by intros;kernel_rfl
theorem nw_ok(b:Nat)(n:Int)(g g2:Hp) :
  let Z1:=pT b 0
  let Z2:Env:=[(4,Z1)]
  PF Try.f11 [iV n] g [.bit false,.bit false,.idx b,.loop (.exit 0) Z2 g2] =
  some (.tuple #[Z1,iV 0],.is g2,[],[.cmp .lss n 1 false,.cmp .gtr n 64 false,.len g b,.loop 20 false (loopN Try.f11 0) [(14,iV 0),(13,iV n),(4,Z1),(12,Z1),(11,.agg #[nS,nS]),(10,bF),(9,bF),(8,iV n),(7,bF),(6,bF),(5,iV n),(3,iV 0),(2,.pointer none),(0,iV n)] (.push g (cS [nS,nS])) (.exit 0) Z2 g2]):=by intros;kernel_rfl
theorem nl_out(b:Nat)(n i:Int)(g:Hp) :
  PC 20 false (loopN Try.f11 0) [(14,iV i),(13,iV n),(4,pT b 0)] g [.bit false] =
  some (.exit 0,[(15,bF),(14,iV i),(13,iV n),(4,pT b 0)],.is g,[],[.cmp .lss i n false]):=by intros;kernel_rfl
theorem nl_go(b:Nat)(n i i1 x:Int)(g g2:Hp) :
  let Z1:=pT b 0
  cutP [14,13,4] (PC 20 false (loopN Try.f11 0) [(14,iV i),(13,iV n),(4,Z1)] g [.bit true,.ret (iV x) g2,.num i1]) =
  some (.normal,[(14,iV i1),(13,iV n),(4,Z1)],.is g2,[],[.cmp .lss i n true,.call 39 [Z1,.pointer none] g (iV x) g2,.arith .add .i64 i 1 i1]):=by intros;kernel_rfl
theorem op_err(r k so sl b c z oo ol d y:Nat)(n e n1:Int)(su:Bool)(cr ct cs cs2 news ns:LV)(g:Hp) :
  let Z1:=pT r 0
  let Z2:V:=.tuple #[.pointer none,iV e]
  PF Try.f21 [Z1,iV n,.bool su] g [.ret Z2 g,.bit true] =
  some (.tuple #[iV 0,iV e],.is g,[],[.call 46 [Z1,iV n] g Z2 g,.cmp .neq e 0 true]):=by intros;kernel_rfl
theorem op_full(r k so sl b c z oo ol d y:Nat)(n e n1:Int)(su:Bool)(cr ct cs cs2 news ns:LV)(g:Hp) :
  let Z1:=pT r 0
  let Z2:V:=.tuple #[pT k 0,iV 0]
  let Z3:=sL so sl 1
  PF Try.f21 [Z1,iV n,.bool su] g [.ret Z2 g,.bit false,.val Z3,.bit true] =
  some (.tuple #[iV 0,iV 5],.is g,[],[.call 46 [Z1,iV n] g Z2 g,.cmp .neq 0 0 false,.ld1 g r 1 Z3,.cmp .geq (Int.ofNat sl) 200 true]):=by intros;kernel_rfl
theorem op_nn(r k so sl b c z oo ol d y:Nat)(n e n1:Int)(su:Bool)(cr ct cs cs2 news ns:LV)(g:Hp) :
  let Z1:=pT r 0
  let Z2:=pT k 0
  let Z3:V:=.tuple #[Z2,iV 0]
  let Z4:SH:=.push g (cS [iV n1,Z2,.bool su,bF,nS,iV 0,iV 0,.string eS])
  let Z5:AObj:=cS [pT b 0]
  let Z6:SH:=.push Z4 Z5
  let Z7:SH:=.push Z6 (cS news)
  let Z8:SH:=.set Z7 r (cS cr)
  let Z9:SH:=.push Z8 Z5
  let Z10:SH:=.push Z9 (cS ns)
  let Z11:SH:=.set Z10 k (cS ct)
  PF Try.f21 [Z1,iV n,.bool su] g [.ret Z3 g,.bit false,.val (nS),.bit false,.val (nS),.num n1,.idx b,.val (nS),.idx c,.app [] news 0 z,.cells cr,.val (nS),.idx d,.app [] ns 0 y,.cells ct,.val (iV n1)] =
  some (.tuple #[iV n1,iV 0],Z11,[],[.call 46 [Z1,iV n] g Z3 g,.cmp .neq 0 0 false,.ld1 g r 1 (nS),.cmp .geq 0 200 false,.ld1 g r 1 (nS),.arith .add .i64 0 1 n1,.len g b,.ld1 Z4 r 1 (nS),.len Z4 c,.appNil Z6 c 0 1 0 1 8 news z,.st Z7 r 1 [sL z 1 1] cr,.ld1 Z8 k 2 (nS),.len Z8 d,.appNil Z9 d 0 1 0 1 8 ns y,.st Z10 k 2 [sL y 1 1] ct,.ld1 Z11 b 0 (iV n1)]):=by intros;kernel_rfl
theorem op_ns(r k so sl b c z oo ol d y:Nat)(n e n1:Int)(su:Bool)(cr ct cs cs2 news ns:LV)(g:Hp) :
  let Z1:=pT r 0
  let Z2:=pT k 0
  let Z3:V:=.tuple #[Z2,iV 0]
  let Z4:=sL oo ol 1
  let Z5:SH:=.push g (cS [iV n1,Z2,.bool su,bF,nS,iV 0,iV 0,.string eS])
  let Z6:AObj:=cS [pT b 0]
  let Z7:SH:=.push Z5 Z6
  let Z8:SH:=.push Z7 (cS news)
  let Z9:SH:=.set Z8 r (cS cr)
  let Z10:SH:=.push Z9 Z6
  let Z11:SH:=.push (.set Z10 oo .dead) (cS cs2)
  let Z12:SH:=.set Z11 k (cS ct)
  PF Try.f21 [Z1,iV n,.bool su] g [.ret Z3 g,.bit false,.val (nS),.bit false,.val (nS),.num n1,.idx b,.val (nS),.idx c,.app [] news 0 z,.cells cr,.val Z4,.idx d,.app cs2 ns 0 y,.cells ct,.val (iV n1)] =
  some (.tuple #[iV n1,iV 0],Z12,[],[.call 46 [Z1,iV n] g Z3 g,.cmp .neq 0 0 false,.ld1 g r 1 (nS),.cmp .geq 0 200 false,.ld1 g r 1 (nS),.arith .add .i64 0 1 n1,.len g b,.ld1 Z5 r 1 (nS),.len Z5 c,.appNil Z7 c 0 1 0 1 8 news z,.st Z8 r 1 [sL z 1 1] cr,.ld1 Z9 k 2 Z4,.len Z9 d,.app Z10 oo 0 ol d 0 1 0 1 8 cs2 ns y,.st Z11 k 2 [sL y (Nat.succ ol) 1] ct,.ld1 Z12 b 0 (iV n1)]):=by intros;kernel_rfl
theorem op_sn(r k so sl b c z oo ol d y:Nat)(n e n1:Int)(su:Bool)(cr ct cs cs2 news ns:LV)(g:Hp) :
  let Z1:=pT r 0
  let Z2:=pT k 0
  let Z3:V:=.tuple #[Z2,iV 0]
  let Z4:=sL so sl 1
  let Z5:SH:=.push g (cS [iV n1,Z2,.bool su,bF,nS,iV 0,iV 0,.string eS])
  let Z6:AObj:=cS [pT b 0]
  let Z7:SH:=.push Z5 Z6
  let Z8:SH:=.push (.set Z7 so .dead) (cS cs)
  let Z9:SH:=.set Z8 r (cS cr)
  let Z10:SH:=.push Z9 Z6
  let Z11:SH:=.push Z10 (cS ns)
  let Z12:SH:=.set Z11 k (cS ct)
  PF Try.f21 [Z1,iV n,.bool su] g [.ret Z3 g,.bit false,.val Z4,.bit false,.val Z4,.num n1,.idx b,.val Z4,.idx c,.app cs news 0 z,.cells cr,.val (nS),.idx d,.app [] ns 0 y,.cells ct,.val (iV n1)] =
  some (.tuple #[iV n1,iV 0],Z12,[],[.call 46 [Z1,iV n] g Z3 g,.cmp .neq 0 0 false,.ld1 g r 1 Z4,.cmp .geq (Int.ofNat sl) 200 false,.ld1 g r 1 Z4,.arith .add .i64 (Int.ofNat sl) 1 n1,.len g b,.ld1 Z5 r 1 Z4,.len Z5 c,.app Z7 so 0 sl c 0 1 0 1 8 cs news z,.st Z8 r 1 [sL z (Nat.succ sl) 1] cr,.ld1 Z9 k 2 (nS),.len Z9 d,.appNil Z10 d 0 1 0 1 8 ns y,.st Z11 k 2 [sL y 1 1] ct,.ld1 Z12 b 0 (iV n1)]):=by intros;kernel_rfl
theorem op_ss(r k so sl b c z oo ol d y:Nat)(n e n1:Int)(su:Bool)(cr ct cs cs2 news ns:LV)(g:Hp) :
  let Z1:=pT r 0
  let Z2:=pT k 0
  let Z3:V:=.tuple #[Z2,iV 0]
  let Z4:=sL so sl 1
  let Z5:=sL oo ol 1
  let Z6:SH:=.push g (cS [iV n1,Z2,.bool su,bF,nS,iV 0,iV 0,.string eS])
  let Z7:AObj:=cS [pT b 0]
  let Z8:SH:=.push Z6 Z7
  let Z9:SH:=.push (.set Z8 so .dead) (cS cs)
  let Z10:SH:=.set Z9 r (cS cr)
  let Z11:SH:=.push Z10 Z7
  let Z12:SH:=.push (.set Z11 oo .dead) (cS cs2)
  let Z13:SH:=.set Z12 k (cS ct)
  PF Try.f21 [Z1,iV n,.bool su] g [.ret Z3 g,.bit false,.val Z4,.bit false,.val Z4,.num n1,.idx b,.val Z4,.idx c,.app cs news 0 z,.cells cr,.val Z5,.idx d,.app cs2 ns 0 y,.cells ct,.val (iV n1)] =
  some (.tuple #[iV n1,iV 0],Z13,[],[.call 46 [Z1,iV n] g Z3 g,.cmp .neq 0 0 false,.ld1 g r 1 Z4,.cmp .geq (Int.ofNat sl) 200 false,.ld1 g r 1 Z4,.arith .add .i64 (Int.ofNat sl) 1 n1,.len g b,.ld1 Z6 r 1 Z4,.len Z6 c,.app Z8 so 0 sl c 0 1 0 1 8 cs news z,.st Z9 r 1 [sL z (Nat.succ sl) 1] cr,.ld1 Z10 k 2 Z5,.len Z10 d,.app Z11 oo 0 ol d 0 1 0 1 8 cs2 ns y,.st Z12 k 2 [sL y (Nat.succ ol) 1] ct,.ld1 Z13 b 0 (iV n1)]):=by intros;kernel_rfl
theorem sh_err(r k oo ol c z:Nat)(n e m:Int)(ct cs news:LV)(g g2:Hp) :
  let Z1:LV:=[pT r 0,iV n]
  let Z2:V:=.tuple #[.pointer none,iV e]
  PF Try.f23 Z1 g [.ret Z2 g,.bit true] =
  some (iV e,.is g,[],[.call 46 Z1 g Z2 g,.cmp .neq e 0 true]):=by intros;kernel_rfl
theorem sh_full(r k oo ol c z:Nat)(n e m:Int)(ct cs news:LV)(g g2:Hp) :
  let Z1:=pT r 0
  let Z2:LV:=[Z1,iV n]
  let Z3:=pT k 0
  let Z4:V:=.tuple #[Z3,iV 0]
  let Z5:=sL oo ol 1
  let Z6:Env:=[(7,iV m),(5,Z3)]
  PF Try.f23 Z2 g [.ret Z4 g,.bit false,.val Z5,.loop (.exit 0) Z6 g,.bit true] =
  some (iV 5,.is g,[],[.call 46 Z2 g Z4 g,.cmp .neq 0 0 false,.ld1 g k 2 Z5,.loop 44 false (loopN Try.f23 0) [(24,iV 0),(23,iN ol),(22,Z5),(21,pT k 2),(20,Z3),(19,Z3),(7,iV 0),(17,bF),(16,iV 0),(6,iV 0),(5,Z3),(15,iV 0),(14,Z3),(10,Z4),(13,Z4),(12,iV n),(11,Z1),(4,iV 0),(0,Z1),(1,iV n)] g (.exit 0) Z6 g,.cmp .geq m 40 true]):=by intros;kernel_rfl
theorem sh_oks(r k oo ol c z:Nat)(n e m:Int)(ct cs news:LV)(g g2:Hp) :
  let Z1:=pT r 0
  let Z2:LV:=[Z1,iV n]
  let Z3:=pT k 0
  let Z4:V:=.tuple #[Z3,iV 0]
  let Z5:=sL oo ol 1
  let Z6:Env:=[(7,iV m),(5,Z3)]
  let Z7:SH:=.push g (cS [.pointer none])
  let Z8:SH:=.push (.set Z7 oo .dead) (cS cs)
  PF Try.f23 Z2 g [.ret Z4 g,.bit false,.val Z5,.loop (.exit 0) Z6 g,.bit false,.val Z5,.idx c,.app cs news 0 z,.cells ct] =
  some (iV 0,.set Z8 k (cS ct),[],[.call 46 Z2 g Z4 g,.cmp .neq 0 0 false,.ld1 g k 2 Z5,.loop 44 false (loopN Try.f23 0) [(24,iV 0),(23,iN ol),(22,Z5),(21,pT k 2),(20,Z3),(19,Z3),(7,iV 0),(17,bF),(16,iV 0),(6,iV 0),(5,Z3),(15,iV 0),(14,Z3),(10,Z4),(13,Z4),(12,iV n),(11,Z1),(4,iV 0),(0,Z1),(1,iV n)] g (.exit 0) Z6 g,.cmp .geq m 40 false,.ld1 g k 2 Z5,.len g c,.app Z7 oo 0 ol c 0 1 0 1 8 cs news z,.st Z8 k 2 [sL z (Nat.succ ol) 1] ct]):=by intros;kernel_rfl
theorem sh_okn(r k oo ol c z:Nat)(n e m:Int)(ct cs news:LV)(g g2:Hp) :
  let Z1:LV:=[pT r 0,iV n]
  let Z2:V:=.tuple #[pT k 0,iV 0]
  let Z3:SH:=.push g (cS [.pointer none])
  let Z4:SH:=.push Z3 (cS news)
  PF Try.f23 Z1 g [.ret Z2 g,.bit false,.val (nS),.unr 1,.bit false,.bit false,.val (nS),.idx c,.app [] news 0 z,.cells ct] =
  some (iV 0,.set Z4 k (cS ct),[],[.call 46 Z1 g Z2 g,.cmp .neq 0 0 false,.ld1 g k 2 (nS),.cmp .lss 0 0 false,.cmp .geq 0 40 false,.ld1 g k 2 (nS),.len g c,.appNil Z3 c 0 1 0 1 8 news z,.st Z4 k 2 [sL z 1 1] ct]):=by intros;kernel_rfl
theorem sl_out(k oo ol q s:Nat)(i i1 m m1:Int)(g:Hp) :
  PC 44 false (loopN Try.f23 0) [(24,iV i),(23,iN ol),(22,sL oo ol 1),(7,iV m),(5,pT k 0)] g [.bit false] =
  some (.exit 0,[(25,bF),(24,iV i),(23,iN ol),(22,sL oo ol 1),(7,iV m),(5,pT k 0)],.is g,[],[.cmp .lss i (Int.ofNat ol) false]):=by intros;kernel_rfl
theorem sl_nil(k oo ol q s:Nat)(i i1 m m1:Int)(g:Hp) :
  cutP [24,7,9,23,22,5] (PC 44 false (loopN Try.f23 0) [(24,iV i),(23,iN ol),(22,sL oo ol 1),(7,iV m),(5,pT k 0)] g [.bit true,.offs q,.val (.pointer none),.num m1,.num i1]) =
  some (.normal,[(24,iV i1),(7,iV m1),(9,.pointer none),(23,iN ol),(22,sL oo ol 1),(5,pT k 0)],.is g,[],[.cmp .lss i (Int.ofNat ol) true,.off q 0 i ol 1,.ld1 g oo q (.pointer none),.arith .add .i64 m 1 m1,.arith .add .i64 i 1 i1]):=by intros;kernel_rfl
theorem sl_some(k oo ol q s:Nat)(i i1 m m1:Int)(g:Hp) :
  let Z1:=pT s 0
  cutP [24,9,23,22,7,5] (PC 44 false (loopN Try.f23 0) [(24,iV i),(23,iN ol),(22,sL oo ol 1),(7,iV m),(5,pT k 0)] g [.bit true,.offs q,.val Z1,.num i1]) =
  some (.normal,[(24,iV i1),(9,Z1),(23,iN ol),(22,sL oo ol 1),(7,iV m),(5,pT k 0)],.is g,[],[.cmp .lss i (Int.ofNat ol) true,.off q 0 i ol 1,.ld1 g oo q Z1,.arith .add .i64 i 1 i1]):=by intros;kernel_rfl
theorem un_err(r k s oo ol e1:Nat)(n e l1:Int)(ct:LV)(g:Hp) :
  let Z1:LV:=[pT r 0,iV n]
  let Z2:V:=.tuple #[.pointer none,iV e]
  PF Try.f24 Z1 g [.ret Z2 g,.bit true] =
  some (iV e,.is g,[],[.call 46 Z1 g Z2 g,.cmp .neq e 0 true]):=by intros;kernel_rfl
theorem un_none(r k s oo ol e1:Nat)(n e l1:Int)(ct:LV)(g:Hp) :
  let Z1:LV:=[pT r 0,iV n]
  let Z2:=pT k 0
  let Z3:V:=.tuple #[Z2,iV 0]
  let Z4:V:=.tuple #[.pointer none,bF]
  PF Try.f24 Z1 g [.ret Z3 g,.bit false,.ret Z4 g] =
  some (iV 22,.is g,[],[.call 46 Z1 g Z3 g,.cmp .neq 0 0 false,.call 47 [Z2] g Z4 g]):=by intros;kernel_rfl
theorem un_scope(r k s oo ol e1:Nat)(n e l1:Int)(ct:LV)(g:Hp) :
  let Z1:LV:=[pT r 0,iV n]
  let Z2:=pT k 0
  let Z3:V:=.tuple #[Z2,iV 0]
  let Z4:V:=.tuple #[pT s 0,bT]
  PF Try.f24 Z1 g [.ret Z3 g,.bit false,.ret Z4 g] =
  some (iV 22,.is g,[],[.call 46 Z1 g Z3 g,.cmp .neq 0 0 false,.call 47 [Z2] g Z4 g]):=by intros;kernel_rfl
theorem un_ok(r k s oo ol e1:Nat)(n e l1:Int)(ct:LV)(g:Hp) :
  let Z1:LV:=[pT r 0,iV n]
  let Z2:=pT k 0
  let Z3:V:=.tuple #[Z2,iV 0]
  let Z4:V:=.tuple #[.pointer none,bT]
  let Z5:=sL oo ol 1
  PF Try.f24 Z1 g [.ret Z3 g,.bit false,.ret Z4 g,.val Z5,.val Z5,.num (Int.ofNat e1),.cut 0 e1,.cells ct] =
  some (iV 0,.set g k (cS ct),[],[.call 46 Z1 g Z3 g,.cmp .neq 0 0 false,.call 47 [Z2] g Z4 g,.stat (drawN Try.f24 0),.ld1 g k 2 Z5,.ld1 g k 2 Z5,.arith .sub .i64 (Int.ofNat ol) 1 (Int.ofNat e1),.cut none (some (iN e1)) ol 0 e1,.st g k 2 [sL oo e1 1] ct]):=by intros;kernel_rfl
theorem li_nil(b:Nat)(g:Hp) :
  let Z1:LV:=[iV 3,iV 0]
  let Z2:SH:=.push g (cS [iV 0,iV 0])
  let Z3:SH:=.set Z2 b (cS Z1)
  PF Try.f40 [.pointer none] g [.idx b,.cells Z1,.cells Z1] =
  some (.agg #[iV 3,iV 0],Z3,[],[.len g b,.st Z2 b 0 Z1 Z1,.ldn Z3 b 0 2 Z1]):=by intros;kernel_rfl
theorem li_some(b s:Nat)(n:Int)(g:Hp) :
  let Z1:LV:=[iV 2,iV n]
  let Z2:SH:=.push g (cS [iV 0,iV 0])
  let Z3:SH:=.set Z2 b (cS Z1)
  PF Try.f40 [pT s 0] g [.idx b,.val (iV n),.cells Z1,.cells Z1] =
  some (.agg #[iV 2,iV n],Z3,[],[.len g b,.ld1 Z2 s 0 (iV n),.st Z2 b 0 Z1 Z1,.ldn Z3 b 0 2 Z1]):=by intros;kernel_rfl
theorem bl_kind(s b:Nat)(fk sk:Int)(ft:ByteArray)(cs:LV)(g:Hp) :
  let Z1:SH:=.push g (cS [iV fk,.string ft])
  PF Try.f52 [pT s 0,.agg #[iV fk,.string ft]] g [.idx b,.val (iV fk),.bit true] =
  some (bF,Z1,[],[.len g b,.ld1 Z1 b 0 (iV fk),.cmp .neq fk 1 true]):=by intros;kernel_rfl
theorem bl_has(s b:Nat)(fk sk:Int)(ft:ByteArray)(cs:LV)(g:Hp) :
  let Z1:SH:=.push g (cS [iV fk,.string ft])
  PF Try.f52 [pT s 0,.agg #[iV fk,.string ft]] g [.idx b,.val (iV fk),.bit false,.val (iV sk),.bit true] =
  some (bF,Z1,[],[.len g b,.ld1 Z1 b 0 (iV fk),.cmp .neq fk 1 false,.ld1 Z1 s 6 (iV sk),.cmp .neq sk 0 true]):=by intros;kernel_rfl
theorem bl_ok(s b:Nat)(fk sk:Int)(ft:ByteArray)(cs:LV)(g:Hp) :
  let Z1:LV:=[iV fk,.string ft]
  let Z2:SH:=.push g (cS Z1)
  PF Try.f52 [pT s 0,.agg #[iV fk,.string ft]] g [.idx b,.val (iV fk),.bit false,.val (iV sk),.bit false,.cells Z1,.cells cs] =
  some (bT,.set Z2 s (cS cs),[],[.len g b,.ld1 Z2 b 0 (iV fk),.cmp .neq fk 1 false,.ld1 Z2 s 6 (iV sk),.cmp .neq sk 0 false,.ldn Z2 b 0 2 Z1,.st Z2 s 6 Z1 cs]):=by intros;kernel_rfl
theorem fa_none(b:Nat)(fk:Int)(ft:ByteArray)(z:Bool)(h:Hp) :
  let Z1:SH:=.push h (cS [iV fk,.string ft])
  PF Try.f51 [.agg #[iV fk,.string ft]] h [.idx b,.val (iV fk),.bit true,.val (.string ft),.bit z] =
  some (.bool z,Z1,[],[.len h b,.ld1 Z1 b 0 (iV fk),.cmp .eql fk 0 true,.ld1 Z1 b 1 (.string ft),.scmp .eql ft eS z]):=by intros;kernel_rfl
theorem fa_cancel(b:Nat)(fk:Int)(ft:ByteArray)(z:Bool)(h:Hp) :
  let Z1:SH:=.push h (cS [iV fk,.string ft])
  PF Try.f51 [.agg #[iV fk,.string ft]] h [.idx b,.val (iV fk),.bit false,.bit true,.val (.string ft),.bit z] =
  some (.bool z,Z1,[],[.len h b,.ld1 Z1 b 0 (iV fk),.cmp .eql fk 0 false,.cmp .eql fk 2 true,.ld1 Z1 b 1 (.string ft),.scmp .eql ft eS z]):=by intros;kernel_rfl
theorem fa_throw(b:Nat)(fk:Int)(ft:ByteArray)(z:Bool)(h h':Hp) :
  let Z1:SH:=.push h (cS [iV fk,.string ft])
  PF Try.f51 [.agg #[iV fk,.string ft]] h [.idx b,.val (iV fk),.bit false,.bit false,.bit true,.val (.string ft),.ret (.bool z) h'] =
  some (.bool z,.is h',[],[.len h b,.ld1 Z1 b 0 (iV fk),.cmp .eql fk 0 false,.cmp .eql fk 2 false,.cmp .eql fk 1 true,.ld1 Z1 b 1 (.string ft),.call 70 [.string ft] Z1 (.bool z) h']):=by intros;kernel_rfl
theorem fa_other(b:Nat)(fk:Int)(ft:ByteArray)(h:Hp) :
  let Z1:SH:=.push h (cS [iV fk,.string ft])
  PF Try.f51 [.agg #[iV fk,.string ft]] h [.idx b,.val (iV fk),.bit false,.bit false,.bit false] =
  some (bF,Z1,[],[.len h b,.ld1 Z1 b 0 (iV fk),.cmp .eql fk 0 false,.cmp .eql fk 2 false,.cmp .eql fk 1 false]):=by intros;kernel_rfl
theorem fi_lv(s s2 k oo ol e1 f e:Nat)(xn sn sk xk live:Int)(st xt:ByteArray)(last:V)(ok:Bool)(c1 c2 c3 c4:LV)(g:Hp) :
  let Z1:=pT k 0
  let Z2:V:=.tuple #[last,.bool ok]
  PF Try.f53 [pT s 0] g [.val Z1,.ret Z2 g,.val bF] =
  some (nS,.is g,[],[.ld1 g s 1 Z1,.call 47 [Z1] g Z2 g,.ld1 g k 3 bF]):=by intros;kernel_rfl
theorem fi_no(s s2 k oo ol e1 f e:Nat)(xn sn sk xk live:Int)(st xt:ByteArray)(last:V)(ok:Bool)(c1 c2 c3 c4:LV)(g:Hp) :
  let Z1:=pT k 0
  let Z2:V:=.tuple #[last,bF]
  PF Try.f53 [pT s 0] g [.val Z1,.ret Z2 g,.val bT] =
  some (nS,.is g,[],[.ld1 g s 1 Z1,.call 47 [Z1] g Z2 g,.ld1 g k 3 bT]):=by intros;kernel_rfl
theorem fi_shield(s s2 k oo ol e1 f e:Nat)(xn sn sk xk live:Int)(st xt:ByteArray)(last:V)(ok:Bool)(c1 c2 c3 c4:LV)(g:Hp) :
  let Z1:=pT k 0
  let Z2:V:=.tuple #[.pointer none,bT]
  PF Try.f53 [pT s 0] g [.val Z1,.ret Z2 g,.val bT] =
  some (nS,.is g,[],[.ld1 g s 1 Z1,.call 47 [Z1] g Z2 g,.ld1 g k 3 bT]):=by intros;kernel_rfl
theorem fi_other(s s2 k oo ol e1 f e:Nat)(xn sn sk xk live:Int)(st xt:ByteArray)(last:V)(ok:Bool)(c1 c2 c3 c4:LV)(g:Hp) :
  let Z1:=pT k 0
  let Z2:V:=.tuple #[pT s2 0,bT]
  PF Try.f53 [pT s 0] g [.val Z1,.ret Z2 g,.val bT,.bit true] =
  some (nS,.is g,[],[.ld1 g s 1 Z1,.call 47 [Z1] g Z2 g,.ld1 g k 3 bT,.peq g .neq 91 s2 0 s 0 true]):=by intros;kernel_rfl
theorem fi_live(s s2 k oo ol e1 f e:Nat)(xn sn sk xk live:Int)(st xt:ByteArray)(last:V)(ok:Bool)(c1 c2 c3 c4:LV)(g:Hp) :
  let Z1:=pT s 0
  let Z2:=pT k 0
  let Z3:V:=.tuple #[Z1,bT]
  PF Try.f53 [Z1] g [.val Z2,.ret Z3 g,.val bT,.bit false,.val (iV live),.bit true] =
  some (nS,.is g,[],[.ld1 g s 1 Z2,.call 47 [Z2] g Z3 g,.ld1 g k 3 bT,.peq g .neq 91 s 0 s 0 false,.ld1 g s 5 (iV live),.cmp .gtr live 0 true]):=by intros;kernel_rfl
theorem fi_go0(s s2 k oo ol e1 f e:Nat)(xn sn sk xk live:Int)(st xt:ByteArray)(last:V)(ok:Bool)(c1 c2 c3 c4:LV)(g:Hp) :
  let Z1:=pT s 0
  let Z2:=pT k 0
  let Z3:V:=.tuple #[Z1,bT]
  let Z4:=sL oo ol 1
  let Z5:LV:=[iV sk,.string st]
  let Z6:SH:=.set g s (cS c1)
  let Z7:SH:=.set Z6 k (cS c2)
  let Z8:SH:=.set Z7 k (cS c3)
  let Z9:LV:=[iV 0,.string eS]
  let Z10:SH:=.push Z8 (cS Z9)
  let Z11:SH:=.set Z10 f (cS Z5)
  let Z12:SH:=.set Z11 k (cS c4)
  PF Try.f53 [Z1] g [.val Z2,.ret Z3 g,.val bT,.bit false,.val (iV live),.bit false,.cells c1,.val Z4,.val Z4,.num (Int.ofNat e1),.cut 0 e1,.cells c2,.cells c3,.cells Z5,.idx f,.cells Z5,.val (iV sk),.bit false,.cells c4,.val (iV xn),.val (iV sn),.cells Z5,.idx e] =
  some (sL e 1 5,.push Z12 (cS [iV 3,iV xn,iV sn,iV sk,.string st]),[],[.ld1 g s 1 Z2,.call 47 [Z2] g Z3 g,.ld1 g k 3 bT,.peq g .neq 91 s 0 s 0 false,.ld1 g s 5 (iV live),.cmp .gtr live 0 false,.st g s 3 [bT] c1,.stat (drawN Try.f53 0),.ld1 Z6 k 2 Z4,.ld1 Z6 k 2 Z4,.arith .sub .i64 (Int.ofNat ol) 1 (Int.ofNat e1),.cut none (some (iN e1)) ol 0 e1,.st Z6 k 2 [sL oo e1 1] c2,.st Z7 k 3 [bF] c3,.ldn Z8 s 6 2 Z5,.len Z8 f,.st Z10 f 0 Z5 Z5,.ld1 Z11 f 0 (iV sk),.cmp .eql sk 0 false,.st Z11 k 5 Z9 c4,.stat (drawN Try.f53 1),.ld1 Z12 k 0 (iV xn),.ld1 Z12 s 0 (iV sn),.ldn Z12 f 0 2 Z5,.len Z12 e]):=by intros;kernel_rfl
theorem fi_go1(s s2 k oo ol e1 f e:Nat)(xn sn sk xk live:Int)(st xt:ByteArray)(last:V)(ok:Bool)(c1 c2 c3 c4:LV)(g:Hp) :
  let Z1:=pT s 0
  let Z2:=pT k 0
  let Z3:V:=.tuple #[Z1,bT]
  let Z4:=sL oo ol 1
  let Z5:LV:=[iV sk,.string st]
  let Z6:SH:=.set g s (cS c1)
  let Z7:SH:=.set Z6 k (cS c2)
  let Z8:SH:=.set Z7 k (cS c3)
  let Z9:LV:=[iV 0,.string eS]
  let Z10:SH:=.push Z8 (cS Z9)
  let Z11:SH:=.set Z10 f (cS Z5)
  let Z12:SH:=.set Z11 k (cS c4)
  PF Try.f53 [Z1] g [.val Z2,.ret Z3 g,.val bT,.bit false,.val (iV live),.bit false,.cells c1,.val Z4,.val Z4,.num (Int.ofNat e1),.cut 0 e1,.cells c2,.cells c3,.cells Z5,.idx f,.cells Z5,.val (iV sk),.bit true,.val (iV xk),.bit false,.cells c4,.val (iV xn),.val (iV sn),.cells Z5,.idx e] =
  some (sL e 1 5,.push Z12 (cS [iV 3,iV xn,iV sn,iV sk,.string st]),[],[.ld1 g s 1 Z2,.call 47 [Z2] g Z3 g,.ld1 g k 3 bT,.peq g .neq 91 s 0 s 0 false,.ld1 g s 5 (iV live),.cmp .gtr live 0 false,.st g s 3 [bT] c1,.stat (drawN Try.f53 0),.ld1 Z6 k 2 Z4,.ld1 Z6 k 2 Z4,.arith .sub .i64 (Int.ofNat ol) 1 (Int.ofNat e1),.cut none (some (iN e1)) ol 0 e1,.st Z6 k 2 [sL oo e1 1] c2,.st Z7 k 3 [bF] c3,.ldn Z8 s 6 2 Z5,.len Z8 f,.st Z10 f 0 Z5 Z5,.ld1 Z11 f 0 (iV sk),.cmp .eql sk 0 true,.ld1 Z11 k 5 (iV xk),.cmp .eql xk 2 false,.st Z11 k 5 Z9 c4,.stat (drawN Try.f53 1),.ld1 Z12 k 0 (iV xn),.ld1 Z12 s 0 (iV sn),.ldn Z12 f 0 2 Z5,.len Z12 e]):=by intros;kernel_rfl
theorem fi_go2(s s2 k oo ol e1 f e:Nat)(xn sn sk xk live:Int)(st xt:ByteArray)(last:V)(ok:Bool)(c1 c2 c3 c4:LV)(g:Hp) :
  let Z1:=pT s 0
  let Z2:=pT k 0
  let Z3:V:=.tuple #[Z1,bT]
  let Z4:=sL oo ol 1
  let Z5:LV:=[iV sk,.string st]
  let Z6:LV:=[iV xk,.string xt]
  let Z7:SH:=.set g s (cS c1)
  let Z8:SH:=.set Z7 k (cS c2)
  let Z9:SH:=.set Z8 k (cS c3)
  let Z10:LV:=[iV 0,.string eS]
  let Z11:SH:=.push Z9 (cS Z10)
  let Z12:SH:=.set Z11 f (cS Z5)
  let Z13:SH:=.set Z12 f (cS Z6)
  let Z14:SH:=.set Z13 k (cS c4)
  PF Try.f53 [Z1] g [.val Z2,.ret Z3 g,.val bT,.bit false,.val (iV live),.bit false,.cells c1,.val Z4,.val Z4,.num (Int.ofNat e1),.cut 0 e1,.cells c2,.cells c3,.cells Z5,.idx f,.cells Z5,.val (iV sk),.bit true,.val (iV xk),.bit true,.cells Z6,.cells Z6,.cells c4,.val (iV xn),.val (iV sn),.cells Z6,.idx e] =
  some (sL e 1 5,.push Z14 (cS [iV 3,iV xn,iV sn,iV xk,.string xt]),[],[.ld1 g s 1 Z2,.call 47 [Z2] g Z3 g,.ld1 g k 3 bT,.peq g .neq 91 s 0 s 0 false,.ld1 g s 5 (iV live),.cmp .gtr live 0 false,.st g s 3 [bT] c1,.stat (drawN Try.f53 0),.ld1 Z7 k 2 Z4,.ld1 Z7 k 2 Z4,.arith .sub .i64 (Int.ofNat ol) 1 (Int.ofNat e1),.cut none (some (iN e1)) ol 0 e1,.st Z7 k 2 [sL oo e1 1] c2,.st Z8 k 3 [bF] c3,.ldn Z9 s 6 2 Z5,.len Z9 f,.st Z11 f 0 Z5 Z5,.ld1 Z12 f 0 (iV sk),.cmp .eql sk 0 true,.ld1 Z12 k 5 (iV xk),.cmp .eql xk 2 true,.ldn Z12 k 5 2 Z6,.st Z12 f 0 Z6 Z6,.st Z13 k 5 Z10 c4,.stat (drawN Try.f53 1),.ld1 Z14 k 0 (iV xn),.ld1 Z14 s 0 (iV sn),.ldn Z14 f 0 2 Z6,.len Z14 e]):=by intros;kernel_rfl
theorem fl_err(r s b e1:Nat)(n e fk:Int)(ft:ByteArray)(g g2 g3:Hp) :
  let Z1:=pT r 0
  let Z2:V:=.tuple #[.pointer none,iV e]
  PF Try.f32 [Z1,iV n,.agg #[iV fk,.string ft]] g [.idx b,.ret Z2 g2,.bit true] =
  some (.tuple #[nS,iV e],.is g2,[],[.len g b,.call 41 [Z1,iV n] (.push g (cS [iV fk,.string ft])) Z2 g2,.cmp .neq e 0 true]):=by intros;kernel_rfl
theorem fl_over(r s b e1:Nat)(n e fk:Int)(ft:ByteArray)(g g2 g3:Hp) :
  let Z1:=pT r 0
  let Z2:V:=.tuple #[pT s 0,iV 0]
  PF Try.f32 [Z1,iV n,.agg #[iV fk,.string ft]] g [.idx b,.ret Z2 g2,.bit false,.val bT] =
  some (.tuple #[nS,iV 6],.is g2,[],[.len g b,.call 41 [Z1,iV n] (.push g (cS [iV fk,.string ft])) Z2 g2,.cmp .neq 0 0 false,.ld1 g2 s 3 bT]):=by intros;kernel_rfl
theorem fl_kind(r s b e1:Nat)(n e fk:Int)(ft:ByteArray)(g g2 g3:Hp) :
  let Z1:=pT r 0
  let Z2:V:=.tuple #[pT s 0,iV 0]
  PF Try.f32 [Z1,iV n,.agg #[iV fk,.string ft]] g [.idx b,.ret Z2 g2,.bit false,.val bF,.val (iV fk),.bit true] =
  some (.tuple #[nS,iV 2],.is g2,[],[.len g b,.call 41 [Z1,iV n] (.push g (cS [iV fk,.string ft])) Z2 g2,.cmp .neq 0 0 false,.ld1 g2 s 3 bF,.ld1 g2 b 0 (iV fk),.cmp .neq fk 1 true]):=by intros;kernel_rfl
theorem fl_bad(r s b e1:Nat)(n e fk:Int)(ft:ByteArray)(g g2 g3:Hp) :
  let Z1:=pT r 0
  let Z2:V:=.agg #[iV fk,.string ft]
  let Z3:V:=.tuple #[pT s 0,iV 0]
  let Z4:LV:=[iV fk,.string ft]
  PF Try.f32 [Z1,iV n,Z2] g [.idx b,.ret Z3 g2,.bit false,.val bF,.val (iV fk),.bit false,.cells Z4,.ret bF g3] =
  some (.tuple #[nS,iV 2],.is g3,[],[.len g b,.call 41 [Z1,iV n] (.push g (cS Z4)) Z3 g2,.cmp .neq 0 0 false,.ld1 g2 s 3 bF,.ld1 g2 b 0 (iV fk),.cmp .neq fk 1 false,.ldn g2 b 0 2 Z4,.call 51 [Z2] g2 bF g3]):=by intros;kernel_rfl
theorem fl_no(r s b e1:Nat)(n e fk:Int)(ft:ByteArray)(g g2 g3:Hp)(g4:Hp) :
  let Z1:=pT r 0
  let Z2:V:=.agg #[iV fk,.string ft]
  let Z3:=pT s 0
  let Z4:V:=.tuple #[Z3,iV 0]
  let Z5:LV:=[iV fk,.string ft]
  PF Try.f32 [Z1,iV n,Z2] g [.idx b,.ret Z4 g2,.bit false,.val bF,.val (iV fk),.bit false,.cells Z5,.ret bT g3,.cells Z5,.ret bF g4] =
  some (.tuple #[nS,iV 0],.is g4,[],[.len g b,.call 41 [Z1,iV n] (.push g (cS Z5)) Z4 g2,.cmp .neq 0 0 false,.ld1 g2 s 3 bF,.ld1 g2 b 0 (iV fk),.cmp .neq fk 1 false,.ldn g2 b 0 2 Z5,.call 51 [Z2] g2 bT g3,.ldn g3 b 0 2 Z5,.call 52 [Z3,Z2] g3 bF g4]):=by intros;kernel_rfl
theorem fl_yes(r s b e1:Nat)(n e fk:Int)(ft:ByteArray)(g g2 g3:Hp)(g4:Hp) :
  let Z1:=pT r 0
  let Z2:V:=.agg #[iV fk,.string ft]
  let Z3:=pT s 0
  let Z4:V:=.tuple #[Z3,iV 0]
  let Z5:LV:=[iV fk,.string ft]
  PF Try.f32 [Z1,iV n,Z2] g [.idx b,.ret Z4 g2,.bit false,.val bF,.val (iV fk),.bit false,.cells Z5,.ret bT g3,.cells Z5,.ret bT g4,.idx e1] =
  some (.tuple #[sL e1 1 5,iV 0],.push g4 (cS [iV 1,iV n,iV 0,iV 0,.string eS]),[],[.len g b,.call 41 [Z1,iV n] (.push g (cS Z5)) Z4 g2,.cmp .neq 0 0 false,.ld1 g2 s 3 bF,.ld1 g2 b 0 (iV fk),.cmp .neq fk 1 false,.ldn g2 b 0 2 Z5,.call 51 [Z2] g2 bT g3,.ldn g3 b 0 2 Z5,.call 52 [Z3,Z2] g3 bT g4,.len g4 e1]):=by intros;kernel_rfl
theorem le_err(r k s b e1 y:Nat)(n e fk live sn:Int)(ft:ByteArray)(bl:Bool)(fv:V)(c1 c2 news:LV)(kk z:Nat)(g g2 g3 g4 g5:Hp) :
  let Z1:=pT r 0
  let Z2:V:=.tuple #[.pointer none,iV e]
  PF Try.f31 [Z1,iV n,.agg #[iV fk,.string ft]] g [.idx b,.ret Z2 g2,.bit true] =
  some (.tuple #[nS,iV e],.is g2,[],[.len g b,.call 42 [Z1,iV n] (.push g (cS [iV fk,.string ft])) Z2 g2,.cmp .neq e 0 true]):=by intros;kernel_rfl
theorem le_bad(r k s b e1 y:Nat)(n e fk live sn:Int)(ft:ByteArray)(bl:Bool)(fv:V)(c1 c2 news:LV)(kk z:Nat)(g g2 g3 g4 g5:Hp) :
  let Z1:=pT r 0
  let Z2:V:=.agg #[iV fk,.string ft]
  let Z3:V:=.tuple #[pT k 0,iV 0]
  let Z4:LV:=[iV fk,.string ft]
  PF Try.f31 [Z1,iV n,Z2] g [.idx b,.ret Z3 g2,.bit false,.cells Z4,.ret bF g3] =
  some (.tuple #[nS,iV 2],.is g3,[],[.len g b,.call 42 [Z1,iV n] (.push g (cS Z4)) Z3 g2,.cmp .neq 0 0 false,.ldn g2 b 0 2 Z4,.call 51 [Z2] g2 bF g3]):=by intros;kernel_rfl
theorem le_lv(r k s b e1 y:Nat)(n e fk live sn:Int)(ft:ByteArray)(bl:Bool)(fv:V)(c1 c2 news:LV)(kk z:Nat)(g g2 g3 g4 g5:Hp)(last:V)(ok:Bool) :
  let Z1:=pT r 0
  let Z2:V:=.agg #[iV fk,.string ft]
  let Z3:=pT k 0
  let Z4:V:=.tuple #[Z3,iV 0]
  let Z5:LV:=[iV fk,.string ft]
  let Z6:V:=.tuple #[last,.bool ok]
  PF Try.f31 [Z1,iV n,Z2] g [.idx b,.ret Z4 g2,.bit false,.cells Z5,.ret bT g3,.ret Z6 g3,.val bT] =
  some (.tuple #[nS,iV 22],.is g3,[],[.len g b,.call 42 [Z1,iV n] (.push g (cS Z5)) Z4 g2,.cmp .neq 0 0 false,.ldn g2 b 0 2 Z5,.call 51 [Z2] g2 bT g3,.call 47 [Z3] g3 Z6 g3,.ld1 g3 k 3 bT]):=by intros;kernel_rfl
theorem le_none(r k s b e1 y:Nat)(n e fk live sn:Int)(ft:ByteArray)(bl:Bool)(fv:V)(c1 c2 news:LV)(kk z:Nat)(g g2 g3 g4 g5:Hp)(last:V) :
  let Z1:=pT r 0
  let Z2:V:=.agg #[iV fk,.string ft]
  let Z3:=pT k 0
  let Z4:V:=.tuple #[Z3,iV 0]
  let Z5:LV:=[iV fk,.string ft]
  let Z6:V:=.tuple #[last,bF]
  PF Try.f31 [Z1,iV n,Z2] g [.idx b,.ret Z4 g2,.bit false,.cells Z5,.ret bT g3,.ret Z6 g3,.val bF] =
  some (.tuple #[nS,iV 22],.is g3,[],[.len g b,.call 42 [Z1,iV n] (.push g (cS Z5)) Z4 g2,.cmp .neq 0 0 false,.ldn g2 b 0 2 Z5,.call 51 [Z2] g2 bT g3,.call 47 [Z3] g3 Z6 g3,.ld1 g3 k 3 bF]):=by intros;kernel_rfl
theorem le_shield(r k s b e1 y:Nat)(n e fk live sn:Int)(ft:ByteArray)(bl:Bool)(fv:V)(c1 c2 news:LV)(kk z:Nat)(g g2 g3 g4 g5:Hp) :
  let Z1:=pT r 0
  let Z2:V:=.agg #[iV fk,.string ft]
  let Z3:=pT k 0
  let Z4:V:=.tuple #[Z3,iV 0]
  let Z5:LV:=[iV fk,.string ft]
  let Z6:V:=.tuple #[.pointer none,bT]
  PF Try.f31 [Z1,iV n,Z2] g [.idx b,.ret Z4 g2,.bit false,.cells Z5,.ret bT g3,.ret Z6 g3,.val bF] =
  some (.tuple #[nS,iV 22],.is g3,[],[.len g b,.call 42 [Z1,iV n] (.push g (cS Z5)) Z4 g2,.cmp .neq 0 0 false,.ldn g2 b 0 2 Z5,.call 51 [Z2] g2 bT g3,.call 47 [Z3] g3 Z6 g3,.ld1 g3 k 3 bF]):=by intros;kernel_rfl
theorem le_zn(r k s b e1 y:Nat)(n e fk live sn:Int)(ft:ByteArray)(bl:Bool)(fv:V)(c1 c2 news:LV)(kk z:Nat)(g g2 g3 g4 g5:Hp) :
  let Z1:=pT r 0
  let Z2:V:=.agg #[iV fk,.string ft]
  let Z3:=pT k 0
  let Z4:V:=.tuple #[Z3,iV 0]
  let Z5:LV:=[iV fk,.string ft]
  let Z6:=pT s 0
  let Z7:V:=.tuple #[Z6,bT]
  let Z8:=pT b 0
  let Z9:SH:=.set g4 k (cS c1)
  PF Try.f31 [Z1,iV n,Z2] g [.idx b,.ret Z4 g2,.bit false,.cells Z5,.ret bT g3,.ret Z7 g3,.val bF,.cells Z5,.ret (.bool bl) g4,.val (iV fk),.bit false,.cells Z5,.cells c1,.cells c2,.ret (nS) g5,.app0] =
  some (.tuple #[nS,iV 0],.is g5,[],[.len g b,.call 42 [Z1,iV n] (.push g (cS Z5)) Z4 g2,.cmp .neq 0 0 false,.ldn g2 b 0 2 Z5,.call 51 [Z2] g2 bT g3,.call 47 [Z3] g3 Z7 g3,.ld1 g3 k 3 bF,.ldn g3 b 0 2 Z5,.call 52 [Z6,Z2] g3 (.bool bl) g4,.ld1 g4 b 0 (iV fk),.cmp .neq fk 0 false,.stat (drawN Try.f31 0),.again g4 30 Z8 Z2,.again g4 30 Z8 Z2,.again Z9 30 Z8 Z2,.ldn g4 b 0 2 Z5,.st g4 k 3 [bT] c1,.st Z9 k 5 Z5 c2,.call 53 [Z6] (.set Z9 k (cS c2)) (nS) g5]):=by intros;kernel_rfl
theorem le_zs(r k s b e1 y:Nat)(n e fk live sn:Int)(ft:ByteArray)(bl:Bool)(fv:V)(c1 c2 news:LV)(kk z:Nat)(g g2 g3 g4 g5:Hp)(w wl:Nat)(cs n3:LV) :
  let Z1:=pT r 0
  let Z2:V:=.agg #[iV fk,.string ft]
  let Z3:=pT k 0
  let Z4:V:=.tuple #[Z3,iV 0]
  let Z5:LV:=[iV fk,.string ft]
  let Z6:=pT s 0
  let Z7:V:=.tuple #[Z6,bT]
  let Z8:=sL w wl 5
  let Z9:=pT b 0
  let Z10:SH:=.set g4 k (cS c1)
  PF Try.f31 [Z1,iV n,Z2] g [.idx b,.ret Z4 g2,.bit false,.cells Z5,.ret bT g3,.ret Z7 g3,.val bF,.cells Z5,.ret (.bool bl) g4,.val (iV fk),.bit false,.cells Z5,.cells c1,.cells c2,.ret Z8 g5,.app [] n3 kk z] =
  some (.tuple #[sL z wl 5,iV 0],.push g5 (cS n3),[],[.len g b,.call 42 [Z1,iV n] (.push g (cS Z5)) Z4 g2,.cmp .neq 0 0 false,.ldn g2 b 0 2 Z5,.call 51 [Z2] g2 bT g3,.call 47 [Z3] g3 Z7 g3,.ld1 g3 k 3 bF,.ldn g3 b 0 2 Z5,.call 52 [Z6,Z2] g3 (.bool bl) g4,.ld1 g4 b 0 (iV fk),.cmp .neq fk 0 false,.stat (drawN Try.f31 0),.again g4 30 Z9 Z2,.again g4 30 Z9 Z2,.again Z10 30 Z9 Z2,.ldn g4 b 0 2 Z5,.st g4 k 3 [bT] c1,.st Z10 k 5 Z5 c2,.call 53 [Z6] (.set Z10 k (cS c2)) Z8 g5,.appNil g5 w 0 wl kk 5 48 n3 z]):=by intros;kernel_rfl
theorem le_nn(r k s b e1 y:Nat)(n e fk live sn:Int)(ft:ByteArray)(bl:Bool)(fv:V)(c1 c2 news:LV)(kk z:Nat)(g g2 g3 g4 g5:Hp) :
  let Z1:=pT r 0
  let Z2:V:=.agg #[iV fk,.string ft]
  let Z3:=pT k 0
  let Z4:V:=.tuple #[Z3,iV 0]
  let Z5:LV:=[iV fk,.string ft]
  let Z6:=pT s 0
  let Z7:V:=.tuple #[Z6,bT]
  let Z8:=pT b 0
  let Z9:SH:=.set g4 k (cS c1)
  PF Try.f31 [Z1,iV n,Z2] g [.idx b,.ret Z4 g2,.bit false,.cells Z5,.ret bT g3,.ret Z7 g3,.val bF,.cells Z5,.ret (.bool bl) g4,.val (iV fk),.bit true,.val (iV live),.bit false,.cells Z5,.cells c1,.cells c2,.ret (nS) g5,.app0] =
  some (.tuple #[nS,iV 0],.is g5,[],[.len g b,.call 42 [Z1,iV n] (.push g (cS Z5)) Z4 g2,.cmp .neq 0 0 false,.ldn g2 b 0 2 Z5,.call 51 [Z2] g2 bT g3,.call 47 [Z3] g3 Z7 g3,.ld1 g3 k 3 bF,.ldn g3 b 0 2 Z5,.call 52 [Z6,Z2] g3 (.bool bl) g4,.ld1 g4 b 0 (iV fk),.cmp .neq fk 0 true,.ld1 g4 s 5 (iV live),.cmp .gtr live 0 false,.stat (drawN Try.f31 0),.again g4 30 Z8 Z2,.again g4 30 Z8 Z2,.again Z9 30 Z8 Z2,.ldn g4 b 0 2 Z5,.st g4 k 3 [bT] c1,.st Z9 k 5 Z5 c2,.call 53 [Z6] (.set Z9 k (cS c2)) (nS) g5]):=by intros;kernel_rfl
theorem le_ns(r k s b e1 y:Nat)(n e fk live sn:Int)(ft:ByteArray)(bl:Bool)(fv:V)(c1 c2 news:LV)(kk z:Nat)(g g2 g3 g4 g5:Hp)(w wl:Nat)(cs n3:LV) :
  let Z1:=pT r 0
  let Z2:V:=.agg #[iV fk,.string ft]
  let Z3:=pT k 0
  let Z4:V:=.tuple #[Z3,iV 0]
  let Z5:LV:=[iV fk,.string ft]
  let Z6:=pT s 0
  let Z7:V:=.tuple #[Z6,bT]
  let Z8:=sL w wl 5
  let Z9:=pT b 0
  let Z10:SH:=.set g4 k (cS c1)
  PF Try.f31 [Z1,iV n,Z2] g [.idx b,.ret Z4 g2,.bit false,.cells Z5,.ret bT g3,.ret Z7 g3,.val bF,.cells Z5,.ret (.bool bl) g4,.val (iV fk),.bit true,.val (iV live),.bit false,.cells Z5,.cells c1,.cells c2,.ret Z8 g5,.app [] n3 kk z] =
  some (.tuple #[sL z wl 5,iV 0],.push g5 (cS n3),[],[.len g b,.call 42 [Z1,iV n] (.push g (cS Z5)) Z4 g2,.cmp .neq 0 0 false,.ldn g2 b 0 2 Z5,.call 51 [Z2] g2 bT g3,.call 47 [Z3] g3 Z7 g3,.ld1 g3 k 3 bF,.ldn g3 b 0 2 Z5,.call 52 [Z6,Z2] g3 (.bool bl) g4,.ld1 g4 b 0 (iV fk),.cmp .neq fk 0 true,.ld1 g4 s 5 (iV live),.cmp .gtr live 0 false,.stat (drawN Try.f31 0),.again g4 30 Z9 Z2,.again g4 30 Z9 Z2,.again Z10 30 Z9 Z2,.ldn g4 b 0 2 Z5,.st g4 k 3 [bT] c1,.st Z10 k 5 Z5 c2,.call 53 [Z6] (.set Z10 k (cS c2)) Z8 g5,.appNil g5 w 0 wl kk 5 48 n3 z]):=by intros;kernel_rfl
theorem le_en(r k s b e1 y:Nat)(n e fk live sn:Int)(ft:ByteArray)(bl:Bool)(fv:V)(c1 c2 news:LV)(kk z:Nat)(g g2 g3 g4 g5:Hp) :
  let Z1:=pT r 0
  let Z2:V:=.agg #[iV fk,.string ft]
  let Z3:=pT k 0
  let Z4:V:=.tuple #[Z3,iV 0]
  let Z5:LV:=[iV fk,.string ft]
  let Z6:=pT s 0
  let Z7:V:=.tuple #[Z6,bT]
  let Z8:SH:=.push g4 (cS [iV 1,iV sn,iV 0,iV 0,.string eS])
  let Z9:SH:=.push Z8 (cS news)
  let Z10:=pT b 0
  let Z11:SH:=.set Z9 k (cS c1)
  PF Try.f31 [Z1,iV n,Z2] g [.idx b,.ret Z4 g2,.bit false,.cells Z5,.ret bT g3,.ret Z7 g3,.val bF,.cells Z5,.ret (.bool bl) g4,.val (iV fk),.bit true,.val (iV live),.bit true,.val (iV sn),.idx e1,.app [] news 0 y,.cells Z5,.cells c1,.cells c2,.ret (nS) g5,.app0] =
  some (.tuple #[sL y 1 5,iV 0],.is g5,[],[.len g b,.call 42 [Z1,iV n] (.push g (cS Z5)) Z4 g2,.cmp .neq 0 0 false,.ldn g2 b 0 2 Z5,.call 51 [Z2] g2 bT g3,.call 47 [Z3] g3 Z7 g3,.ld1 g3 k 3 bF,.ldn g3 b 0 2 Z5,.call 52 [Z6,Z2] g3 (.bool bl) g4,.ld1 g4 b 0 (iV fk),.cmp .neq fk 0 true,.ld1 g4 s 5 (iV live),.cmp .gtr live 0 true,.ld1 g4 s 0 (iV sn),.len g4 e1,.appNil Z8 e1 0 1 0 5 48 news y,.stat (drawN Try.f31 0),.again Z9 30 Z10 Z2,.again Z9 30 Z10 Z2,.again Z11 30 Z10 Z2,.ldn Z9 b 0 2 Z5,.st Z9 k 3 [bT] c1,.st Z11 k 5 Z5 c2,.call 53 [Z6] (.set Z11 k (cS c2)) (nS) g5]):=by intros;kernel_rfl
theorem le_es(r k s b e1 y:Nat)(n e fk live sn:Int)(ft:ByteArray)(bl:Bool)(fv:V)(c1 c2 news:LV)(kk z:Nat)(g g2 g3 g4 g5:Hp)(w wl:Nat)(cs n3:LV) :
  let Z1:=pT r 0
  let Z2:V:=.agg #[iV fk,.string ft]
  let Z3:=pT k 0
  let Z4:V:=.tuple #[Z3,iV 0]
  let Z5:LV:=[iV fk,.string ft]
  let Z6:=pT s 0
  let Z7:V:=.tuple #[Z6,bT]
  let Z8:=sL w wl 5
  let Z9:SH:=.push g4 (cS [iV 1,iV sn,iV 0,iV 0,.string eS])
  let Z10:SH:=.push Z9 (cS news)
  let Z11:=pT b 0
  let Z12:SH:=.set Z10 k (cS c1)
  PF Try.f31 [Z1,iV n,Z2] g [.idx b,.ret Z4 g2,.bit false,.cells Z5,.ret bT g3,.ret Z7 g3,.val bF,.cells Z5,.ret (.bool bl) g4,.val (iV fk),.bit true,.val (iV live),.bit true,.val (iV sn),.idx e1,.app [] news 0 y,.cells Z5,.cells c1,.cells c2,.ret Z8 g5,.app cs n3 kk z] =
  some (.tuple #[sL z (1+wl) 5,iV 0],.push (.set g5 y .dead) (cS cs),[],[.len g b,.call 42 [Z1,iV n] (.push g (cS Z5)) Z4 g2,.cmp .neq 0 0 false,.ldn g2 b 0 2 Z5,.call 51 [Z2] g2 bT g3,.call 47 [Z3] g3 Z7 g3,.ld1 g3 k 3 bF,.ldn g3 b 0 2 Z5,.call 52 [Z6,Z2] g3 (.bool bl) g4,.ld1 g4 b 0 (iV fk),.cmp .neq fk 0 true,.ld1 g4 s 5 (iV live),.cmp .gtr live 0 true,.ld1 g4 s 0 (iV sn),.len g4 e1,.appNil Z9 e1 0 1 0 5 48 news y,.stat (drawN Try.f31 0),.again Z10 30 Z11 Z2,.again Z10 30 Z11 Z2,.again Z12 30 Z11 Z2,.ldn Z10 b 0 2 Z5,.st Z10 k 3 [bT] c1,.st Z12 k 5 Z5 c2,.call 53 [Z6] (.set Z12 k (cS c2)) Z8 g5,.app g5 y 0 1 w 0 wl kk 5 48 cs n3 z]):=by intros;kernel_rfl
theorem en_err(r k s b e1 y:Nat)(n e fk live sn:Int)(ft:ByteArray)(bl:Bool)(fv:V)(c1 c2 news:LV)(kk z:Nat)(g g2 g3 g4 g5:Hp) :
  let Z1:=pT r 0
  let Z2:V:=.tuple #[.pointer none,iV e]
  PF Try.f30 [Z1,iV n,.agg #[iV fk,.string ft]] g [.idx b,.ret Z2 g2,.bit true] =
  some (.tuple #[nS,iV e],.is g2,[],[.len g b,.call 42 [Z1,iV n] (.push g (cS [iV fk,.string ft])) Z2 g2,.cmp .neq e 0 true]):=by intros;kernel_rfl
theorem en_bad(r k s b e1 y:Nat)(n e fk live sn:Int)(ft:ByteArray)(bl:Bool)(fv:V)(c1 c2 news:LV)(kk z:Nat)(g g2 g3 g4 g5:Hp) :
  let Z1:=pT r 0
  let Z2:V:=.agg #[iV fk,.string ft]
  let Z3:V:=.tuple #[pT k 0,iV 0]
  let Z4:LV:=[iV fk,.string ft]
  PF Try.f30 [Z1,iV n,Z2] g [.idx b,.ret Z3 g2,.bit false,.cells Z4,.ret bF g3] =
  some (.tuple #[nS,iV 2],.is g3,[],[.len g b,.call 42 [Z1,iV n] (.push g (cS Z4)) Z3 g2,.cmp .neq 0 0 false,.ldn g2 b 0 2 Z4,.call 51 [Z2] g2 bF g3]):=by intros;kernel_rfl
theorem en_open(r k s b e1 y:Nat)(n e fk live sn:Int)(ft:ByteArray)(bl:Bool)(fv:V)(c1 c2 news:LV)(kk z:Nat)(g g2 g3 g4 g5:Hp)(oo ol:Nat) :
  let Z1:=pT r 0
  let Z2:V:=.agg #[iV fk,.string ft]
  let Z3:V:=.tuple #[pT k 0,iV 0]
  let Z4:LV:=[iV fk,.string ft]
  let Z5:=sL oo ol 1
  PF Try.f30 [Z1,iV n,Z2] g [.idx b,.ret Z3 g2,.bit false,.cells Z4,.ret bT g3,.val Z5,.bit true] =
  some (.tuple #[nS,iV 22],.is g3,[],[.len g b,.call 42 [Z1,iV n] (.push g (cS Z4)) Z3 g2,.cmp .neq 0 0 false,.ldn g2 b 0 2 Z4,.call 51 [Z2] g2 bT g3,.ld1 g3 k 2 Z5,.cmp .gtr (Int.ofNat ol) 0 true]):=by intros;kernel_rfl
theorem en_rootn(r k s b e1 y:Nat)(n e fk live sn:Int)(ft:ByteArray)(bl:Bool)(fv:V)(c1 c2 news:LV)(kk z:Nat)(g g2 g3 g4 g5:Hp)(oo ol:Nat) :
  let Z1:=pT r 0
  let Z2:V:=.agg #[iV fk,.string ft]
  let Z3:V:=.tuple #[pT k 0,iV 0]
  let Z4:LV:=[iV fk,.string ft]
  let Z5:SH:=.set g3 k (cS c1)
  let Z6:SH:=.set Z5 k (cS c2)
  let Z7:=pT b 0
  PF Try.f30 [Z1,iV n,Z2] g [.idx b,.ret Z3 g2,.bit false,.cells Z4,.ret bT g3,.val (nS),.bit false,.cells Z4,.cells c1,.cells c2,.val (.pointer none)] =
  some (.tuple #[nS,iV 0],Z6,[],[.len g b,.call 42 [Z1,iV n] (.push g (cS Z4)) Z3 g2,.cmp .neq 0 0 false,.ldn g2 b 0 2 Z4,.call 51 [Z2] g2 bT g3,.ld1 g3 k 2 (nS),.cmp .gtr 0 0 false,.stat (drawN Try.f30 0),.again g3 30 Z7 Z2,.again g3 30 Z7 Z2,.again Z5 30 Z7 Z2,.ldn g3 b 0 2 Z4,.st g3 k 4 [bT] c1,.st Z5 k 5 Z4 c2,.ld1 Z6 k 1 (.pointer none)]):=by intros;kernel_rfl
theorem en_nun(r k s b e1 y:Nat)(n e fk live sn:Int)(ft:ByteArray)(bl:Bool)(fv:V)(c1 c2 news:LV)(kk z:Nat)(g g2 g3 g4 g5:Hp)(oo ol:Nat)(l1:Int)(c3:LV) :
  let Z1:=pT r 0
  let Z2:V:=.agg #[iV fk,.string ft]
  let Z3:V:=.tuple #[pT k 0,iV 0]
  let Z4:LV:=[iV fk,.string ft]
  let Z5:=pT s 0
  let Z6:=pT b 0
  let Z7:SH:=.set g3 k (cS c1)
  let Z8:SH:=.set Z7 k (cS c2)
  let Z9:SH:=.set Z8 s (cS c3)
  PF Try.f30 [Z1,iV n,Z2] g [.idx b,.ret Z3 g2,.bit false,.cells Z4,.ret bT g3,.val (nS),.bit false,.cells Z4,.cells c1,.cells c2,.val Z5,.val (iV live),.num l1,.cells c3,.val bT,.ret (nS) g5,.app0] =
  some (.tuple #[nS,iV 0],.is g5,[],[.len g b,.call 42 [Z1,iV n] (.push g (cS Z4)) Z3 g2,.cmp .neq 0 0 false,.ldn g2 b 0 2 Z4,.call 51 [Z2] g2 bT g3,.ld1 g3 k 2 (nS),.cmp .gtr 0 0 false,.stat (drawN Try.f30 0),.again g3 30 Z6 Z2,.again g3 30 Z6 Z2,.again Z7 30 Z6 Z2,.ldn g3 b 0 2 Z4,.st g3 k 4 [bT] c1,.st Z7 k 5 Z4 c2,.ld1 Z8 k 1 Z5,.ld1 Z8 s 5 (iV live),.arith .sub .i64 live 1 l1,.st Z8 s 5 [iV l1] c3,.ld1 Z9 s 2 bT,.call 53 [Z5] Z9 (nS) g5]):=by intros;kernel_rfl
theorem en_nus(r k s b e1 y:Nat)(n e fk live sn:Int)(ft:ByteArray)(bl:Bool)(fv:V)(c1 c2 news:LV)(kk z:Nat)(g g2 g3 g4 g5:Hp)(oo ol:Nat)(l1:Int)(c3:LV)(w wl:Nat)(cs n3:LV) :
  let Z1:=pT r 0
  let Z2:V:=.agg #[iV fk,.string ft]
  let Z3:V:=.tuple #[pT k 0,iV 0]
  let Z4:LV:=[iV fk,.string ft]
  let Z5:=pT s 0
  let Z6:=sL w wl 5
  let Z7:=pT b 0
  let Z8:SH:=.set g3 k (cS c1)
  let Z9:SH:=.set Z8 k (cS c2)
  let Z10:SH:=.set Z9 s (cS c3)
  PF Try.f30 [Z1,iV n,Z2] g [.idx b,.ret Z3 g2,.bit false,.cells Z4,.ret bT g3,.val (nS),.bit false,.cells Z4,.cells c1,.cells c2,.val Z5,.val (iV live),.num l1,.cells c3,.val bT,.ret Z6 g5,.app [] n3 kk z] =
  some (.tuple #[sL z wl 5,iV 0],.push g5 (cS n3),[],[.len g b,.call 42 [Z1,iV n] (.push g (cS Z4)) Z3 g2,.cmp .neq 0 0 false,.ldn g2 b 0 2 Z4,.call 51 [Z2] g2 bT g3,.ld1 g3 k 2 (nS),.cmp .gtr 0 0 false,.stat (drawN Try.f30 0),.again g3 30 Z7 Z2,.again g3 30 Z7 Z2,.again Z8 30 Z7 Z2,.ldn g3 b 0 2 Z4,.st g3 k 4 [bT] c1,.st Z8 k 5 Z4 c2,.ld1 Z9 k 1 Z5,.ld1 Z9 s 5 (iV live),.arith .sub .i64 live 1 l1,.st Z9 s 5 [iV l1] c3,.ld1 Z10 s 2 bT,.call 53 [Z5] Z10 Z6 g5,.appNil g5 w 0 wl kk 5 48 n3 z]):=by intros;kernel_rfl
theorem en_nkn(r k s b e1 y:Nat)(n e fk live sn:Int)(ft:ByteArray)(bl:Bool)(fv:V)(c1 c2 news:LV)(kk z:Nat)(g g2 g3 g4 g5:Hp)(oo ol:Nat)(l1:Int)(c3:LV) :
  let Z1:=pT r 0
  let Z2:V:=.agg #[iV fk,.string ft]
  let Z3:V:=.tuple #[pT k 0,iV 0]
  let Z4:LV:=[iV fk,.string ft]
  let Z5:=pT s 0
  let Z6:=pT b 0
  let Z7:SH:=.set g3 k (cS c1)
  let Z8:SH:=.set Z7 k (cS c2)
  let Z9:SH:=.set Z8 s (cS c3)
  PF Try.f30 [Z1,iV n,Z2] g [.idx b,.ret Z3 g2,.bit false,.cells Z4,.ret bT g3,.val (nS),.bit false,.cells Z4,.cells c1,.cells c2,.val Z5,.val (iV live),.num l1,.cells c3,.val bF,.cells Z4,.ret bF g4,.ret (nS) g5,.app0] =
  some (.tuple #[nS,iV 0],.is g5,[],[.len g b,.call 42 [Z1,iV n] (.push g (cS Z4)) Z3 g2,.cmp .neq 0 0 false,.ldn g2 b 0 2 Z4,.call 51 [Z2] g2 bT g3,.ld1 g3 k 2 (nS),.cmp .gtr 0 0 false,.stat (drawN Try.f30 0),.again g3 30 Z6 Z2,.again g3 30 Z6 Z2,.again Z7 30 Z6 Z2,.ldn g3 b 0 2 Z4,.st g3 k 4 [bT] c1,.st Z7 k 5 Z4 c2,.ld1 Z8 k 1 Z5,.ld1 Z8 s 5 (iV live),.arith .sub .i64 live 1 l1,.st Z8 s 5 [iV l1] c3,.ld1 Z9 s 2 bF,.ldn Z9 b 0 2 Z4,.call 52 [Z5,Z2] Z9 bF g4,.call 53 [Z5] g4 (nS) g5]):=by intros;kernel_rfl
theorem en_nks(r k s b e1 y:Nat)(n e fk live sn:Int)(ft:ByteArray)(bl:Bool)(fv:V)(c1 c2 news:LV)(kk z:Nat)(g g2 g3 g4 g5:Hp)(oo ol:Nat)(l1:Int)(c3:LV)(w wl:Nat)(cs n3:LV) :
  let Z1:=pT r 0
  let Z2:V:=.agg #[iV fk,.string ft]
  let Z3:V:=.tuple #[pT k 0,iV 0]
  let Z4:LV:=[iV fk,.string ft]
  let Z5:=pT s 0
  let Z6:=sL w wl 5
  let Z7:=pT b 0
  let Z8:SH:=.set g3 k (cS c1)
  let Z9:SH:=.set Z8 k (cS c2)
  let Z10:SH:=.set Z9 s (cS c3)
  PF Try.f30 [Z1,iV n,Z2] g [.idx b,.ret Z3 g2,.bit false,.cells Z4,.ret bT g3,.val (nS),.bit false,.cells Z4,.cells c1,.cells c2,.val Z5,.val (iV live),.num l1,.cells c3,.val bF,.cells Z4,.ret bF g4,.ret Z6 g5,.app [] n3 kk z] =
  some (.tuple #[sL z wl 5,iV 0],.push g5 (cS n3),[],[.len g b,.call 42 [Z1,iV n] (.push g (cS Z4)) Z3 g2,.cmp .neq 0 0 false,.ldn g2 b 0 2 Z4,.call 51 [Z2] g2 bT g3,.ld1 g3 k 2 (nS),.cmp .gtr 0 0 false,.stat (drawN Try.f30 0),.again g3 30 Z7 Z2,.again g3 30 Z7 Z2,.again Z8 30 Z7 Z2,.ldn g3 b 0 2 Z4,.st g3 k 4 [bT] c1,.st Z8 k 5 Z4 c2,.ld1 Z9 k 1 Z5,.ld1 Z9 s 5 (iV live),.arith .sub .i64 live 1 l1,.st Z9 s 5 [iV l1] c3,.ld1 Z10 s 2 bF,.ldn Z10 b 0 2 Z4,.call 52 [Z5,Z2] Z10 bF g4,.call 53 [Z5] g4 Z6 g5,.appNil g5 w 0 wl kk 5 48 n3 z]):=by intros;kernel_rfl
theorem en_nbn(r k s b e1 y:Nat)(n e fk live sn:Int)(ft:ByteArray)(bl:Bool)(fv:V)(c1 c2 news:LV)(kk z:Nat)(g g2 g3 g4 g5:Hp)(oo ol:Nat)(l1:Int)(c3:LV) :
  let Z1:=pT r 0
  let Z2:V:=.agg #[iV fk,.string ft]
  let Z3:V:=.tuple #[pT k 0,iV 0]
  let Z4:LV:=[iV fk,.string ft]
  let Z5:=pT s 0
  let Z6:=pT b 0
  let Z7:SH:=.set g3 k (cS c1)
  let Z8:SH:=.set Z7 k (cS c2)
  let Z9:SH:=.set Z8 s (cS c3)
  let Z10:SH:=.push g4 (cS [iV 1,iV sn,iV 0,iV 0,.string eS])
  PF Try.f30 [Z1,iV n,Z2] g [.idx b,.ret Z3 g2,.bit false,.cells Z4,.ret bT g3,.val (nS),.bit false,.cells Z4,.cells c1,.cells c2,.val Z5,.val (iV live),.num l1,.cells c3,.val bF,.cells Z4,.ret bT g4,.val (iV sn),.idx e1,.app [] news 0 y,.ret (nS) g5,.app0] =
  some (.tuple #[sL y 1 5,iV 0],.is g5,[],[.len g b,.call 42 [Z1,iV n] (.push g (cS Z4)) Z3 g2,.cmp .neq 0 0 false,.ldn g2 b 0 2 Z4,.call 51 [Z2] g2 bT g3,.ld1 g3 k 2 (nS),.cmp .gtr 0 0 false,.stat (drawN Try.f30 0),.again g3 30 Z6 Z2,.again g3 30 Z6 Z2,.again Z7 30 Z6 Z2,.ldn g3 b 0 2 Z4,.st g3 k 4 [bT] c1,.st Z7 k 5 Z4 c2,.ld1 Z8 k 1 Z5,.ld1 Z8 s 5 (iV live),.arith .sub .i64 live 1 l1,.st Z8 s 5 [iV l1] c3,.ld1 Z9 s 2 bF,.ldn Z9 b 0 2 Z4,.call 52 [Z5,Z2] Z9 bT g4,.ld1 g4 s 0 (iV sn),.len g4 e1,.appNil Z10 e1 0 1 0 5 48 news y,.call 53 [Z5] (.push Z10 (cS news)) (nS) g5]):=by intros;kernel_rfl
theorem en_nbs(r k s b e1 y:Nat)(n e fk live sn:Int)(ft:ByteArray)(bl:Bool)(fv:V)(c1 c2 news:LV)(kk z:Nat)(g g2 g3 g4 g5:Hp)(oo ol:Nat)(l1:Int)(c3:LV)(w wl:Nat)(cs n3:LV) :
  let Z1:=pT r 0
  let Z2:V:=.agg #[iV fk,.string ft]
  let Z3:V:=.tuple #[pT k 0,iV 0]
  let Z4:LV:=[iV fk,.string ft]
  let Z5:=pT s 0
  let Z6:=sL w wl 5
  let Z7:=pT b 0
  let Z8:SH:=.set g3 k (cS c1)
  let Z9:SH:=.set Z8 k (cS c2)
  let Z10:SH:=.set Z9 s (cS c3)
  let Z11:SH:=.push g4 (cS [iV 1,iV sn,iV 0,iV 0,.string eS])
  PF Try.f30 [Z1,iV n,Z2] g [.idx b,.ret Z3 g2,.bit false,.cells Z4,.ret bT g3,.val (nS),.bit false,.cells Z4,.cells c1,.cells c2,.val Z5,.val (iV live),.num l1,.cells c3,.val bF,.cells Z4,.ret bT g4,.val (iV sn),.idx e1,.app [] news 0 y,.ret Z6 g5,.app cs n3 kk z] =
  some (.tuple #[sL z (1+wl) 5,iV 0],.push (.set g5 y .dead) (cS cs),[],[.len g b,.call 42 [Z1,iV n] (.push g (cS Z4)) Z3 g2,.cmp .neq 0 0 false,.ldn g2 b 0 2 Z4,.call 51 [Z2] g2 bT g3,.ld1 g3 k 2 (nS),.cmp .gtr 0 0 false,.stat (drawN Try.f30 0),.again g3 30 Z7 Z2,.again g3 30 Z7 Z2,.again Z8 30 Z7 Z2,.ldn g3 b 0 2 Z4,.st g3 k 4 [bT] c1,.st Z8 k 5 Z4 c2,.ld1 Z9 k 1 Z5,.ld1 Z9 s 5 (iV live),.arith .sub .i64 live 1 l1,.st Z9 s 5 [iV l1] c3,.ld1 Z10 s 2 bF,.ldn Z10 b 0 2 Z4,.call 52 [Z5,Z2] Z10 bT g4,.ld1 g4 s 0 (iV sn),.len g4 e1,.appNil Z11 e1 0 1 0 5 48 news y,.call 53 [Z5] (.push Z11 (cS news)) Z6 g5,.app g5 y 0 1 w 0 wl kk 5 48 cs n3 z]):=by intros;kernel_rfl
theorem en_roots(r k s b e1 y:Nat)(n e fk live sn:Int)(ft:ByteArray)(bl:Bool)(fv:V)(c1 c2 news:LV)(kk z:Nat)(g g2 g3 g4 g5:Hp)(oo ol:Nat) :
  let Z1:=pT r 0
  let Z2:V:=.agg #[iV fk,.string ft]
  let Z3:V:=.tuple #[pT k 0,iV 0]
  let Z4:LV:=[iV fk,.string ft]
  let Z5:=sL oo ol 1
  let Z6:SH:=.set g3 k (cS c1)
  let Z7:SH:=.set Z6 k (cS c2)
  let Z8:=pT b 0
  PF Try.f30 [Z1,iV n,Z2] g [.idx b,.ret Z3 g2,.bit false,.cells Z4,.ret bT g3,.val Z5,.bit false,.cells Z4,.cells c1,.cells c2,.val (.pointer none)] =
  some (.tuple #[nS,iV 0],Z7,[],[.len g b,.call 42 [Z1,iV n] (.push g (cS Z4)) Z3 g2,.cmp .neq 0 0 false,.ldn g2 b 0 2 Z4,.call 51 [Z2] g2 bT g3,.ld1 g3 k 2 Z5,.cmp .gtr (Int.ofNat ol) 0 false,.stat (drawN Try.f30 0),.again g3 30 Z8 Z2,.again g3 30 Z8 Z2,.again Z6 30 Z8 Z2,.ldn g3 b 0 2 Z4,.st g3 k 4 [bT] c1,.st Z6 k 5 Z4 c2,.ld1 Z7 k 1 (.pointer none)]):=by intros;kernel_rfl
theorem en_sun(r k s b e1 y:Nat)(n e fk live sn:Int)(ft:ByteArray)(bl:Bool)(fv:V)(c1 c2 news:LV)(kk z:Nat)(g g2 g3 g4 g5:Hp)(oo ol:Nat)(l1:Int)(c3:LV) :
  let Z1:=pT r 0
  let Z2:V:=.agg #[iV fk,.string ft]
  let Z3:V:=.tuple #[pT k 0,iV 0]
  let Z4:LV:=[iV fk,.string ft]
  let Z5:=sL oo ol 1
  let Z6:=pT s 0
  let Z7:=pT b 0
  let Z8:SH:=.set g3 k (cS c1)
  let Z9:SH:=.set Z8 k (cS c2)
  let Z10:SH:=.set Z9 s (cS c3)
  PF Try.f30 [Z1,iV n,Z2] g [.idx b,.ret Z3 g2,.bit false,.cells Z4,.ret bT g3,.val Z5,.bit false,.cells Z4,.cells c1,.cells c2,.val Z6,.val (iV live),.num l1,.cells c3,.val bT,.ret (nS) g5,.app0] =
  some (.tuple #[nS,iV 0],.is g5,[],[.len g b,.call 42 [Z1,iV n] (.push g (cS Z4)) Z3 g2,.cmp .neq 0 0 false,.ldn g2 b 0 2 Z4,.call 51 [Z2] g2 bT g3,.ld1 g3 k 2 Z5,.cmp .gtr (Int.ofNat ol) 0 false,.stat (drawN Try.f30 0),.again g3 30 Z7 Z2,.again g3 30 Z7 Z2,.again Z8 30 Z7 Z2,.ldn g3 b 0 2 Z4,.st g3 k 4 [bT] c1,.st Z8 k 5 Z4 c2,.ld1 Z9 k 1 Z6,.ld1 Z9 s 5 (iV live),.arith .sub .i64 live 1 l1,.st Z9 s 5 [iV l1] c3,.ld1 Z10 s 2 bT,.call 53 [Z6] Z10 (nS) g5]):=by intros;kernel_rfl
theorem en_sus(r k s b e1 y:Nat)(n e fk live sn:Int)(ft:ByteArray)(bl:Bool)(fv:V)(c1 c2 news:LV)(kk z:Nat)(g g2 g3 g4 g5:Hp)(oo ol:Nat)(l1:Int)(c3:LV)(w wl:Nat)(cs n3:LV) :
  let Z1:=pT r 0
  let Z2:V:=.agg #[iV fk,.string ft]
  let Z3:V:=.tuple #[pT k 0,iV 0]
  let Z4:LV:=[iV fk,.string ft]
  let Z5:=sL oo ol 1
  let Z6:=pT s 0
  let Z7:=sL w wl 5
  let Z8:=pT b 0
  let Z9:SH:=.set g3 k (cS c1)
  let Z10:SH:=.set Z9 k (cS c2)
  let Z11:SH:=.set Z10 s (cS c3)
  PF Try.f30 [Z1,iV n,Z2] g [.idx b,.ret Z3 g2,.bit false,.cells Z4,.ret bT g3,.val Z5,.bit false,.cells Z4,.cells c1,.cells c2,.val Z6,.val (iV live),.num l1,.cells c3,.val bT,.ret Z7 g5,.app [] n3 kk z] =
  some (.tuple #[sL z wl 5,iV 0],.push g5 (cS n3),[],[.len g b,.call 42 [Z1,iV n] (.push g (cS Z4)) Z3 g2,.cmp .neq 0 0 false,.ldn g2 b 0 2 Z4,.call 51 [Z2] g2 bT g3,.ld1 g3 k 2 Z5,.cmp .gtr (Int.ofNat ol) 0 false,.stat (drawN Try.f30 0),.again g3 30 Z8 Z2,.again g3 30 Z8 Z2,.again Z9 30 Z8 Z2,.ldn g3 b 0 2 Z4,.st g3 k 4 [bT] c1,.st Z9 k 5 Z4 c2,.ld1 Z10 k 1 Z6,.ld1 Z10 s 5 (iV live),.arith .sub .i64 live 1 l1,.st Z10 s 5 [iV l1] c3,.ld1 Z11 s 2 bT,.call 53 [Z6] Z11 Z7 g5,.appNil g5 w 0 wl kk 5 48 n3 z]):=by intros;kernel_rfl
theorem en_skn(r k s b e1 y:Nat)(n e fk live sn:Int)(ft:ByteArray)(bl:Bool)(fv:V)(c1 c2 news:LV)(kk z:Nat)(g g2 g3 g4 g5:Hp)(oo ol:Nat)(l1:Int)(c3:LV) :
  let Z1:=pT r 0
  let Z2:V:=.agg #[iV fk,.string ft]
  let Z3:V:=.tuple #[pT k 0,iV 0]
  let Z4:LV:=[iV fk,.string ft]
  let Z5:=sL oo ol 1
  let Z6:=pT s 0
  let Z7:=pT b 0
  let Z8:SH:=.set g3 k (cS c1)
  let Z9:SH:=.set Z8 k (cS c2)
  let Z10:SH:=.set Z9 s (cS c3)
  PF Try.f30 [Z1,iV n,Z2] g [.idx b,.ret Z3 g2,.bit false,.cells Z4,.ret bT g3,.val Z5,.bit false,.cells Z4,.cells c1,.cells c2,.val Z6,.val (iV live),.num l1,.cells c3,.val bF,.cells Z4,.ret bF g4,.ret (nS) g5,.app0] =
  some (.tuple #[nS,iV 0],.is g5,[],[.len g b,.call 42 [Z1,iV n] (.push g (cS Z4)) Z3 g2,.cmp .neq 0 0 false,.ldn g2 b 0 2 Z4,.call 51 [Z2] g2 bT g3,.ld1 g3 k 2 Z5,.cmp .gtr (Int.ofNat ol) 0 false,.stat (drawN Try.f30 0),.again g3 30 Z7 Z2,.again g3 30 Z7 Z2,.again Z8 30 Z7 Z2,.ldn g3 b 0 2 Z4,.st g3 k 4 [bT] c1,.st Z8 k 5 Z4 c2,.ld1 Z9 k 1 Z6,.ld1 Z9 s 5 (iV live),.arith .sub .i64 live 1 l1,.st Z9 s 5 [iV l1] c3,.ld1 Z10 s 2 bF,.ldn Z10 b 0 2 Z4,.call 52 [Z6,Z2] Z10 bF g4,.call 53 [Z6] g4 (nS) g5]):=by intros;kernel_rfl
theorem en_sks(r k s b e1 y:Nat)(n e fk live sn:Int)(ft:ByteArray)(bl:Bool)(fv:V)(c1 c2 news:LV)(kk z:Nat)(g g2 g3 g4 g5:Hp)(oo ol:Nat)(l1:Int)(c3:LV)(w wl:Nat)(cs n3:LV) :
  let Z1:=pT r 0
  let Z2:V:=.agg #[iV fk,.string ft]
  let Z3:V:=.tuple #[pT k 0,iV 0]
  let Z4:LV:=[iV fk,.string ft]
  let Z5:=sL oo ol 1
  let Z6:=pT s 0
  let Z7:=sL w wl 5
  let Z8:=pT b 0
  let Z9:SH:=.set g3 k (cS c1)
  let Z10:SH:=.set Z9 k (cS c2)
  let Z11:SH:=.set Z10 s (cS c3)
  PF Try.f30 [Z1,iV n,Z2] g [.idx b,.ret Z3 g2,.bit false,.cells Z4,.ret bT g3,.val Z5,.bit false,.cells Z4,.cells c1,.cells c2,.val Z6,.val (iV live),.num l1,.cells c3,.val bF,.cells Z4,.ret bF g4,.ret Z7 g5,.app [] n3 kk z] =
  some (.tuple #[sL z wl 5,iV 0],.push g5 (cS n3),[],[.len g b,.call 42 [Z1,iV n] (.push g (cS Z4)) Z3 g2,.cmp .neq 0 0 false,.ldn g2 b 0 2 Z4,.call 51 [Z2] g2 bT g3,.ld1 g3 k 2 Z5,.cmp .gtr (Int.ofNat ol) 0 false,.stat (drawN Try.f30 0),.again g3 30 Z8 Z2,.again g3 30 Z8 Z2,.again Z9 30 Z8 Z2,.ldn g3 b 0 2 Z4,.st g3 k 4 [bT] c1,.st Z9 k 5 Z4 c2,.ld1 Z10 k 1 Z6,.ld1 Z10 s 5 (iV live),.arith .sub .i64 live 1 l1,.st Z10 s 5 [iV l1] c3,.ld1 Z11 s 2 bF,.ldn Z11 b 0 2 Z4,.call 52 [Z6,Z2] Z11 bF g4,.call 53 [Z6] g4 Z7 g5,.appNil g5 w 0 wl kk 5 48 n3 z]):=by intros;kernel_rfl
theorem en_sbn(r k s b e1 y:Nat)(n e fk live sn:Int)(ft:ByteArray)(bl:Bool)(fv:V)(c1 c2 news:LV)(kk z:Nat)(g g2 g3 g4 g5:Hp)(oo ol:Nat)(l1:Int)(c3:LV) :
  let Z1:=pT r 0
  let Z2:V:=.agg #[iV fk,.string ft]
  let Z3:V:=.tuple #[pT k 0,iV 0]
  let Z4:LV:=[iV fk,.string ft]
  let Z5:=sL oo ol 1
  let Z6:=pT s 0
  let Z7:=pT b 0
  let Z8:SH:=.set g3 k (cS c1)
  let Z9:SH:=.set Z8 k (cS c2)
  let Z10:SH:=.set Z9 s (cS c3)
  let Z11:SH:=.push g4 (cS [iV 1,iV sn,iV 0,iV 0,.string eS])
  PF Try.f30 [Z1,iV n,Z2] g [.idx b,.ret Z3 g2,.bit false,.cells Z4,.ret bT g3,.val Z5,.bit false,.cells Z4,.cells c1,.cells c2,.val Z6,.val (iV live),.num l1,.cells c3,.val bF,.cells Z4,.ret bT g4,.val (iV sn),.idx e1,.app [] news 0 y,.ret (nS) g5,.app0] =
  some (.tuple #[sL y 1 5,iV 0],.is g5,[],[.len g b,.call 42 [Z1,iV n] (.push g (cS Z4)) Z3 g2,.cmp .neq 0 0 false,.ldn g2 b 0 2 Z4,.call 51 [Z2] g2 bT g3,.ld1 g3 k 2 Z5,.cmp .gtr (Int.ofNat ol) 0 false,.stat (drawN Try.f30 0),.again g3 30 Z7 Z2,.again g3 30 Z7 Z2,.again Z8 30 Z7 Z2,.ldn g3 b 0 2 Z4,.st g3 k 4 [bT] c1,.st Z8 k 5 Z4 c2,.ld1 Z9 k 1 Z6,.ld1 Z9 s 5 (iV live),.arith .sub .i64 live 1 l1,.st Z9 s 5 [iV l1] c3,.ld1 Z10 s 2 bF,.ldn Z10 b 0 2 Z4,.call 52 [Z6,Z2] Z10 bT g4,.ld1 g4 s 0 (iV sn),.len g4 e1,.appNil Z11 e1 0 1 0 5 48 news y,.call 53 [Z6] (.push Z11 (cS news)) (nS) g5]):=by intros;kernel_rfl
theorem en_sbs(r k s b e1 y:Nat)(n e fk live sn:Int)(ft:ByteArray)(bl:Bool)(fv:V)(c1 c2 news:LV)(kk z:Nat)(g g2 g3 g4 g5:Hp)(oo ol:Nat)(l1:Int)(c3:LV)(w wl:Nat)(cs n3:LV) :
  let Z1:=pT r 0
  let Z2:V:=.agg #[iV fk,.string ft]
  let Z3:V:=.tuple #[pT k 0,iV 0]
  let Z4:LV:=[iV fk,.string ft]
  let Z5:=sL oo ol 1
  let Z6:=pT s 0
  let Z7:=sL w wl 5
  let Z8:=pT b 0
  let Z9:SH:=.set g3 k (cS c1)
  let Z10:SH:=.set Z9 k (cS c2)
  let Z11:SH:=.set Z10 s (cS c3)
  let Z12:SH:=.push g4 (cS [iV 1,iV sn,iV 0,iV 0,.string eS])
  PF Try.f30 [Z1,iV n,Z2] g [.idx b,.ret Z3 g2,.bit false,.cells Z4,.ret bT g3,.val Z5,.bit false,.cells Z4,.cells c1,.cells c2,.val Z6,.val (iV live),.num l1,.cells c3,.val bF,.cells Z4,.ret bT g4,.val (iV sn),.idx e1,.app [] news 0 y,.ret Z7 g5,.app cs n3 kk z] =
  some (.tuple #[sL z (1+wl) 5,iV 0],.push (.set g5 y .dead) (cS cs),[],[.len g b,.call 42 [Z1,iV n] (.push g (cS Z4)) Z3 g2,.cmp .neq 0 0 false,.ldn g2 b 0 2 Z4,.call 51 [Z2] g2 bT g3,.ld1 g3 k 2 Z5,.cmp .gtr (Int.ofNat ol) 0 false,.stat (drawN Try.f30 0),.again g3 30 Z8 Z2,.again g3 30 Z8 Z2,.again Z9 30 Z8 Z2,.ldn g3 b 0 2 Z4,.st g3 k 4 [bT] c1,.st Z9 k 5 Z4 c2,.ld1 Z10 k 1 Z6,.ld1 Z10 s 5 (iV live),.arith .sub .i64 live 1 l1,.st Z10 s 5 [iV l1] c3,.ld1 Z11 s 2 bF,.ldn Z11 b 0 2 Z4,.call 52 [Z6,Z2] Z11 bT g4,.ld1 g4 s 0 (iV sn),.len g4 e1,.appNil Z12 e1 0 1 0 5 48 news y,.call 53 [Z6] (.push Z12 (cS news)) Z7 g5,.app g5 y 0 1 w 0 wl kk 5 48 cs n3 z]):=by intros;kernel_rfl
end Go.Proofs.Ytahomnlkkafbjaa.r2p
namespace Go.Proofs.Ytahomnlkkafbjaa.tr
open Go Go.Ev
def Tk0(inn:Option Nat):Tk:=⟨inn,[],false,false,0,⟨#[]⟩⟩
def Sc0(k:Nat)(su:Bool):Sc:=⟨k,su,false,[],0,0,⟨#[]⟩⟩
def TS.upT(t:TS)(k:Nat)(f:Tk->Tk):TS:={ t with tks:=t.tks.modify k f }
def TS.upS(t:TS)(k:Nat)(f:Sc->Sc):TS:={ t with scs:=t.scs.modify k f }
def TS.newT(t:TS)(inn:Option Nat):TS:={ t with tks:=t.tks++[Tk0 inn] }
def TS.newS(t:TS)(k:Nat)(su:Bool):TS:={ t with scs:=t.scs++[Sc0 k su] }
section
variable {t:TS} {k j:Nat} {f:Tk->Tk} {g:Sc->Sc}
theorem upT_get:(t.upT k f).tks[j]?=(t.tks[j]?).map fun x=>if k=j then f x else x:=by simp[TS.upT,List.getElem?_modify]
theorem upS_get:(t.upS k g).scs[j]?=(t.scs[j]?).map fun x=>if k=j then g x else x:=by simp[TS.upS,List.getElem?_modify]
theorem upT_at{x:Tk}(h:t.tks[k]?=some x):(t.upT k f).tks[k]?=some (f x):=by rw[upT_get,h];simp
theorem upS_at{x:Sc}(h:t.scs[k]?=some x):(t.upS k g).scs[k]?=some (g x):=by rw[upS_get,h];simp
theorem upT_ne(h:k≠j):(t.upT k f).tks[j]?=t.tks[j]?:=by rw[upT_get];simp[h]
theorem upS_ne(h:k≠j):(t.upS k g).scs[j]?=t.scs[j]?:=by rw[upS_get];simp[h]
theorem upT_len:(t.upT k f).tks.length=t.tks.length:=by simp[TS.upT]
theorem upS_len:(t.upS k g).scs.length=t.scs.length:=by simp[TS.upS]
theorem upT_scs:(t.upT k f).scs=t.scs:=rfl
theorem upS_tks:(t.upS k g).tks=t.tks:=rfl
theorem newT_get{inn:Option Nat}{y:Tk}:(t.newT inn).tks[j]?=some y->(t.tks[j]?=some y)\/(j=t.tks.length/\y=Tk0 inn):=by
 intro h
 simp only[TS.newT,List.getElem?_append] at h
 split at h
 ·exact .inl h
 ·have:=gTq h
  simp at this
  have e:j=t.tks.length:=by omega
  subst e
  simp at h
  exact .inr ⟨rfl,h.symm⟩
theorem newS_get{su:Bool}{y:Sc}:(t.newS k su).scs[j]?=some y->(t.scs[j]?=some y)\/(j=t.scs.length/\y=Sc0 k su):=by
 intro h
 simp only[TS.newS,List.getElem?_append] at h
 split at h
 ·exact .inl h
 ·have:=gTq h
  simp at this
  have e:j=t.scs.length:=by omega
  subst e
  simp at h
  exact .inr ⟨rfl,h.symm⟩
theorem newT_old{inn:Option Nat}{y:Tk}(h:t.tks[j]?=some y):(t.newT inn).tks[j]?=some y:=by
 simp only[TS.newT]
 rw[List.getElem?_append_left (gTq h)]
 exact h
theorem newS_old{su:Bool}{y:Sc}(h:t.scs[j]?=some y):(t.newS k su).scs[j]?=some y:=by
 simp only[TS.newS]
 rw[List.getElem?_append_left (gTq h)]
 exact h
theorem newT_new{inn:Option Nat}:(t.newT inn).tks[t.tks.length]?=some (Tk0 inn):=by simp[TS.newT]
theorem newS_new{su:Bool}:(t.newS k su).scs[t.scs.length]?=some (Sc0 k su):=by simp[TS.newS]
theorem newT_len{inn:Option Nat}:(t.newT inn).tks.length=t.tks.length+1:=by simp[TS.newT]
theorem newS_len{su:Bool}:(t.newS k su).scs.length=t.scs.length+1:=by simp[TS.newS]
end
theorem cont_upT{ρ:Lay}{t:TS}{k:Nat}{f:Tk->Tk}{r:Rl}(h1:r≠.tk k)(h2:r≠.op k):cont ρ (t.upT k f) r=cont ρ t r:=by
 cases r with
 | tk j=>simp only[cont,upT_ne (t:=t) (f:=f) (show k≠j from fun e=>h1 (by rw[e]))]
 | op j=>simp only[cont,upT_ne (t:=t) (f:=f) (show k≠j from fun e=>h2 (by rw[e]))]
 | root=>simp only[cont,upT_len,upT_scs]
 | ts=>simp only[cont,upT_len]
 | ss=>rfl
 | sc j=>rfl
 | st j=>rfl
theorem cont_upS{ρ:Lay}{t:TS}{k:Nat}{f:Sc->Sc}{r:Rl}(h1:r≠.sc k)(h2:r≠.st k):cont ρ (t.upS k f) r=cont ρ t r:=by
 cases r with
 | sc j=>simp only[cont,upS_ne (t:=t) (g:=f) (show k≠j from fun e=>h1 (by rw[e]))]
 | st j=>simp only[cont,upS_ne (t:=t) (g:=f) (show k≠j from fun e=>h2 (by rw[e]))]
 | root=>simp only[cont,upS_len,upS_tks]
 | ss=>simp only[cont,upS_len]
 | ts=>rfl
 | tk j=>rfl
 | op j=>rfl
theorem Sh.upT{ρ:Lay}{t:TS}(s:Sh ρ t){k:Nat}{f:Tk->Tk}(hf:∀ x,t.tks[k]?=some x->ρ (.op k)=none->(f x).opn=[]):Sh ρ (t.upT k f):=by
 have hn:t.tks=[]->(t.upT k f).tks=[]:=fun e=>by simp[TS.upT,e]
 refine⟨s.root,by rw[upT_len];exact s.tk,s.sc,fun e=>hn (s.ts e),s.ss,fun j x hx e=>?_,s.st,by rw[upT_len];exact s.otk,s.osc⟩
 rw[upT_get] at hx
 cases hy:t.tks[j]? with
 | none=>rw[hy] at hx;cases hx
 | some y =>
  rw[hy] at hx
  simp only[Option.map_some,Option.some.injEq] at hx
  subst hx
  split
  ·rename_i e';subst e';exact hf y hy e
  ·exact s.op j y hy e
theorem Sh.upS{ρ:Lay}{t:TS}(s:Sh ρ t){k:Nat}{f:Sc->Sc}(hf:∀ x,t.scs[k]?=some x->ρ (.st k)=none->(f x).tks=[]):Sh ρ (t.upS k f):=by
 have hn:t.scs=[]->(t.upS k f).scs=[]:=fun e=>by simp[TS.upS,e]
 refine⟨s.root,s.tk,by rw[upS_len];exact s.sc,s.ts,fun e=>hn (s.ss e),s.op,fun j x hx e=>?_,s.otk,by rw[upS_len];exact s.osc⟩
 rw[upS_get] at hx
 cases hy:t.scs[j]? with
 | none=>rw[hy] at hx;cases hx
 | some y =>
  rw[hy] at hx
  simp only[Option.map_some,Option.some.injEq] at hx
  subst hx
  split
  ·rename_i e';subst e';exact hf y hy e
  ·exact s.st j y hy e
theorem TAt.wTk{h:Hp}{ρ:Lay}{t:TS}(a:TAt h ρ t){k i d:Nat}{x x':Tk}{l:List Value}(f:Tk->Tk)(hi:ρ (.tk k)=some i)(hx:t.tks[k]?=some x)(hf:f x=x')(hp:∃ y,x.opn=x'.opn++y)
  (hd:d+l.length<=7) (hl:(tkC ρ k x).take d++l++(tkC ρ k x).drop (d+l.length)=tkC ρ k x') :
  ∃ c,(∀ (P:Program) (s:SH),s.den=h->(Asm.st s i d l c).holds P)/\TAt (h.set i (.cells c true)) ρ (t.upT k f):=by
 obtain⟨junk,hj⟩:=a.obj _ _ hi
 rw[cT hx] at hj
 obtain⟨y,hy⟩:=hp
 have hx':(t.upT k f).tks[k]?=some x':=by rw[upT_at hx,hf]
 refine⟨tkC ρ k x'++junk,fun P s e=>?_,?_⟩
 ·rw[<- e] at hj
  refine a_st hj (by simp[tkC];omega) ?_
  rw[<- hl,List.take_append_of_le_length (by simp[tkC];omega),List.drop_append_of_le_length (by simp[tkC];omega)]
  simp
 ·refine a.set1 hi (a.sh.upT fun z hz e=>?_) ⟨junk,by rw[cT hx']⟩ fun r' n=>?_
  ·rw[hx] at hz;cases hz
   have:=a.sh.op k x hx e
   rw[hf]
   rw[this] at hy
   exact (List.append_eq_nil_iff.1 hy.symm).1
  ·by_cases e:r'=.op k
   ·subst e
    rw[cont_op hx,cont_op hx',hy]
    exact⟨y.map (inP ρ),fun junk=>by simp⟩
   ·exact⟨[],fun junk=>by rw[cont_upT n e];rfl⟩
theorem TAt.wSc{h:Hp}{ρ:Lay}{t:TS}(a:TAt h ρ t){k i d:Nat}{x x':Sc}{l:List Value}(f:Sc->Sc)(hi:ρ (.sc k)=some i)(hx:t.scs[k]?=some x)(hf:f x=x')(hp:x.tks=x'.tks)
  (hd:d+l.length<=8) (hl:(scC ρ k x).take d++l++(scC ρ k x).drop (d+l.length)=scC ρ k x') :
  ∃ c,(∀ (P:Program) (s:SH),s.den=h->(Asm.st s i d l c).holds P)/\TAt (h.set i (.cells c true)) ρ (t.upS k f):=by
 obtain⟨junk,hj⟩:=a.obj _ _ hi
 rw[cSq hx] at hj
 have hx':(t.upS k f).scs[k]?=some x':=by rw[upS_at hx,hf]
 refine⟨scC ρ k x'++junk,fun P s e=>?_,?_⟩
 ·rw[<- e] at hj
  refine a_st hj (by simp[scC];omega) ?_
  rw[<- hl,List.take_append_of_le_length (by simp[scC];omega),List.drop_append_of_le_length (by simp[scC];omega)]
  simp
 ·refine a.set1 hi (a.sh.upS fun z hz e=>?_) ⟨junk,by rw[cSq hx']⟩ fun r' n=>?_
  ·rw[hx] at hz;cases hz
   have:=a.sh.st k x hx e
   rw[hf,<- hp]
   exact this
  ·by_cases e:r'=.st k
   ·subst e
    rw[cont_st hx,cont_st hx',hp]
    exact⟨[],fun junk=>by simp⟩
   ·exact⟨[],fun junk=>by rw[cont_upS n e];rfl⟩
def gApp(g:Hp)(o:Option Nat)(cs:List Value):Hp:=match o with
 | none=>g++[.cells cs true]
 | some so=>g.set so .dead++[.cells cs true]
theorem gApp_len{g:Hp}{o:Option Nat}{cs:List Value}:(gApp g o cs).length=g.length+1:=by cases o<;>simp[gApp]
theorem gApp_get{g:Hp}{o:Option Nat}{cs:List Value}{q:Nat}{x:AObj}(h:g[q]?=some x)(n:o≠some q):(gApp g o cs)[q]?=some x:=by
 cases o with
 | none=>exact gP h
 | some so=>exact gP (gNq h fun e=>n (by rw[e]))
theorem gApp_new{g:Hp}{o:Option Nat}{cs:List Value}:(gApp g o cs)[g.length]?=some (.cells cs true):=by
 cases o with
 | none=>exact gW _ _
 | some so=>exact gV _ (by simp)
theorem TAt.appG{h:Hp}{ρ ρ':Lay}{t t':TS}(a:TAt h ρ t){rh rs:Rl}{rn:Option Rl}{i d z b n:Nat}{os:Hp}
  (hi:ρ rh=some i) (hne:rh≠rs) (hz:(h++os).length=z) (hrs:ρ' rs=some z) (hot:∀ r,r≠rs->some r≠rn->ρ' r=ρ r)
  (hnew:∀ r,rn=some r->r≠rs/\r≠rh/\ρ r=none/\ρ' r=some b/\h.length<=b/\b<z/\(h++os)[b]?=some (.cells (cont ρ' t' r) true))
  (same:∀ r,r≠rs->r≠rh->some r≠rn->ρ r≠none->cont ρ' t' r=cont ρ t r)
  (hd:d<(cont ρ t rh).length) (hch:cont ρ' t' rh=(cont ρ t rh).take d++[.slice (some ⟨z,0,none⟩) (n+1) 1]++(cont ρ t rh).drop (d+1)) (sh:Sh ρ' t') :
  ∃ cr,(∀ (P:Program) (s:SH),s.den=gApp (h++os) (ρ rs) (cont ρ' t' rs)->(Asm.st s i d [.slice (some ⟨z,0,none⟩) (n+1) 1] cr).holds P)/\TAt ((gApp (h++os) (ρ rs) (cont ρ' t' rs)).set i (.cells cr true)) ρ' t':=by
 obtain⟨junk,hj⟩:=a.obj _ _ hi
 have hil:=get_lt hj
 have hzl:h.length<=z:=by rw[<- hz];simp
 have hns:ρ rs≠some i:=fun e=>hne (a.inj _ _ _ hi e)
 have hsl:∀ q,ρ rs=some q->q<h.length:=fun q e=>a.lt e
 obtain⟨g,hg⟩:∃ g,g=gApp (h++os) (ρ rs) (cont ρ' t' rs):=⟨_,rfl⟩
 have gi:g[i]?=some (.cells (cont ρ t rh++junk) true):=by
  rw[hg]
  exact gApp_get (by rw[List.getElem?_append_left hil];exact hj) hns
 have gl:g.length=z+1:=by rw[hg,gApp_len,hz]
 have hrh:some rh≠rn:=fun e=>(hnew rh e.symm).2.1 rfl
 have hi':ρ' rh=some i:=by rw[hot rh hne hrh];exact hi
 have K:Keep (fun q=>ρ rs=some q) h g:=by
  rw[hg]
  refine⟨by rw[gApp_len];simp;omega,fun q o hq hn=>gApp_get (by rw[List.getElem?_append_left (get_lt hq)];exact hq) hn⟩
 rw[<- hg]
 refine⟨cont ρ' t' rh++junk,fun P s e=>?_,?_⟩
 ·rw[<- e] at gi
  refine a_st gi (by simp;omega) ?_
  rw[hch,List.take_append_of_le_length (by omega),List.drop_append_of_le_length (by simp;omega)]
  simp
 ·refine a.upd (fp:=fun q=>q=i\/ρ rs=some q) (fun r=>r=rs\/r=rh\/some r=rn) ((K.mono fun _ _ e=>.inr e).trans (Keep.set (.inl rfl) _)) (fun r q e f=>?_) sh (fun r n=>?_) fun r q dr e=>?_
  ·rcases f with f | f
   ·subst f;exact .inr (.inl (a.inj _ _ _ e hi))
   ·exact .inl (a.inj _ _ _ e f)
  ·simp only[not_or] at n
   exact⟨hot r n.1 n.2.2,fun e=>⟨[],fun junk=>by rw[same r n.1 n.2.1 n.2.2 e];rfl⟩⟩
  ·have old:∀ r',r'≠rs->some r'≠rn->ρ' r'=some q->q<h.length/\ρ r'=some q:=fun r' n1 n2 e'=>by
    rw[hot r' n1 n2] at e'
    exact⟨a.lt e',e'⟩
   rcases dr with rfl | rfl | dr
   ·rw[hrs] at e;cases e
    refine⟨⟨[],?_⟩,fun r' e'=>?_⟩
    ·rw[List.append_nil]
     refine gNq ?_ (by omega)
     rw[hg,<- hz]
     exact gApp_new
    ·by_cases n1:r'=r
     ·exact n1
     ·by_cases n2:some r'=rn
      ·obtain⟨_,_,_,f,_,f2,_⟩:=hnew r' n2.symm
       rw[f] at e';cases e'
       omega
      ·have:=(old r' n1 n2 e').1
       omega
   ·rw[hi'] at e;cases e
    refine⟨⟨junk,gE gi⟩,fun r' e'=>?_⟩
    by_cases n1:r'=rs
    ·rw[n1,hrs] at e';cases e';omega
    ·by_cases n2:some r'=rn
     ·obtain⟨_,_,_,f,f1,_⟩:=hnew r' n2.symm
      rw[f] at e';cases e'
      omega
     ·exact a.inj _ _ _ (old r' n1 n2 e').2 hi
   ·obtain⟨m1,m2,m3,f,f1,f2,f3⟩:=hnew r dr.symm
    rw[f] at e;cases e
    refine⟨⟨[],?_⟩,fun r' e'=>?_⟩
    ·rw[List.append_nil]
     refine gNq ?_ (by omega)
     rw[hg]
     exact gApp_get f3 fun e=>by have:=hsl b e;omega
    ·by_cases n1:r'=rs
     ·rw[n1,hrs] at e';cases e';omega
     ·by_cases n2:some r'=rn
      ·exact Option.some.inj (n2.trans dr.symm)
      ·have:=(old r' n1 n2 e').1
       omega
end Go.Proofs.Ytahomnlkkafbjaa.tr
namespace Go.Proofs.Ytahomnlkkafbjaa.tr
open Go Go.Ev
def tkP(ρ:Lay):Option Nat->Value
 | some k=>pvv (ρ (.tk k))
 | none=>.pointer none
def TS.runs(t:TS)(n:Int):Option Nat×Int :=
 if n<1\/(t.tks.length:Int)<n then (none,6) else
 match t.tks[(n-1).toNat]? with
 | some x=>if x.en then (none,6) else (some (n-1).toNat,0)
 | none=>(none,6)
def TS.acts(t:TS)(n:Int):Option Nat×Int:=match t.runs n with
 | (some k,_)=>match t.tks[k]? with
  | some x=>if x.lv then (none,22) else (some k,0)
  | none=>(none,6)
 | (none,e)=>(none,e)
def TS.scope(t:TS)(n:Int):Option Nat×Int:=if n<1\/(t.scs.length:Int)<n then (none,6) else (some (n-1).toNat,0)
def innV(ρ:Lay):Option (Option Nat)->Value
 | some l=>.tuple #[inP ρ l,.bool true]
 | none=>.tuple #[.pointer none,.bool false]
theorem runs_some{t:TS}{n:Int}{k:Nat}{e:Int}(h:t.runs n=(some k,e)):e=0/\n=k+1/\∃ x,t.tks[k]?=some x/\x.en=false:=by
 unfold TS.runs at h
 split at h
 ·simp at h
 ·rename_i g
  split at h
  ·rename_i x hx
   split at h
   ·simp at h
   ·rename_i he
    simp only[Prod.mk.injEq,Option.some.injEq] at h
    obtain⟨rfl,rfl⟩:=h
    exact⟨rfl,by omega,x,hx,by simpa using he⟩
  ·simp at h
theorem runs_none{t:TS}{n:Int}{e:Int}(h:t.runs n=(none,e)):e=6:=by
 unfold TS.runs at h
 split at h
 ·simp at h;exact h.symm
 ·split at h
  ·split at h<;>simp at h;exact h.symm
  ·simp at h;exact h.symm
theorem acts_some{t:TS}{n:Int}{k:Nat}{e:Int}(h:t.acts n=(some k,e)):e=0/\n=k+1/\∃ x,t.tks[k]?=some x/\x.en=false/\x.lv=false:=by
 unfold TS.acts at h
 split at h
 ·rename_i j e' hr
  obtain⟨rfl,hn,x,hx,he⟩:=runs_some hr
  rw[hx] at h
  simp only at h
  split at h
  ·simp at h
  ·rename_i hl
   simp only[Prod.mk.injEq,Option.some.injEq] at h
   obtain⟨rfl,rfl⟩:=h
   exact⟨rfl,hn,x,hx,he,by simpa using hl⟩
 ·simp at h
theorem acts_none{t:TS}{n:Int}{e:Int}(h:t.acts n=(none,e)):e=6\/e=22:=by
 unfold TS.acts at h
 split at h
 ·split at h
  ·split at h<;>simp at h
   exact .inr h.symm
  ·simp at h;exact .inl h.symm
 ·rename_i hr
  simp at h
  subst h
  exact .inl (runs_none hr)
theorem scope_some{t:TS}{n:Int}{k:Nat}{e:Int}(h:t.scope n=(some k,e)):e=0/\n=k+1/\k<t.scs.length:=by
 unfold TS.scope at h
 split at h
 ·simp at h
 ·simp only[Prod.mk.injEq,Option.some.injEq] at h
  omega
theorem scope_none{t:TS}{n:Int}{e:Int}(h:t.scope n=(none,e)):e=6:=by
 unfold TS.scope at h
 split at h
 ·simp at h;exact h.symm
 ·simp at h
section
variable {h:Hp} {ρ:Lay} {t:TS} {c r:Nat}
theorem TAt.hdT(a:TAt h ρ t)(hr:ρ .root=some r){P:Program}{s:SH}(hs:s.den=h):(Asm.ld1 s r 0 (slv (ρ .ts) t.tks.length)).holds P:=a.ld1 hs hr rfl
theorem TAt.hdS(a:TAt h ρ t)(hr:ρ .root=some r){P:Program}{s:SH}(hs:s.den=h):(Asm.ld1 s r 1 (slv (ρ .ss) t.scs.length)).holds P:=a.ld1 hs hr rfl
theorem runs_run(a:TAt h ρ t)(ok:TOk c t)(hr:ρ .root=some r)(n:Int):Run Try.prog 42 [.pointer (some ⟨r,0,none⟩),iV n] h (.tuple #[tkP ρ (t.runs n).1,iV (t.runs n).2]) h:=by
 have n64:=ok.n64
 have hd:=a.hdT hr (P:=Try.prog) (s:=.is h) rfl
 by_cases c1:n<1
 ·have e:t.runs n=(none,6):=by simp[TS.runs,c1]
  rw[e]
  exact pvF 0 Try.func42 (r2p.ru_low r 0 0 0 0 n 0 h) ⟨ltT c1,trivial⟩
 ·by_cases c2:(t.tks.length:Int)<n
  ·have e:t.runs n=(none,6):=by simp[TS.runs,c2]
   rw[e]
   cases ht:ρ .ts with
   | none =>
    have h0:=a.sh.ts ht
    rw[ht,h0] at hd
    rw[h0] at c2
    exact pvF 0 Try.func42 (r2p.ru_highn r 0 0 0 0 n 0 h) ⟨ltF (by omega),hd,gtT (by simpa using c2),trivial⟩
   | some to =>
    rw[ht] at hd
    exact pvF 0 Try.func42 (r2p.ru_highs r to t.tks.length 0 0 n 0 h) ⟨ltF (by omega),hd,gtT c2,trivial⟩
  ·have hk:(n-1).toNat<t.tks.length:=by omega
   obtain⟨x,hx⟩:∃ x,t.tks[(n-1).toNat]?=some x:=⟨_,List.getElem?_eq_getElem hk⟩
   obtain⟨to,ht⟩:=a.sh.ts' hk
   obtain⟨i,hi⟩:=a.sh.tk _ hk
   rw[ht] at hd
   have p1:(Asm.arith .sub .i64 n 1 (n-1)).holds Try.prog:=subI rfl (by omega) (by omega)
   have p2:(Asm.off (n-1).toNat 0 (n-1) t.tks.length 1).holds Try.prog:=offI (q:=(n-1).toNat) (by omega) hk (by omega)
   have p3:(Asm.ld1 (.is h) to (n-1).toNat (.pointer (some ⟨i,0,none⟩))).holds Try.prog:=by
    have:=a.ld1 (P:=Try.prog) (s:=.is h) rfl ht (cont_ts hk)
    rwa [hi] at this
   have p4:(Asm.ld1 (.is h) i 4 (.bool x.en)).holds Try.prog:=a.ld1 rfl hi (by rw[cT hx];rfl)
   have g1:(Asm.cmp .lss n 1 false).holds Try.prog:=ltF (by omega)
   have g2:(Asm.cmp .gtr n (Int.ofNat t.tks.length) false).holds Try.prog:=gtF (by simp;omega)
   cases he:x.en with
   | true =>
    have e:t.runs n=(none,6):=by simp only[TS.runs,c1,c2,or_self,if_false,hx,he,reduceIte,Bool.false_eq_true]
    rw[e]
    rw[he] at p4
    exact pvF 0 Try.func42 (r2p.ru_end r to t.tks.length (n-1).toNat i n (n-1) h) ⟨g1,hd,g2,hd,p1,p2,p3,p4,trivial⟩
   | false =>
    have e:t.runs n=(some (n-1).toNat,0):=by simp only[TS.runs,c1,c2,or_self,if_false,hx,he,reduceIte,Bool.false_eq_true]
    rw[e]
    rw[he] at p4
    simp only[tkP,hi,pvv]
    exact pvF 0 Try.func42 (r2p.ru_ok r to t.tks.length (n-1).toNat i n (n-1) h) ⟨g1,hd,g2,hd,p1,p2,p3,p4,hd,p1,p2,p3,trivial⟩
theorem acts_run(a:TAt h ρ t)(ok:TOk c t)(hr:ρ .root=some r)(n:Int):Run Try.prog 46 [.pointer (some ⟨r,0,none⟩),iV n] h (.tuple #[tkP ρ (t.acts n).1,iV (t.acts n).2]) h:=by
 have R:=runs_run a ok hr n
 rcases hq:t.runs n with⟨k | k,e⟩
 ·have e6:=runs_none hq
  subst e6
  have e:t.acts n=(none,6):=by simp[TS.acts,hq]
  rw[e]
  rw[hq] at R
  exact pvF 0 Try.func46 (r2p.ac_err r 0 n 6 h) ⟨R,eqF (by omega),trivial⟩
 ·obtain⟨rfl,hn,x,hx,he⟩:=runs_some hq
  obtain⟨i,hi⟩:=a.sh.tk k (gTq hx)
  rw[hq] at R
  simp only[tkP,hi,pvv] at R
  have p4:(Asm.ld1 (.is h) i 3 (.bool x.lv)).holds Try.prog:=a.ld1 rfl hi (by rw[cT hx];rfl)
  cases hl:x.lv with
  | true =>
   have e:t.acts n=(none,22):=by simp[TS.acts,hq,hx,hl]
   rw[e]
   rw[hl] at p4
   exact pvF 0 Try.func46 (r2p.ac_lv r i n 0 h) ⟨R,eqT rfl,p4,trivial⟩
  | false =>
   have e:t.acts n=(some k,0):=by simp[TS.acts,hq,hx,hl]
   rw[e]
   rw[hl] at p4
   simp only[tkP,hi,pvv]
   exact pvF 0 Try.func46 (r2p.ac_ok r i n 0 h) ⟨R,eqT rfl,p4,trivial⟩
theorem scope_run(a:TAt h ρ t)(ok:TOk c t)(hr:ρ .root=some r)(n:Int):Run Try.prog 41 [.pointer (some ⟨r,0,none⟩),iV n] h (.tuple #[inP ρ (t.scope n).1,iV (t.scope n).2]) h:=by
 have n200:=ok.n200
 have hd:=a.hdS hr (P:=Try.prog) (s:=.is h) rfl
 by_cases c1:n<1
 ·have e:t.scope n=(none,6):=by simp[TS.scope,c1]
  rw[e]
  exact pvF 0 Try.func41 (r2p.sc_low r 0 0 0 0 n 0 h) ⟨ltT c1,trivial⟩
 ·by_cases c2:(t.scs.length:Int)<n
  ·have e:t.scope n=(none,6):=by simp[TS.scope,c2]
   rw[e]
   cases ht:ρ .ss with
   | none =>
    have h0:=a.sh.ss ht
    rw[ht,h0] at hd
    rw[h0] at c2
    exact pvF 0 Try.func41 (r2p.sc_highn r 0 0 0 0 n 0 h) ⟨ltF (by omega),hd,gtT (by simpa using c2),trivial⟩
   | some to =>
    rw[ht] at hd
    exact pvF 0 Try.func41 (r2p.sc_highs r to t.scs.length 0 0 n 0 h) ⟨ltF (by omega),hd,gtT c2,trivial⟩
  ·have hk:(n-1).toNat<t.scs.length:=by omega
   obtain⟨to,ht⟩:=a.sh.ss' hk
   obtain⟨i,hi⟩:=a.sh.sc _ hk
   rw[ht] at hd
   have e:t.scope n=(some (n-1).toNat,0):=by simp[TS.scope,c1,c2]
   rw[e]
   simp only[inP,hi,pvv]
   exact pvF 0 Try.func41 (r2p.sc_ok r to t.scs.length (n-1).toNat i n (n-1) h) ⟨ltF (by omega),hd,gtF (by simp;omega),hd,subI rfl (by omega) (by omega),offI (q:=(n-1).toNat) (by omega) hk (by omega),
    by have:=a.ld1 (P:=Try.prog) (s:=.is h) rfl ht (cont_ss hk);rwa [hi] at this,trivial⟩
theorem stat47:(Asm.stat (drawN Try.f47 0)).holds Try.prog:=show statOk (drawN Try.f47 0)=true by kernel_rfl
theorem inner_run(a:TAt h ρ t)(ok:TOk c t)(hc:c<=1000000){k i:Nat}{x:Tk}(hx:t.tks[k]?=some x)(hi:ρ (.tk k)=some i):Run Try.prog 47 [.pointer (some ⟨i,0,none⟩)] h (innV ρ x.opn.getLast?) h:=by
 have hl:=ok.len k x hx
 have hd:(Asm.ld1 (.is h) i 2 (slv (ρ (.op k)) x.opn.length)).holds Try.prog:=a.ld1 rfl hi (by rw[cT hx];rfl)
 cases ho:ρ (.op k) with
 | none =>
  have h0:=a.sh.op k x hx ho
  rw[ho,h0] at hd
  rw[h0]
  exact pvF 0 Try.func47 (r2p.in_nil i 0 0 0 0 (.bool true) h) ⟨hd,eqT rfl,trivial⟩
 | some o =>
  rw[ho] at hd
  by_cases h0:x.opn=[]
  ·rw[h0] at hd
   rw[h0]
   exact pvF 0 Try.func47 (r2p.in_zero i o 0 0 0 (.bool true) h) ⟨hd,eqT rfl,trivial⟩
  ·have hl0:x.opn.length≠0:=fun e=>h0 (List.length_eq_zero_iff.1 e)
   obtain⟨v,hv⟩:∃ v,x.opn.getLast?=some v:=⟨_,List.getLast?_eq_some_getLast h0⟩
   have hv':x.opn[x.opn.length-1]?=some v:=by rw[<- hv,List.getLast?_eq_getElem?]
   rw[hv]
   have p3:(Asm.ld1 (.is h) o (x.opn.length-1) (inP ρ v)).holds Try.prog:=a.ld1 rfl ho (by rw[cont_op hx,List.getElem?_map,hv'];rfl)
   exact pvF 0 Try.func47 (r2p.in_some i o x.opn.length (x.opn.length-1) ((x.opn.length:Int)-1) (inP ρ v) h) ⟨hd,eqF (by simp;omega),stat47,hd,hd,subI rfl (by omega) (by omega),offI (q:=x.opn.length-1) (by omega) (by omega) (by omega),p3,trivial⟩
end
end Go.Proofs.Ytahomnlkkafbjaa.tr
