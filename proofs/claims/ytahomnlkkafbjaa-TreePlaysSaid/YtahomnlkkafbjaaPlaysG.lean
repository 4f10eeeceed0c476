import Derived.Test.YtahomnlkkafbjaaPlaysF
import Derived.Test.YtahomnlkkafbjaaProg
import Derived.KernelRfl
set_option linter.constructorNameAsVariable false
set_option linter.unusedVariables false
set_option maxRecDepth 100000
namespace Go.Proofs.Ytahomnlkkafbjaa.q10p
open Go Go.Ev
theorem lv_no(a1 a2 a3:OA)(n1 n2 n3 z1 z2 z3:Nat)(b b2 c:Nat)(n fk:Int)(ft:ByteArray)(g g1 g2:Hp) :
  let Z1:V:=.agg #[.slice a1 n1 z1,.slice a2 n2 z2,.slice a3 n3 z3]
  let Z2:LV:=[.slice a1 n1 z1,.slice a2 n2 z2,.slice a3 n3 z3]
  let Z3:AObj:=cS Z2
  let Z4:SH:=.set g1 c Z3
  let Z5:SH:=.push g Z3
  let Z6:SH:=.push Z5 (cS [iV fk,.string ft])
  let Z7:SH:=.push Z6 (cS [nS,nS,nS])
  PF Try.f62 [Z1,iV n,.agg #[iV fk,.string ft]] g [.idx b,.idx b2,.idx c,.cells Z2,.ret bF g1,.cells Z2,.cells Z2,.cells Z2] =
  some (.tuple #[Z1,nS,iV 6],Z4,[],[.len g b,.len Z5 b2,.len Z6 c,.ldn Z7 b 0 3 Z2,.call 71 [Z1,iV n] Z7 bF g1,.ldn g1 b 0 3 Z2,.st g1 c 0 Z2 Z2,.ldn Z4 c 0 3 Z2]):=by intros;kernel_rfl
theorem lv_bad(a1 a2 a3:OA)(n1 n2 n3 z1 z2 z3:Nat)(b b2 c:Nat)(n fk:Int)(ft:ByteArray)(g g1 g2:Hp) :
  let Z1:V:=.agg #[.slice a1 n1 z1,.slice a2 n2 z2,.slice a3 n3 z3]
  let Z2:V:=.agg #[iV fk,.string ft]
  let Z3:LV:=[.slice a1 n1 z1,.slice a2 n2 z2,.slice a3 n3 z3]
  let Z4:LV:=[iV fk,.string ft]
  let Z5:AObj:=cS Z3
  let Z6:SH:=.set g2 c Z5
  let Z7:SH:=.push g Z5
  let Z8:SH:=.push Z7 (cS Z4)
  let Z9:SH:=.push Z8 (cS [nS,nS,nS])
  PF Try.f62 [Z1,iV n,Z2] g [.idx b,.idx b2,.idx c,.cells Z3,.ret bT g1,.cells Z4,.ret bF g2,.cells Z3,.cells Z3,.cells Z3] =
  some (.tuple #[Z1,nS,iV 2],Z6,[],[.len g b,.len Z7 b2,.len Z8 c,.ldn Z9 b 0 3 Z3,.call 71 [Z1,iV n] Z9 bT g1,.ldn g1 b2 0 2 Z4,.call 78 [Z2] g1 bF g2,.ldn g2 b 0 3 Z3,.st g2 c 0 Z3 Z3,.ldn Z6 c 0 3 Z3]):=by intros;kernel_rfl
theorem en_no(a1 a2 a3:OA)(n1 n2 n3 z1 z2 z3:Nat)(b b2 c:Nat)(n fk:Int)(ft:ByteArray)(g g1 g2:Hp) :
  let Z1:V:=.agg #[.slice a1 n1 z1,.slice a2 n2 z2,.slice a3 n3 z3]
  let Z2:LV:=[.slice a1 n1 z1,.slice a2 n2 z2,.slice a3 n3 z3]
  let Z3:AObj:=cS Z2
  let Z4:SH:=.set g1 c Z3
  let Z5:SH:=.push g Z3
  let Z6:SH:=.push Z5 (cS [iV fk,.string ft])
  let Z7:SH:=.push Z6 (cS [nS,nS,nS])
  PF Try.f60 [Z1,iV n,.agg #[iV fk,.string ft]] g [.idx b,.idx b2,.idx c,.cells Z2,.ret bF g1,.cells Z2,.cells Z2,.cells Z2] =
  some (.tuple #[Z1,nS,iV 6],Z4,[],[.len g b,.len Z5 b2,.len Z6 c,.ldn Z7 b 0 3 Z2,.call 71 [Z1,iV n] Z7 bF g1,.ldn g1 b 0 3 Z2,.st g1 c 0 Z2 Z2,.ldn Z4 c 0 3 Z2]):=by intros;kernel_rfl
theorem en_bad(a1 a2 a3:OA)(n1 n2 n3 z1 z2 z3:Nat)(b b2 c:Nat)(n fk:Int)(ft:ByteArray)(g g1 g2:Hp) :
  let Z1:V:=.agg #[.slice a1 n1 z1,.slice a2 n2 z2,.slice a3 n3 z3]
  let Z2:V:=.agg #[iV fk,.string ft]
  let Z3:LV:=[.slice a1 n1 z1,.slice a2 n2 z2,.slice a3 n3 z3]
  let Z4:LV:=[iV fk,.string ft]
  let Z5:AObj:=cS Z3
  let Z6:SH:=.set g2 c Z5
  let Z7:SH:=.push g Z5
  let Z8:SH:=.push Z7 (cS Z4)
  let Z9:SH:=.push Z8 (cS [nS,nS,nS])
  PF Try.f60 [Z1,iV n,Z2] g [.idx b,.idx b2,.idx c,.cells Z3,.ret bT g1,.cells Z4,.ret bF g2,.cells Z3,.cells Z3,.cells Z3] =
  some (.tuple #[Z1,nS,iV 2],Z6,[],[.len g b,.len Z7 b2,.len Z8 c,.ldn Z9 b 0 3 Z3,.call 71 [Z1,iV n] Z9 bT g1,.ldn g1 b2 0 2 Z4,.call 78 [Z2] g1 bF g2,.ldn g2 b 0 3 Z3,.st g2 c 0 Z3 Z3,.ldn Z6 c 0 3 Z3]):=by intros;kernel_rfl
theorem lv_busy(a2 a3:OA)(n2 n3 z2 z3:Nat)(o n1 b b2 c l q:Nat)(n fk j k s:Int)(ft:ByteArray)(g g1 g2 g3:Hp) :
  let Z1:=sL o n1 6
  let Z2:V:=.agg #[Z1,.slice a2 n2 z2,.slice a3 n3 z3]
  let Z3:V:=.agg #[iV fk,.string ft]
  let Z4:LV:=[Z1,.slice a2 n2 z2,.slice a3 n3 z3]
  let Z5:LV:=[iV fk,.string ft]
  let Z6:V:=.agg #[iV k,iV s]
  let Z7:LV:=[iV k,iV s]
  let Z8:SH:=.push g3 (cS [iV 0,iV 0])
  let Z9:SH:=.set Z8 l (cS Z7)
  let Z10:AObj:=cS Z4
  let Z11:SH:=.set Z9 c Z10
  let Z12:SH:=.push g Z10
  let Z13:SH:=.push Z12 (cS Z5)
  let Z14:SH:=.push Z13 (cS [nS,nS,nS])
  let Z15:LV:=[Z2,iV n]
  PF Try.f62 [Z2,iV n,Z3] g [.idx b,.idx b2,.idx c,.cells Z4,.ret bT g1,.cells Z5,.ret bT g2,.cells Z4,.ret Z6 g3,.idx l,.cells Z7,.val Z1,.num j,.offs q,.val bT,.cells Z4,.cells Z4,.cells Z4] =
  some (.tuple #[Z2,nS,iV 22],Z11,[],[.len g b,.len Z12 b2,.len Z13 c,.ldn Z14 b 0 3 Z4,.call 71 Z15 Z14 bT g1,.ldn g1 b2 0 2 Z5,.call 78 [Z3] g1 bT g2,.ldn g2 b 0 3 Z4,.call 80 Z15 g2 Z6 g3,.len g3 l,.st Z8 l 0 Z7 Z7,.ld1 Z9 b 0 Z1,.arith .sub .i64 n 1 j,.off q 0 j n1 6,.ld1 Z9 o (Nat.succ (Nat.succ q)) bT,.ldn Z9 b 0 3 Z4,.st Z9 c 0 Z4 Z4,.ldn Z11 c 0 3 Z4]):=by intros;kernel_rfl
theorem lv_none(a2 a3:OA)(n2 n3 z2 z3:Nat)(o n1 b b2 c l q:Nat)(n fk j k s:Int)(ft:ByteArray)(g g1 g2 g3:Hp) :
  let Z1:=sL o n1 6
  let Z2:V:=.agg #[Z1,.slice a2 n2 z2,.slice a3 n3 z3]
  let Z3:V:=.agg #[iV fk,.string ft]
  let Z4:LV:=[Z1,.slice a2 n2 z2,.slice a3 n3 z3]
  let Z5:LV:=[iV fk,.string ft]
  let Z6:V:=.agg #[iV k,iV s]
  let Z7:LV:=[iV k,iV s]
  let Z8:SH:=.push g3 (cS [iV 0,iV 0])
  let Z9:SH:=.set Z8 l (cS Z7)
  let Z10:AObj:=cS Z4
  let Z11:SH:=.set Z9 c Z10
  let Z12:SH:=.push g Z10
  let Z13:SH:=.push Z12 (cS Z5)
  let Z14:SH:=.push Z13 (cS [nS,nS,nS])
  let Z15:LV:=[Z2,iV n]
  PF Try.f62 [Z2,iV n,Z3] g [.idx b,.idx b2,.idx c,.cells Z4,.ret bT g1,.cells Z5,.ret bT g2,.cells Z4,.ret Z6 g3,.idx l,.cells Z7,.val Z1,.num j,.offs q,.val bF,.val (iV k),.bit true,.cells Z4,.cells Z4,.cells Z4] =
  some (.tuple #[Z2,nS,iV 22],Z11,[],[.len g b,.len Z12 b2,.len Z13 c,.ldn Z14 b 0 3 Z4,.call 71 Z15 Z14 bT g1,.ldn g1 b2 0 2 Z5,.call 78 [Z3] g1 bT g2,.ldn g2 b 0 3 Z4,.call 80 Z15 g2 Z6 g3,.len g3 l,.st Z8 l 0 Z7 Z7,.ld1 Z9 b 0 Z1,.arith .sub .i64 n 1 j,.off q 0 j n1 6,.ld1 Z9 o (Nat.succ (Nat.succ q)) bF,.ld1 Z9 l 0 (iV k),.cmp .neq k 2 true,.ldn Z9 b 0 3 Z4,.st Z9 c 0 Z4 Z4,.ldn Z11 c 0 3 Z4]):=by intros;kernel_rfl
theorem lv_pre(a2 a3:OA)(n2 n3 z2 z3:Nat)(o n1 p p2 p3 m b b2 c l q:Nat)(n fk j k s:Int)(ft:ByteArray)(g g1 g2 g3 g4:Hp) :
  let Z1:V:=.agg #[iV fk,.string ft]
  let Z2:=sL o n1 6
  let Z3:V:=.agg #[Z2,.slice a2 n2 z2,.slice a3 n3 z3]
  let Z4:LV:=[Z2,.slice a2 n2 z2,.slice a3 n3 z3]
  let Z5:LV:=[iV fk,.string ft]
  let Z6:V:=.agg #[iV k,iV s]
  let Z7:LV:=[iV k,iV s]
  let Z8:=sL p n1 6
  let Z9:=sL p2 m 6
  let Z10:=sL p3 n1 2
  let Z11:V:=.agg #[Z8,Z9,Z10]
  let Z12:LV:=[Z8,Z9,Z10]
  let Z13:=pT l 0
  let Z14:=pT b 0
  let Z15:SH:=.push g (cS Z4)
  let Z16:SH:=.push Z15 (cS Z5)
  let Z17:SH:=.push Z16 (cS [nS,nS,nS])
  let Z18:LV:=[Z3,iV n]
  let Z19:SH:=.push g3 (cS [iV 0,iV 0])
  let Z20:SH:=.set Z19 l (cS Z7)
  cutP [9,8,7,6,5,3,2,1,0] (PC 98 false (Go.Ev.chain [partC Try.f62 [0],partC Try.f62 [1,0],partC Try.f62 [1,1,0],partC Try.f62 [1,1,1,0],partC Try.f62 [1,1,1,1,0],partC Try.f62 [1,1,1,1,1,0]]) [(2,Z1),(1,iV n),(0,Z3)] g [.idx b,.idx b2,.idx c,.cells Z4,.ret bT g1,.cells Z5,.ret bT g2,.cells Z4,.ret Z6 g3,.idx l,.cells Z7,.val Z2,.num j,.offs q,.val bF,.val (iV k),.bit false,.cells Z4,.ret Z11 g4,.cells Z12]) =
  some (.normal,[(9,Z13),(8,iV 0),(7,nS),(6,pT c 0),(5,pT b2 0),(3,Z14),(2,Z1),(1,iV n),(0,Z3)],.set g4 b (cS Z12),[],[.len g b,.len Z15 b2,.len Z16 c,.ldn Z17 b 0 3 Z4,.call 71 Z18 Z17 bT g1,.ldn g1 b2 0 2 Z5,.call 78 [Z1] g1 bT g2,.ldn g2 b 0 3 Z4,.call 80 Z18 g2 Z6 g3,.len g3 l,.st Z19 l 0 Z7 Z7,.ld1 Z20 b 0 Z2,.arith .sub .i64 n 1 j,.off q 0 j n1 6,.ld1 Z20 o (Nat.succ (Nat.succ q)) bF,.ld1 Z20 l 0 (iV k),.cmp .neq k 2 false,.ldn Z20 b 0 3 Z4,.call 79 [Z3] Z20 Z11 g4,.st g4 b 0 Z12 Z12]):=by intros;kernel_rfl
theorem bl_no(o2 m b b2 c l q:Nat)(n fk j s yk:Int)(ft:ByteArray)(c1:LV)(g:Hp) :
  let Z1:=pT b2 0
  cutP [9,6,5,3,1] (PC 98 false (partC Try.f62 [1,1,1,1,1,1,0]) [(9,pT l 0),(6,pT c 0),(5,Z1),(3,pT b 0),(1,iV n)] g [.val (iV fk),.bit false]) =
  some (.normal,[(9,pT l 0),(6,pT c 0),(5,Z1),(3,pT b 0),(1,iV n)],.is g,[],[.ld1 g b2 0 (iV fk),.cmp .eql fk 1 false]):=by intros;kernel_rfl
theorem bl_had(o2 m b b2 c l q:Nat)(n fk j s yk:Int)(ft:ByteArray)(c1:LV)(g:Hp) :
  let Z1:=pT b2 0
  let Z2:=sL o2 m 6
  let Z3:=pT o2 (Nat.succ (Nat.succ (Nat.succ (Nat.succ q))))
  cutP [9,6,5,3,1] (PC 98 false (partC Try.f62 [1,1,1,1,1,1,0]) [(9,pT l 0),(6,pT c 0),(5,Z1),(3,pT b 0),(1,iV n)] g [.val (iV fk),.bit true,.val Z2,.val (iV s),.num j,.offs q,.val (iV yk),.bit false]) =
  some (.normal,[(9,pT l 0),(6,pT c 0),(5,Z1),(3,pT b 0),(1,iV n)],.is g,[],[.ld1 g b2 0 (iV fk),.cmp .eql fk 1 true,.ld1 g b 1 Z2,.ld1 g l 1 (iV s),.arith .sub .i64 s 1 j,.off q 0 j m 6,.ld1 g o2 (Nat.succ (Nat.succ (Nat.succ (Nat.succ q)))) (iV yk),.cmp .eql yk 0 false]):=by intros;kernel_rfl
theorem bl_go(o2 m b b2 c l q:Nat)(n fk j s yk:Int)(ft:ByteArray)(c1:LV)(g:Hp) :
  let Z1:=pT b2 0
  let Z2:=sL o2 m 6
  let Z3:LV:=[iV fk,.string ft]
  let Z4:=pT o2 (Nat.succ (Nat.succ (Nat.succ (Nat.succ q))))
  let Z5:=pT o2 q
  let Z6:=pT l 1
  let Z7:=pT b 1
  cutP [9,6,5,3,1] (PC 98 false (partC Try.f62 [1,1,1,1,1,1,0]) [(9,pT l 0),(6,pT c 0),(5,Z1),(3,pT b 0),(1,iV n)] g [.val (iV fk),.bit true,.val Z2,.val (iV s),.num j,.offs q,.val (iV yk),.bit true,.val Z2,.val (iV s),.num j,.cells Z3,.offs q,.cells c1]) =
  some (.normal,[(9,pT l 0),(6,pT c 0),(5,Z1),(3,pT b 0),(1,iV n)],.set g o2 (cS c1),[],[.ld1 g b2 0 (iV fk),.cmp .eql fk 1 true,.ld1 g b 1 Z2,.ld1 g l 1 (iV s),.arith .sub .i64 s 1 j,.off q 0 j m 6,.ld1 g o2 (Nat.succ (Nat.succ (Nat.succ (Nat.succ q)))) (iV yk),.cmp .eql yk 0 true,.ld1 g b 1 Z2,.ld1 g l 1 (iV s),.arith .sub .i64 s 1 j,.ldn g b2 0 2 Z3,.off q 0 j m 6,.st g o2 (Nat.succ (Nat.succ (Nat.succ (Nat.succ q)))) Z3 c1]):=by intros;kernel_rfl
theorem tl_over(o n1 o2 m o3 p p2 p3 b b2 c l d e z q q3:Nat)(n fk ft0 j s ow ek:Int)(ft et:ByteArray)(c1 c2:LV)(g g1 g2:Hp) :
  let Z1:=sL o n1 6
  let Z2:=sL o2 m 6
  let Z3:=sL o3 n1 2
  let Z4:LV:=[Z1,Z2,Z3]
  let Z5:LV:=[iV fk,.string ft]
  let Z6:=sL p n1 6
  let Z7:=sL p2 m 6
  let Z8:=sL p3 n1 2
  let Z9:V:=.agg #[Z6,Z7,Z8]
  let Z10:V:=.agg #[iV 3,iV ow,iV s,iV ek,.string et]
  let Z11:LV:=[Z6,Z7,Z8]
  let Z12:LV:=[iV 3,iV ow,iV s,iV ek,.string et]
  let Z13:=sL z 1 5
  let Z14:=pT e 0
  let Z15:V:=.tuple #[Z9,Z10]
  let Z16:V:=.agg #[iV fk,.string ft]
  let Z17:=pT l 1
  let Z18:V:=.agg #[Z1,Z2,Z3]
  let Z19:SH:=.push g2 (cS [nS,nS,nS])
  let Z20:SH:=.push Z19 (cS [iV 0,iV 0,iV 0,iV 0,.string eS])
  let Z21:AObj:=cS Z11
  let Z22:SH:=.set Z20 d Z21
  let Z23:AObj:=cS Z12
  let Z24:SH:=.set Z22 e Z23
  let Z25:SH:=.push Z24 Z23
  let Z26:SH:=.set Z25 c Z21
  PC 98 false (partC Try.f62 [1,1,1,1,1,1,1]) [(9,pT l 0),(6,pT c 0),(5,pT b2 0),(3,pT b 0),(1,iV n)] g [.cells Z4,.val (iV s),.ret bT g1,.cells Z4,.val (iV s),.cells Z5,.ret (.tuple #[Z9,Z10]) g2,.idx d,.idx e,.cells Z11,.cells Z12,.cells Z11,.cells Z12,.idx z,.cells Z11] =
  some (.ret,[(8,iV 0),(7,Z13),(76,Z13),(75,Z10),(74,Z9),(11,Z14),(10,pT d 0),(73,Z10),(72,Z9),(66,Z15),(71,Z15),(70,Z16),(69,iV s),(68,Z17),(67,Z18),(65,bT),(64,iV s),(63,Z17),(62,Z18),(9,pT l 0),(6,pT c 0),(5,pT b2 0),(3,pT b 0),(1,iV n)],Z26,[],[.ldn g b 0 3 Z4,.ld1 g l 1 (iV s),.call 81 [Z18,iV s] g bT g1,.ldn g1 b 0 3 Z4,.ld1 g1 l 1 (iV s),.ldn g1 b2 0 2 Z5,.call 82 [Z18,iV s,Z16] g1 Z15 g2,.len g2 d,.len Z19 e,.st Z20 d 0 Z11 Z11,.st Z22 e 0 Z12 Z12,.stat (drawN Try.f62 0),.again Z24 49 Z14 Z10,.again Z25 49 Z14 Z10,.again Z26 49 Z14 Z10,.kept Z24 Z25 Z26 Z12,.ldn Z24 d 0 3 Z11,.ldn Z24 e 0 5 Z12,.len Z24 z,.st Z25 c 0 Z11 Z11]):=by intros;kernel_rfl
theorem tl_0(o n1 o2 m o3 p p2 p3 b b2 c l d e z q q3:Nat)(n fk ft0 j s ow ek:Int)(ft et:ByteArray)(c1 c2:LV)(g g1 g2:Hp) :
  let Z1:=pT b2 0
  let Z2:=pT b 0
  let Z3:=sL o n1 6
  let Z4:=sL o2 m 6
  let Z5:=sL o3 n1 2
  let Z6:LV:=[Z3,Z4,Z5]
  let Z7:LV:=[iV fk,.string ft]
  let Z8:V:=.agg #[Z3,Z4,Z5]
  let Z9:SH:=.set g1 o (cS c1)
  let Z10:SH:=.set Z9 o3 (cS c2)
  cutP [8,7,9,6,5,3,1] (PC 98 false (partC Try.f62 [1,1,1,1,1,1,1]) [(9,pT l 0),(6,pT c 0),(5,Z1),(3,Z2),(1,iV n)] g [.cells Z6,.val (iV s),.ret bF g1,.val Z3,.num j,.offs q,.cells c1,.val Z5,.num j,.cells Z7,.offs q3,.cells c2,.val (iV fk),.bit true,.cells Z6,.cells Z6]) =
  some (.ret,[(8,iV 0),(7,nS),(9,pT l 0),(6,pT c 0),(5,Z1),(3,Z2),(1,iV n)],.set Z10 c (cS Z6),[],[.ldn g b 0 3 Z6,.ld1 g l 1 (iV s),.call 81 [Z8,iV s] g bF g1,.ld1 g1 b 0 Z3,.arith .sub .i64 n 1 j,.off q 0 j n1 6,.st g1 o (Nat.succ (Nat.succ q)) [bT] c1,.ld1 Z9 b 2 Z5,.arith .sub .i64 n 1 j,.ldn Z9 b2 0 2 Z7,.off q3 0 j n1 2,.st Z9 o3 q3 Z7 c2,.ld1 Z10 b2 0 (iV fk),.cmp .eql fk 0 true,.ldn Z10 b 0 3 Z6,.st Z10 c 0 Z6 Z6]):=by intros;kernel_rfl
theorem tl_1(o n1 o2 m o3 p p2 p3 b b2 c l d e z q q3:Nat)(n fk ft0 j s ow ek:Int)(ft et:ByteArray)(c1 c2:LV)(g g1 g2:Hp) :
  let Z1:=pT b2 0
  let Z2:=pT b 0
  let Z3:=sL o n1 6
  let Z4:=sL o2 m 6
  let Z5:=sL o3 n1 2
  let Z6:LV:=[Z3,Z4,Z5]
  let Z7:LV:=[iV fk,.string ft]
  let Z8:=sL z 1 5
  let Z9:LV:=[iV 1,iV s,iV 0,iV 0,.string eS]
  let Z10:=pT l 1
  let Z11:V:=.agg #[Z3,Z4,Z5]
  let Z12:SH:=.set g1 o (cS c1)
  let Z13:SH:=.set Z12 o3 (cS c2)
  let Z14:SH:=.push Z13 (cS Z9)
  let Z15:SH:=.set Z14 c (cS Z6)
  cutP [8,7,9,6,5,3,1] (PC 98 false (partC Try.f62 [1,1,1,1,1,1,1]) [(9,pT l 0),(6,pT c 0),(5,Z1),(3,Z2),(1,iV n)] g [.cells Z6,.val (iV s),.ret bF g1,.val Z3,.num j,.offs q,.cells c1,.val Z5,.num j,.cells Z7,.offs q3,.cells c2,.val (iV fk),.bit false,.cells Z6,.val (iV s),.idx z,.cells Z6]) =
  some (.ret,[(8,iV 0),(7,Z8),(9,pT l 0),(6,pT c 0),(5,Z1),(3,Z2),(1,iV n)],Z15,[],[.ldn g b 0 3 Z6,.ld1 g l 1 (iV s),.call 81 [Z11,iV s] g bF g1,.ld1 g1 b 0 Z3,.arith .sub .i64 n 1 j,.off q 0 j n1 6,.st g1 o (Nat.succ (Nat.succ q)) [bT] c1,.ld1 Z12 b 2 Z5,.arith .sub .i64 n 1 j,.ldn Z12 b2 0 2 Z7,.off q3 0 j n1 2,.st Z12 o3 q3 Z7 c2,.ld1 Z13 b2 0 (iV fk),.cmp .eql fk 0 false,.stat (drawN Try.f62 1),.again Z13 3 Z10 (iV s),.again Z14 3 Z10 (iV s),.again Z15 3 Z10 (iV s),.kept Z13 Z14 Z15 Z9,.ldn Z13 b 0 3 Z6,.ld1 Z13 l 1 (iV s),.len Z13 z,.st Z14 c 0 Z6 Z6]):=by intros;kernel_rfl
theorem en_open(a2 a3:OA)(n2 n3 z2 z3:Nat)(o n1 p p2 p3 m b b2 c q q1 y:Nat)(ao ay:OA)(no zo ny zy:Nat)(n fk j j1 s ow yk:Int)(su ov:Bool)(ft yt:ByteArray)(c1 c2:LV)(g g1 g2 g3:Hp) :
  let Z1:=sL o n1 6
  let Z2:V:=.agg #[Z1,.slice a2 n2 z2,.slice a3 n3 z3]
  let Z3:V:=.agg #[iV fk,.string ft]
  let Z4:LV:=[Z1,.slice a2 n2 z2,.slice a3 n3 z3]
  let Z5:LV:=[iV fk,.string ft]
  let Z6:AObj:=cS Z4
  let Z7:SH:=.set g2 c Z6
  let Z8:SH:=.push g Z6
  let Z9:SH:=.push Z8 (cS Z5)
  let Z10:SH:=.push Z9 (cS [nS,nS,nS])
  PF Try.f60 [Z2,iV n,Z3] g [.idx b,.idx b2,.idx c,.cells Z4,.ret bT g1,.cells Z5,.ret bT g2,.val Z1,.num j,.offs q,.val (.slice ao no zo),.bit true,.cells Z4,.cells Z4,.cells Z4] =
  some (.tuple #[Z2,nS,iV 22],Z7,[],[.len g b,.len Z8 b2,.len Z9 c,.ldn Z10 b 0 3 Z4,.call 71 [Z2,iV n] Z10 bT g1,.ldn g1 b2 0 2 Z5,.call 78 [Z3] g1 bT g2,.ld1 g2 b 0 Z1,.arith .sub .i64 n 1 j,.off q 0 j n1 6,.ld1 g2 o (Nat.succ (Nat.succ (Nat.succ (Nat.succ (Nat.succ q))))) (.slice ao no zo),.cmp .gtr (Int.ofNat no) 0 true,.ldn g2 b 0 3 Z4,.st g2 c 0 Z4 Z4,.ldn Z7 c 0 3 Z4]):=by intros;kernel_rfl
theorem en_root(ax:OA)(zx:Nat)(a2 a3:OA)(n2 n3 z2 z3:Nat)(o n1 p p2 p3 m b b2 c q q1 y:Nat)(ao ay:OA)(no zo ny zy:Nat)(n fk j j1 s ow yk:Int)(su ov:Bool)(ft yt:ByteArray)(c1 c2:LV)(g g1 g2 g3:Hp) :
  let Z1:=sL o n1 6
  let Z2:V:=.agg #[Z1,.slice a2 n2 z2,.slice a3 n3 z3]
  let Z3:V:=.agg #[iV fk,.string ft]
  let Z4:LV:=[Z1,.slice a2 n2 z2,.slice a3 n3 z3]
  let Z5:LV:=[iV fk,.string ft]
  let Z6:=sL p n1 6
  let Z7:=sL p3 n1 2
  let Z8:V:=.agg #[Z6,.slice ax m zx,Z7]
  let Z9:LV:=[Z6,.slice ax m zx,Z7]
  let Z10:AObj:=cS Z9
  let Z11:SH:=.set g3 b Z10
  let Z12:SH:=.set Z11 p (cS c1)
  let Z13:SH:=.set Z12 p (cS c2)
  let Z14:SH:=.set Z13 c Z10
  let Z15:SH:=.push g (cS Z4)
  let Z16:SH:=.push Z15 (cS Z5)
  let Z17:SH:=.push Z16 (cS [nS,nS,nS])
  PF Try.f60 [Z2,iV n,Z3] g [.idx b,.idx b2,.idx c,.cells Z4,.ret bT g1,.cells Z5,.ret bT g2,.val Z1,.num j,.offs q,.val (.slice ao no zo),.bit false,.cells Z4,.ret Z8 g3,.cells Z9,.val Z6,.num j,.offs q,.cells c1,.val Z6,.num j,.cells Z5,.offs q,.cells c2,.val Z6,.num j,.offs q,.val (iV s),.bit true,.cells Z9,.cells Z9,.cells Z9] =
  some (.tuple #[Z8,nS,iV 0],Z14,[],[.len g b,.len Z15 b2,.len Z16 c,.ldn Z17 b 0 3 Z4,.call 71 [Z2,iV n] Z17 bT g1,.ldn g1 b2 0 2 Z5,.call 78 [Z3] g1 bT g2,.ld1 g2 b 0 Z1,.arith .sub .i64 n 1 j,.off q 0 j n1 6,.ld1 g2 o (Nat.succ (Nat.succ (Nat.succ (Nat.succ (Nat.succ q))))) (.slice ao no zo),.cmp .gtr (Int.ofNat no) 0 false,.ldn g2 b 0 3 Z4,.call 79 [Z2] g2 Z8 g3,.st g3 b 0 Z9 Z9,.ld1 Z11 b 0 Z6,.arith .sub .i64 n 1 j,.off q 0 j n1 6,.st Z11 p (Nat.succ q) [bT] c1,.ld1 Z12 b 0 Z6,.arith .sub .i64 n 1 j,.ldn Z12 b2 0 2 Z5,.off q 0 j n1 6,.st Z12 p (Nat.succ (Nat.succ (Nat.succ q))) Z5 c2,.ld1 Z13 b 0 Z6,.arith .sub .i64 n 1 j,.off q 0 j n1 6,.ld1 Z13 p q (iV s),.cmp .eql s 0 true,.ldn Z13 b 0 3 Z9,.st Z13 c 0 Z9 Z9,.ldn Z14 c 0 3 Z9]):=by intros;kernel_rfl
theorem en_pre(a2 a3:OA)(n2 n3 z2 z3:Nat)(o n1 p p2 p3 m b b2 c q q1 y:Nat)(ao ay:OA)(no zo ny zy:Nat)(n fk j j1 s ow yk:Int)(su ov:Bool)(ft yt:ByteArray)(c1 c2:LV)(g g1 g2 g3:Hp) :
  let Z1:V:=.agg #[iV fk,.string ft]
  let Z2:=sL o n1 6
  let Z3:V:=.agg #[Z2,.slice a2 n2 z2,.slice a3 n3 z3]
  let Z4:LV:=[Z2,.slice a2 n2 z2,.slice a3 n3 z3]
  let Z5:LV:=[iV fk,.string ft]
  let Z6:=sL p n1 6
  let Z7:=sL p2 m 6
  let Z8:=sL p3 n1 2
  let Z9:V:=.agg #[Z6,Z7,Z8]
  let Z10:LV:=[Z6,Z7,Z8]
  let Z11:LV:=[iV ow,.bool su,.bool ov,.slice ay ny zy,iV yk,.string yt]
  let Z12:=pT p q
  let Z13:=pT b 0
  let Z14:SH:=.set g3 b (cS Z10)
  let Z15:SH:=.set Z14 p (cS c1)
  let Z16:SH:=.set Z15 p (cS c2)
  let Z17:SH:=.push Z16 (cS [iV 0,bF,bF,nS,iV 0,.string eS])
  let Z18:SH:=.push g (cS Z4)
  let Z19:SH:=.push Z18 (cS Z5)
  let Z20:SH:=.push Z19 (cS [nS,nS,nS])
  cutP [11,10,9,8,7,6,5,3,2,1,0] (PC 133 false (Go.Ev.chain [partC Try.f60 [0],partC Try.f60 [1,0],partC Try.f60 [1,1,0],partC Try.f60 [1,1,1,0],partC Try.f60 [1,1,1,1,0],partC Try.f60 [1,1,1,1,1,0],partC Try.f60 [1,1,1,1,1,1,0],partC Try.f60 [1,1,1,1,1,1,1,0],partC Try.f60 [1,1,1,1,1,1,1,1,0],partC Try.f60 [1,1,1,1,1,1,1,1,1,0],partC Try.f60 [1,1,1,1,1,1,1,1,1,1,0]]) [(2,Z1),(1,iV n),(0,Z3)] g [.idx b,.idx b2,.idx c,.cells Z4,.ret bT g1,.cells Z5,.ret bT g2,.val Z2,.num j,.offs q,.val (.slice ao no zo),.bit false,.cells Z4,.ret Z9 g3,.cells Z10,.val Z6,.num j,.offs q,.cells c1,.val Z6,.num j,.cells Z5,.offs q,.cells c2,.val Z6,.num j,.offs q,.val (iV s),.bit false,.val Z7,.num j1,.offs q1,.cells Z11,.idx y,.cells Z11]) =
  some (.normal,[(11,pT y 0),(10,nS),(9,iV s),(8,iV 0),(7,nS),(6,pT c 0),(5,pT b2 0),(3,Z13),(2,Z1),(1,iV n),(0,Z3)],.set Z17 y (cS Z11),[],[.len g b,.len Z18 b2,.len Z19 c,.ldn Z20 b 0 3 Z4,.call 71 [Z3,iV n] Z20 bT g1,.ldn g1 b2 0 2 Z5,.call 78 [Z1] g1 bT g2,.ld1 g2 b 0 Z2,.arith .sub .i64 n 1 j,.off q 0 j n1 6,.ld1 g2 o (Nat.succ (Nat.succ (Nat.succ (Nat.succ (Nat.succ q))))) (.slice ao no zo),.cmp .gtr (Int.ofNat no) 0 false,.ldn g2 b 0 3 Z4,.call 79 [Z3] g2 Z9 g3,.st g3 b 0 Z10 Z10,.ld1 Z14 b 0 Z6,.arith .sub .i64 n 1 j,.off q 0 j n1 6,.st Z14 p (Nat.succ q) [bT] c1,.ld1 Z15 b 0 Z6,.arith .sub .i64 n 1 j,.ldn Z15 b2 0 2 Z5,.off q 0 j n1 6,.st Z15 p (Nat.succ (Nat.succ (Nat.succ q))) Z5 c2,.ld1 Z16 b 0 Z6,.arith .sub .i64 n 1 j,.off q 0 j n1 6,.ld1 Z16 p q (iV s),.cmp .eql s 0 false,.ld1 Z16 b 1 Z7,.arith .sub .i64 s 1 j1,.off q1 0 j1 m 6,.ldn Z16 p2 q1 6 Z11,.len Z16 y,.st Z17 y 0 Z11 Z11]):=by intros;kernel_rfl
theorem be_no(o2 m b b2 c y q z w:Nat)(fk j s yk:Int)(ft:ByteArray)(c1:LV)(g:Hp) :
  let Z1:=pT b2 0
  cutP [11,10,9,6,5,3] (PC 133 false (partC Try.f60 [1,1,1,1,1,1,1,1,1,1,1,0]) [(11,pT y 0),(10,nS),(9,iV s),(6,pT c 0),(5,Z1),(3,pT b 0)] g [.val (iV fk),.bit false]) =
  some (.normal,[(11,pT y 0),(10,nS),(9,iV s),(6,pT c 0),(5,Z1),(3,pT b 0)],.is g,[],[.ld1 g b2 0 (iV fk),.cmp .eql fk 1 false]):=by intros;kernel_rfl
theorem be_su(o2 m b b2 c y q z w:Nat)(fk j s yk:Int)(ft:ByteArray)(c1:LV)(g:Hp) :
  let Z1:=pT b2 0
  cutP [11,10,9,6,5,3] (PC 133 false (partC Try.f60 [1,1,1,1,1,1,1,1,1,1,1,0]) [(11,pT y 0),(10,nS),(9,iV s),(6,pT c 0),(5,Z1),(3,pT b 0)] g [.val (iV fk),.bit true,.val bT]) =
  some (.normal,[(11,pT y 0),(10,nS),(9,iV s),(6,pT c 0),(5,Z1),(3,pT b 0)],.is g,[],[.ld1 g b2 0 (iV fk),.cmp .eql fk 1 true,.ld1 g y 1 bT]):=by intros;kernel_rfl
theorem be_had(o2 m b b2 c y q z w:Nat)(fk j s yk:Int)(ft:ByteArray)(c1:LV)(g:Hp) :
  let Z1:=pT b2 0
  let Z2:=pT y 4
  cutP [11,10,9,6,5,3] (PC 133 false (partC Try.f60 [1,1,1,1,1,1,1,1,1,1,1,0]) [(11,pT y 0),(10,nS),(9,iV s),(6,pT c 0),(5,Z1),(3,pT b 0)] g [.val (iV fk),.bit true,.val bF,.val (iV yk),.bit false]) =
  some (.normal,[(11,pT y 0),(10,nS),(9,iV s),(6,pT c 0),(5,Z1),(3,pT b 0)],.is g,[],[.ld1 g b2 0 (iV fk),.cmp .eql fk 1 true,.ld1 g y 1 bF,.ld1 g y 4 (iV yk),.cmp .eql yk 0 false]):=by intros;kernel_rfl
theorem be_go(o2 m b b2 c y q z w:Nat)(fk j s yk:Int)(ft:ByteArray)(c1:LV)(g:Hp) :
  let Z1:=pT b2 0
  let Z2:=sL o2 m 6
  let Z3:LV:=[iV fk,.string ft]
  let Z4:LV:=[iV 1,iV s,iV 0,iV 0,.string eS]
  let Z5:=sL w 1 5
  let Z6:LV:=[iV 1,iV s,iV 0,iV 0,.string eS]
  let Z7:=pT y 4
  let Z8:SH:=.set g o2 (cS c1)
  let Z9:AObj:=cS Z6
  let Z10:SH:=.push Z8 Z9
  cutP [10,11,9,6,5,3] (PC 133 false (partC Try.f60 [1,1,1,1,1,1,1,1,1,1,1,0]) [(11,pT y 0),(10,nS),(9,iV s),(6,pT c 0),(5,Z1),(3,pT b 0)] g [.val (iV fk),.bit true,.val bF,.val (iV yk),.bit true,.val Z2,.num j,.cells Z3,.offs q,.cells c1,.idx z,.app Z4 Z4 0 w]) =
  some (.normal,[(10,Z5),(11,pT y 0),(9,iV s),(6,pT c 0),(5,Z1),(3,pT b 0)],.push Z10 Z9,[],[.ld1 g b2 0 (iV fk),.cmp .eql fk 1 true,.ld1 g y 1 bF,.ld1 g y 4 (iV yk),.cmp .eql yk 0 true,.ld1 g b 1 Z2,.arith .sub .i64 s 1 j,.ldn g b2 0 2 Z3,.off q 0 j m 6,.st g o2 (Nat.succ (Nat.succ (Nat.succ (Nat.succ q)))) Z3 c1,.len Z8 z,.appNil Z10 z 0 1 0 5 48 Z6 w]):=by intros;kernel_rfl
theorem te_nolv(v:V)(o n1 o2 m o3 p p2 p3 b b2 c y d e z w w2 q q3:Nat)(j s ow k kn ek xk:Int)(et xt:ByteArray)(cs:LV)(g g1 g2 g3:Hp) :
  let Z1:=pT y 0
  let Z2:=pT b 0
  let Z3:=sL o n1 6
  let Z4:=sL o2 m 6
  let Z5:=sL o3 n1 2
  let Z6:LV:=[Z3,Z4,Z5]
  cutP [8,7,11,10,9,6,5,3] (PC 133 false (partC Try.f60 [1,1,1,1,1,1,1,1,1,1,1,1]) [(11,Z1),(10,v),(9,iV s),(6,pT c 0),(5,pT b2 0),(3,Z2)] g [.val Z3,.val (iV ow),.num j,.offs q,.val bF,.cells Z6,.cells Z6]) =
  some (.ret,[(8,iV 0),(7,v),(11,Z1),(10,v),(9,iV s),(6,pT c 0),(5,pT b2 0),(3,Z2)],.set g c (cS Z6),[],[.ld1 g b 0 Z3,.ld1 g y 0 (iV ow),.arith .sub .i64 ow 1 j,.off q 0 j n1 6,.ld1 g o (Nat.succ (Nat.succ q)) bF,.ldn g b 0 3 Z6,.st g c 0 Z6 Z6]):=by intros;kernel_rfl
theorem te_last(v:V)(o n1 o2 m o3 p p2 p3 b b2 c y d e z w w2 q q3:Nat)(j s ow k kn ek xk:Int)(et xt:ByteArray)(cs:LV)(g g1 g2 g3:Hp) :
  let Z1:=pT y 0
  let Z2:=pT b 0
  let Z3:=sL o n1 6
  let Z4:=sL o2 m 6
  let Z5:=sL o3 n1 2
  let Z6:LV:=[Z3,Z4,Z5]
  let Z7:V:=.agg #[iV k,iV kn]
  let Z8:V:=.agg #[Z3,Z4,Z5]
  cutP [8,7,11,10,9,6,5,3] (PC 133 false (partC Try.f60 [1,1,1,1,1,1,1,1,1,1,1,1]) [(11,Z1),(10,v),(9,iV s),(6,pT c 0),(5,pT b2 0),(3,Z2)] g [.val Z3,.val (iV ow),.num j,.offs q,.val bT,.cells Z6,.val (iV ow),.ret Z7 g1,.bit false,.cells Z6,.cells Z6]) =
  some (.ret,[(8,iV 0),(7,v),(11,Z1),(10,v),(9,iV s),(6,pT c 0),(5,pT b2 0),(3,Z2)],.set g1 c (cS Z6),[],[.ld1 g b 0 Z3,.ld1 g y 0 (iV ow),.arith .sub .i64 ow 1 j,.off q 0 j n1 6,.ld1 g o (Nat.succ (Nat.succ q)) bT,.ldn g b 0 3 Z6,.ld1 g y 0 (iV ow),.call 80 [Z8,iV ow] g Z7 g1,.cmp .eql kn s false,.ldn g1 b 0 3 Z6,.st g1 c 0 Z6 Z6]):=by intros;kernel_rfl
theorem te_busy(v:V)(o n1 o2 m o3 p p2 p3 b b2 c y d e z w w2 q q3:Nat)(j s ow k kn ek xk:Int)(et xt:ByteArray)(cs:LV)(g g1 g2 g3:Hp) :
  let Z1:=pT y 0
  let Z2:=pT b 0
  let Z3:=sL o n1 6
  let Z4:=sL o2 m 6
  let Z5:=sL o3 n1 2
  let Z6:LV:=[Z3,Z4,Z5]
  let Z7:V:=.agg #[iV k,iV kn]
  let Z8:V:=.agg #[Z3,Z4,Z5]
  cutP [8,7,11,10,9,6,5,3] (PC 133 false (partC Try.f60 [1,1,1,1,1,1,1,1,1,1,1,1]) [(11,Z1),(10,v),(9,iV s),(6,pT c 0),(5,pT b2 0),(3,Z2)] g [.val Z3,.val (iV ow),.num j,.offs q,.val bT,.cells Z6,.val (iV ow),.ret Z7 g1,.bit true,.cells Z6,.ret bF g2,.cells Z6,.cells Z6]) =
  some (.ret,[(8,iV 0),(7,v),(11,Z1),(10,v),(9,iV s),(6,pT c 0),(5,pT b2 0),(3,Z2)],.set g2 c (cS Z6),[],[.ld1 g b 0 Z3,.ld1 g y 0 (iV ow),.arith .sub .i64 ow 1 j,.off q 0 j n1 6,.ld1 g o (Nat.succ (Nat.succ q)) bT,.ldn g b 0 3 Z6,.ld1 g y 0 (iV ow),.call 80 [Z8,iV ow] g Z7 g1,.cmp .eql kn s true,.ldn g1 b 0 3 Z6,.call 81 [Z8,iV s] g1 bF g2,.ldn g2 b 0 3 Z6,.st g2 c 0 Z6 Z6]):=by intros;kernel_rfl
theorem te_ov0(v:V)(o n1 o2 m o3 p p2 p3 b b2 c y d e z w w2 q q3:Nat)(j s ow k kn ek xk:Int)(et xt:ByteArray)(cs:LV)(g g1 g2 g3:Hp) :
  let Z1:=pT y 0
  let Z2:=pT b 0
  let Z3:=sL o n1 6
  let Z4:=sL o2 m 6
  let Z5:=sL o3 n1 2
  let Z6:LV:=[Z3,Z4,Z5]
  let Z7:V:=.agg #[iV k,iV kn]
  let Z8:LV:=[iV xk,.string xt]
  let Z9:=sL p n1 6
  let Z10:=sL p2 m 6
  let Z11:=sL p3 n1 2
  let Z12:V:=.agg #[Z9,Z10,Z11]
  let Z13:V:=.agg #[iV 3,iV ow,iV s,iV ek,.string et]
  let Z14:LV:=[Z9,Z10,Z11]
  let Z15:LV:=[iV 3,iV ow,iV s,iV ek,.string et]
  let Z16:=sL w2 1 5
  let Z17:V:=.tuple #[Z12,Z13]
  let Z18:V:=.agg #[iV xk,.string xt]
  let Z19:V:=.agg #[Z3,Z4,Z5]
  let Z20:AObj:=cS Z14
  let Z21:SH:=.set g3 d Z20
  let Z22:AObj:=cS Z15
  let Z23:SH:=.set Z21 e Z22
  let Z24:SH:=.push Z23 Z22
  let Z25:SH:=.push Z24 Z22
  let Z26:LV:=[nS,nS,nS]
  let Z27:SH:=.push g2 (cS Z26)
  let Z28:LV:=[iV 0,iV 0,iV 0,iV 0,.string eS]
  let Z29:SH:=.push Z27 (cS Z28)
  cutP [8,7,10,13,12,11,9,6,5,3] (PC 133 false (partC Try.f60 [1,1,1,1,1,1,1,1,1,1,1,1]) [(11,Z1),(10,nS),(9,iV s),(6,pT c 0),(5,pT b2 0),(3,Z2)] g [.val Z3,.val (iV ow),.num j,.offs q,.val bT,.cells Z6,.val (iV ow),.ret Z7 g1,.bit true,.cells Z6,.ret bT g2,.cells Z6,.val Z5,.val (iV ow),.num j,.offs q3,.cells Z8,.idx d,.idx e,.ret (.tuple #[Z12,Z13]) g3,.cells Z14,.cells Z15,.cells Z15,.idx z,.app Z15 Z15 0 w2,.cells Z14,.cells Z14]) =
  some (.ret,[(8,iV 0),(7,Z16),(10,Z16),(13,pT e 0),(12,pT d 0),(11,Z1),(9,iV s),(6,pT c 0),(5,pT b2 0),(3,Z2)],.set Z25 c Z20,[],[.ld1 g b 0 Z3,.ld1 g y 0 (iV ow),.arith .sub .i64 ow 1 j,.off q 0 j n1 6,.ld1 g o (Nat.succ (Nat.succ q)) bT,.ldn g b 0 3 Z6,.ld1 g y 0 (iV ow),.call 80 [Z19,iV ow] g Z7 g1,.cmp .eql kn s true,.ldn g1 b 0 3 Z6,.call 81 [Z19,iV s] g1 bT g2,.stat (drawOps (drawN Try.f60 0)),.kept g2 Z29 g3 Z26,.kept Z27 Z29 g3 Z28,.ldn g2 b 0 3 Z6,.ld1 g2 b 2 Z5,.ld1 g2 y 0 (iV ow),.arith .sub .i64 ow 1 j,.off q3 0 j n1 2,.ldn g2 o3 q3 2 Z8,.len g2 d,.len Z27 e,.call 82 [Z19,iV s,Z18] Z29 Z17 g3,.st g3 d 0 Z14 Z14,.st Z21 e 0 Z15 Z15,.ldn Z23 e 0 5 Z15,.len Z23 z,.appNil Z24 z 0 1 0 5 48 Z15 w2,.ldn Z25 d 0 3 Z14,.st Z25 c 0 Z14 Z14]):=by intros;kernel_rfl
theorem te_ov1(v:V)(o n1 o2 m o3 p p2 p3 b b2 c y d e z w w2 q q3:Nat)(j s ow k kn ek xk:Int)(et xt:ByteArray)(cs:LV)(g g1 g2 g3:Hp) :
  let Z1:=pT y 0
  let Z2:=sL w 1 5
  let Z3:=pT b 0
  let Z4:=sL o n1 6
  let Z5:=sL o2 m 6
  let Z6:=sL o3 n1 2
  let Z7:LV:=[Z4,Z5,Z6]
  let Z8:V:=.agg #[iV k,iV kn]
  let Z9:LV:=[iV xk,.string xt]
  let Z10:=sL p n1 6
  let Z11:=sL p2 m 6
  let Z12:=sL p3 n1 2
  let Z13:V:=.agg #[Z10,Z11,Z12]
  let Z14:V:=.agg #[iV 3,iV ow,iV s,iV ek,.string et]
  let Z15:LV:=[Z10,Z11,Z12]
  let Z16:LV:=[iV 3,iV ow,iV s,iV ek,.string et]
  let Z17:=sL w2 2 5
  let Z18:V:=.tuple #[Z13,Z14]
  let Z19:V:=.agg #[iV xk,.string xt]
  let Z20:V:=.agg #[Z4,Z5,Z6]
  let Z21:AObj:=cS Z15
  let Z22:SH:=.set g3 d Z21
  let Z23:AObj:=cS Z16
  let Z24:SH:=.set Z22 e Z23
  let Z25:SH:=.push Z24 Z23
  let Z26:SH:=.push (.set Z25 w .dead) (cS cs)
  let Z27:LV:=[nS,nS,nS]
  let Z28:SH:=.push g2 (cS Z27)
  let Z29:LV:=[iV 0,iV 0,iV 0,iV 0,.string eS]
  let Z30:SH:=.push Z28 (cS Z29)
  cutP [8,7,10,13,12,11,9,6,5,3] (PC 133 false (partC Try.f60 [1,1,1,1,1,1,1,1,1,1,1,1]) [(11,Z1),(10,Z2),(9,iV s),(6,pT c 0),(5,pT b2 0),(3,Z3)] g [.val Z4,.val (iV ow),.num j,.offs q,.val bT,.cells Z7,.val (iV ow),.ret Z8 g1,.bit true,.cells Z7,.ret bT g2,.cells Z7,.val Z6,.val (iV ow),.num j,.offs q3,.cells Z9,.idx d,.idx e,.ret (.tuple #[Z13,Z14]) g3,.cells Z15,.cells Z16,.cells Z16,.idx z,.app cs Z16 0 w2,.cells Z15,.cells Z15]) =
  some (.ret,[(8,iV 0),(7,Z17),(10,Z17),(13,pT e 0),(12,pT d 0),(11,Z1),(9,iV s),(6,pT c 0),(5,pT b2 0),(3,Z3)],.set Z26 c Z21,[],[.ld1 g b 0 Z4,.ld1 g y 0 (iV ow),.arith .sub .i64 ow 1 j,.off q 0 j n1 6,.ld1 g o (Nat.succ (Nat.succ q)) bT,.ldn g b 0 3 Z7,.ld1 g y 0 (iV ow),.call 80 [Z20,iV ow] g Z8 g1,.cmp .eql kn s true,.ldn g1 b 0 3 Z7,.call 81 [Z20,iV s] g1 bT g2,.stat (drawOps (drawN Try.f60 0)),.kept g2 Z30 g3 Z27,.kept Z28 Z30 g3 Z29,.ldn g2 b 0 3 Z7,.ld1 g2 b 2 Z6,.ld1 g2 y 0 (iV ow),.arith .sub .i64 ow 1 j,.off q3 0 j n1 2,.ldn g2 o3 q3 2 Z9,.len g2 d,.len Z28 e,.call 82 [Z20,iV s,Z19] Z30 Z18 g3,.st g3 d 0 Z15 Z15,.st Z22 e 0 Z16 Z16,.ldn Z24 e 0 5 Z16,.len Z24 z,.app Z25 w 0 1 z 0 1 0 5 48 cs Z16 w2,.ldn Z26 d 0 3 Z15,.st Z26 c 0 Z15 Z15]):=by intros;kernel_rfl
end Go.Proofs.Ytahomnlkkafbjaa.q10p
namespace Go.Proofs.Ytahomnlkkafbjaa.rf
open Go Go.Ev Go.Proofs.Ytahomnlkkafbjaa.tr
theorem evResults_ctt{P:Program}{fn:Func}{E:Env}{h:Hp}{r s u n c:Nat}{t:TypeId}{l:List Value}{v w:Value}(hf:fn.results=#[.cell r t,.tmp s,.tmp u])(h1:Go.Ev.look E r=some (.pointer (some ⟨c,0,none⟩)))(ht:aggSize P t=some (some n))
  (hc:h[c]?=some (.cells l true)) (hl:l.length=n) (h2:Go.Ev.look E s=some v) (h3:Go.Ev.look E u=some w):evResults P fn E h=some (.tuple #[.agg l.toArray,v,w]):=by
 subst hl
 simp[evResults,hf,evResultL,evResult,h1,h2,h3,evLoad,cells_of hc,ht,Go.Ev.cut,ble_t]
section
variable {h g G:Hp} {σ σ':RLay} {t t':TS} {c k s:Nat}
structure LvS(h g:Hp)(σ:RLay)(t:TS)(R:List Value)(fk:Int)(ft:ByteArray)(l:Nat)(lc:List Value):Prop where
 grow:Grow h g
 at_:RAt g σ t
 lo:h.length+3<=l
 out:∀ q,q<h.length+3->¬ fpR σ q
 outl:¬ fpR σ l
 new:New h.length σ
 hR:rT σ t=R
 b:g[h.length]?=some (.cells R true)
 b2:g[h.length+1]?=some (.cells [iV fk,.string ft] true)
 c:g[h.length+2]?=some (.cells zz true)
 l:g[l]?=some (.cells lc true)
variable {R:List Value} {fk:Int} {ft:ByteArray} {l:Nat} {lc:List Value}
theorem LvS.put(L:LvS h g σ t R fk ft l lc){i:Nat}(hi:fpR σ i){cs:List Value}(a':RAt (g.set i (.cells cs true)) σ t')(e:rT σ t'=R):LvS h (g.set i (.cells cs true)) σ t' R fk ft l lc:=by
 have ne:∀ q,¬ fpR σ q->i≠q:=fun q hq e=>hq (e▸hi)
 obtain⟨r,hr⟩:=hi
 exact⟨Grow.set L.grow (L.new r i hr) _,a',L.lo,L.out,L.outl,L.new,e,gNq L.b (ne _ (L.out _ (by omega))),gNq L.b2 (ne _ (L.out _ (by omega))),gNq L.c (ne _ (L.out _ (by omega))),gNq L.l (ne _ L.outl)⟩
theorem LvS.go(L:LvS h g σ t R fk ft l lc)(K:Grow g G):LvS h G σ t R fk ft l lc :=
 ⟨Grow.trans L.grow K,L.at_.grow K,L.lo,L.out,L.outl,L.new,L.hR,K.get L.b,K.get L.b2,K.get L.c,K.get L.l⟩
theorem LvS.blame(L:LvS h g σ t R fk ft l lc){y:Sc}(hy:t.scs[s]?=some y){o:Nat}(ho:σ .ss=some o) :
  ∃ c1,(∀ (P:Program) (sh:SH),sh.den=g->(Asm.st sh o (s*6+4) [iV fk,.string ft] c1).holds P)/\LvS h (g.set o (.cells c1 true)) σ (t.upS s fun x=>{ x with fk:=fk,ft:=ft }) R fk ft l lc:=by
 obtain⟨c1,S1,a5⟩:=L.at_.wS (d:=4) (l:=[iV fk,.string ft]) (y':={ y with fk:=fk,ft:=ft }) ho hy (by simp) rfl rfl
 refine⟨c1,S1,L.put ⟨_,ho⟩ ?_ ?_⟩
 ·show RAtL _ _ _ _ _
  rw[upS_set _ hy]
  exact a5
 ·rw[<- L.hR,rT,rT,upS_len,upS_tks]
theorem acts_no{n:Int}(h:TS.rnB t n=false):t.runs n=(none,6):=by
 cases e:t.runs n with
 | mk o e2 =>
  cases o with
  | none=>rw[runs_none e]
  | some k=>rw[TS.rnB,e] at h;cases h
theorem blame_scs{y:Sc}(hy:t.scs[s]?=some y):∃ y1,(t.blame s fk ft).1.scs[s]?=some y1/\y1.ow=y.ow/\y1.live=y.live/\y1.tks=y.tks/\y1.su=y.su:=by
 simp only[TS.blame,hy]
 split
 ·exact⟨_,upS_at hy,rfl,rfl,rfl,rfl⟩
 ·exact⟨y,hy,rfl,rfl,rfl,rfl⟩
theorem blame_tks:(t.blame s fk ft).1.tks=t.tks:=by
 unfold TS.blame
 split
 ·split
  ·rfl
  ·rfl
 ·rfl
theorem rn_same(e:t'.tks=t.tks):t'.rn=t.rn:=by funext j;simp only[TS.rn,e]
theorem fin0_leave1{x:Tk}(hx:t.tks[k]?=some x):(t.leave1 k s fk ft).fin0 s k=((t.blame s fk ft).1).fin0 s k:=by
 simp only[TS.fin0,TS.leave1,TS.upT,TS.upS,List.modify_modify_eq]
 rfl
theorem leave_over{n:Int}{x:Tk}{y y1:Sc}(hr:t.runs n=(some k,0))(hv:faultB fk ft=true)(hx:t.tks[k]?=some x)(hl:x.lv=false)(hg:x.opn.getLast?=some (some s))(hy:t.scs[s]?=some y)(how:y.ow=k)
  (hy1:(t.blame s fk ft).1.scs[s]?=some y1) (how1:y1.ow=y.ow) (hlv1:y1.live=y.live) (h0:y.live<=0) :
  t.leave n fk ft=(((t.blame s fk ft).1).fin0 s k,[⟨3,((k+1:Nat):Int),((s+1:Nat):Int),(ovF fk ft y1).1,(ovF fk ft y1).2⟩],0):=by
 have q1:(t.blame s fk ft).1.tks[k]?=some x:=by rw[blame_tks];exact hx
 have q2:=upT_at (f:=fun x=>{ x with lv:=true }) q1
 have q3:=upT_at (f:=fun x=>{ x with fk:=fk,ft:=ft }) q2
 have hs:(t.leave1 k s fk ft).scs[s]?=some y1:=hy1
 have q4:(t.leave1 k s fk ft).tks[k]?=some { x with lv:=true,fk:=fk,ft:=ft }:=q3
 have hf:(t.leave1 k s fk ft).fin s=((t.leave1 k s fk ft).fin0 s k,[⟨3,((k+1:Nat):Int),((s+1:Nat):Int),(ovF fk ft y1).1,(ovF fk ft y1).2⟩]):=by
  simp only[TS.fin,hs,how1,how,q4,finB,hg,hlv1,h0,decide_true,Bool.and_self,if_true]
  rfl
 have hv':¬ faultB fk ft=false:=by rw[hv];simp
 simp only[TS.leave,hr,if_neg hv',hx,hl,hg,hy,hf]
 rw[fin0_leave1 hx]
 have:liveE s fk y=[]:=by
  simp only[liveE];rw[if_neg];omega
 rw[this,List.nil_append]
theorem leave_wait{n:Int}{x:Tk}{y y1:Sc}(hr:t.runs n=(some k,0))(hv:faultB fk ft=true)(hx:t.tks[k]?=some x)(hl:x.lv=false)(hg:x.opn.getLast?=some (some s))(hy:t.scs[s]?=some y)(how:y.ow=k)
  (hy1:(t.blame s fk ft).1.scs[s]?=some y1) (how1:y1.ow=y.ow) (hlv1:y1.live=y.live) (h0:0<y.live) :
  t.leave n fk ft=(t.leave1 k s fk ft,if fk=0 then [] else [⟨1,((s+1:Nat):Int),0,0,⟨#[]⟩⟩],0):=by
 have q1:(t.blame s fk ft).1.tks[k]?=some x:=by rw[blame_tks];exact hx
 have q2:=upT_at (f:=fun x=>{ x with lv:=true }) q1
 have q3:=upT_at (f:=fun x=>{ x with fk:=fk,ft:=ft }) q2
 have hs:(t.leave1 k s fk ft).scs[s]?=some y1:=hy1
 have q4:(t.leave1 k s fk ft).tks[k]?=some { x with lv:=true,fk:=fk,ft:=ft }:=q3
 have hn:¬ y.live<=0:=by omega
 have hf:(t.leave1 k s fk ft).fin s=(t.leave1 k s fk ft,[]):=by
  simp only[TS.fin,hs,how1,how,q4,finB,hlv1,decide_eq_false hn,Bool.and_false,Bool.false_eq_true,if_false]
 have hv':¬ faultB fk ft=false:=by rw[hv];simp
 simp only[TS.leave,hr,if_neg hv',hx,hl,hg,hy,hf,List.append_nil,liveE]
 by_cases e:fk=0
 ·simp[e]
 ·simp[e,h0]
abbrev lnk(s:Nat):List Value:=[iV 2,iV ((s+1:Nat):Int)]
noncomputable abbrev LB:Code:=partC Try.f62 [1,1,1,1,1,1,0]
noncomputable abbrev LT:Code:=partC Try.f62 [1,1,1,1,1,1,1]
theorem body62:Try.f62.body=some (chainT [partC Try.f62 [0],partC Try.f62 [1,0],partC Try.f62 [1,1,0],partC Try.f62 [1,1,1,0],partC Try.f62 [1,1,1,1,0],partC Try.f62 [1,1,1,1,1,0]] (.seq LB LT)):=by kernel_rfl
theorem aggTree:aggSize Try.prog 79=some (some 3):=by kernel_rfl
abbrev LE(h:Hp)(l:Nat)(n:Int):Env:=[(9,ptr l),(6,ptr (h.length+2)),(5,ptr (h.length+1)),(3,ptr h.length),(1,iV n)]
theorem leave_blame(ok:TOk c t)(L:LvS h g σ t R fk ft l (lnk s)){y:Sc}(hy:t.scs[s]?=some y){n:Int}{E:Env}(hE:EnvLe (LE h l n) E) :
  ∃ E1 g1,CRun Try.prog 98 false LB E g .normal E1 g1/\EnvLe (LE h l n) E1/\LvS h g1 σ (t.blame s fk ft).1 R fk ft l (lnk s):=by
 have n200:=ok.n200
 have hs:=gTq hy
 have back:∀ {A B:Env},EnvLe A B->Go.Ev.look A 9=some (ptr l)->Go.Ev.look A 6=some (ptr (h.length+2))->Go.Ev.look A 5=some (ptr (h.length+1))->Go.Ev.look A 3=some (ptr h.length)->Go.Ev.look A 1=some (iV n)->EnvLe (LE h l n) B:=fun e a1 a2 a3 a4 a5=>.trans (.add (.add (.add (.add (.add (.nil _) a5) a4) a3) a2) a1) e
 by_cases h1:fk=1
 ·obtain⟨o,ho⟩:=L.at_.ssO hy
  have hR1:R[1]?=some (.slice (some ⟨o,0,none⟩) t.scs.length 6):=by rw[<- L.hR,rT,ho];rfl
  have SB:(Asm.arith .sub .i64 ((s+1:Nat):Int) 1 (s:Int)).holds Try.prog:=subI (by omega) (by omega) (by omega)
  have OF:(Asm.off (s*6) 0 (s:Int) t.scs.length 6).holds Try.prog:=offI (q:=s) rfl hs (by omega)
  have LK:(Asm.ld1 (.is g) o (s*6+4) (iV y.fk)).holds Try.prog:=L.at_.ssC ho hy (d:=4) rfl (.refl _)
  by_cases h0:y.fk=0
  ·have bl:(t.blame s fk ft).1=t.upS s fun x=>{ x with fk:=fk,ft:=ft }:=by simp[TS.blame,hy,blameB,h1,h0]
   obtain⟨c1,S1,L1⟩:=L.blame hy ho
   obtain⟨E2,q1,q2⟩:=pvK 0 hE (q10p.bl_go o t.scs.length h.length (h.length+1) (h.length+2) l (s*6) n fk s ((s+1:Nat):Int) y.fk ft c1 g)
    ⟨aL L.b2 rfl,eqT h1,aL L.b hR1,aL L.l rfl,SB,OF,LK,eqT h0,aL L.b hR1,aL L.l rfl,SB,aN L.b2 (by simp) rfl,OF,S1 _ _ rfl,trivial⟩
   exact⟨E2,_,q2,back q1 rfl rfl rfl rfl rfl,by rw[bl];exact L1⟩
  ·have bl:(t.blame s fk ft).1=t:=by simp[TS.blame,hy,blameB,h0]
   obtain⟨E2,q1,q2⟩:=pvK 0 hE (q10p.bl_had o t.scs.length h.length (h.length+1) (h.length+2) l (s*6) n fk s ((s+1:Nat):Int) y.fk ft [] g)
    ⟨aL L.b2 rfl,eqT h1,aL L.b hR1,aL L.l rfl,SB,OF,LK,eqF h0,trivial⟩
   exact⟨E2,_,q2,back q1 rfl rfl rfl rfl rfl,by rw[bl];exact L⟩
 ·have bl:(t.blame s fk ft).1=t:=by simp[TS.blame,hy,blameB,h1]
  obtain⟨E2,q1,q2⟩:=pvK 0 hE (q10p.bl_no 0 0 h.length (h.length+1) (h.length+2) l 0 n fk 0 0 0 ft [] g) ⟨aL L.b2 rfl,eqF h1,trivial⟩
  exact⟨E2,_,q2,back q1 rfl rfl rfl rfl rfl,by rw[bl];exact L⟩
theorem stat62_0:(Asm.stat (drawN Try.f62 0)).holds Try.prog:=show statOk (drawN Try.f62 0)=true by kernel_rfl
theorem stat62_1:(Asm.stat (drawN Try.f62 1)).holds Try.prog:=show statOk (drawN Try.f62 1)=true by kernel_rfl
theorem agg3:aggSize Try.prog 3=some none:=by kernel_rfl
theorem a_kept{P:Program}{s s1 s2:SH}{cs:List Value}(h1:s1.den[s.den.length]?=some (.cells cs true))(h2:s2.den[s.den.length]?=some (.cells cs true))(hr:veqL cs cs=true):(Asm.kept s s1 s2 cs).holds P:=⟨own_of h1,own_of h2,hr⟩
theorem fin0_len:(t.fin0 s k).tks.length=t.tks.length:=by simp[TS.fin0,TS.upT,TS.upS]
theorem fin0_lenS:(t.fin0 s k).scs.length=t.scs.length:=by simp[TS.fin0,TS.upT,TS.upS]
theorem RAt.rT3(a:RAt h σ t)(h1:0<t.tks.length)(h2:0<t.scs.length):∃ p p2 p3,σ .ts=some p/\σ .ss=some p2/\σ .lf=some p3/\rT σ t=[.slice (some ⟨p,0,none⟩) t.tks.length 6,.slice (some ⟨p2,0,none⟩) t.scs.length 6,.slice (some ⟨p3,0,none⟩) t.tks.length 2]:=by
 obtain⟨p,e1⟩:=RAtL.tsO a (List.getElem?_eq_getElem h1)
 obtain⟨p2,e2⟩:=RAtL.ssO a (List.getElem?_eq_getElem h2)
 obtain⟨p3,e3⟩:=RAtL.lfO a (List.getElem?_eq_getElem h1)
 exact⟨p,p2,p3,e1,e2,e3,by rw[rT,e1,e2,e3];rfl⟩
theorem leave_tail0(ok:TOk c t)(hc:c<=100000)(L:LvS h g σ t R fk ft l (lnk s)){x:Tk}{y:Sc}(hy:t.scs[s]?=some y)(hx:t.tks[y.ow]?=some x)(hp:x.opn≠[])(hen:x.en=false)(h0:y.tks.countP t.rn=0){n:Int}{E:Env}(hE:EnvLe (LE h l n) E) :
  ∃ σ' E1 g1 v,CRun Try.prog 98 false LT E g .ret E1 g1/\evResults Try.prog Try.f62 E1 g1=some (.tuple #[.agg (rT σ' (t.fin0 s y.ow)).toArray,v,iV 0])/\Res h g1 σ' (t.fin0 s y.ow) /\
   EfR g1 h.length σ' v [⟨3,((y.ow+1:Nat):Int),((s+1:Nat):Int),(ovF fk ft y).1,(ovF fk ft y).2⟩]:=by
 have n64:=ok.n64
 have n200:=ok.n200
 have hs:=gTq hy
 have hj:=gTq hx
 have I:=idleR_run L.at_ ok (by omega) hy
 rw[decide_eq_true h0] at I
 have L1:=L.go (boxT g (rT σ t))
 obtain⟨σ2,g2,r2,N2⟩:=overR_run L1.at_ ok hc hy hx hp hen fk ft
 have K2:=N2.grow
 have gl:=K2.1
 rw[pL] at gl
 have d2:=K2.get L1.c
 have cb:=get_lt L.c
 obtain⟨o,o2,o3,w1,w2,w3,hR⟩:=RAt.rT3 L.at_ (by omega) (by omega)
 obtain⟨p,p2,p3,v1,v2,v3,hR2⟩:=RAt.rT3 N2.at_ (by rw[fin0_len];omega) (by rw[fin0_lenS];omega)
 rw[fin0_len,fin0_lenS] at hR2
 have hRR:=hR.symm.trans L.hR
 have Lb:=L.b
 have L1b:=L1.b
 have L1l:=L1.l
 rw[hR] at I r2 L1b L1l
 rw[<- hRR] at Lb L1b
 have L1b2:=L1.b2
 rw[hR] at L1b2
 rw[hR2] at r2
 obtain⟨f,hf⟩:∃ p:Int×ByteArray,p=ovF fk ft y:=⟨_,rfl⟩
 rw[<- hf] at r2 ⊢
 obtain⟨R2,hRR2⟩:∃ R2:List Value,R2=[.slice (some ⟨p,0,none⟩) t.tks.length 6,.slice (some ⟨p2,0,none⟩) t.scs.length 6,.slice (some ⟨p3,0,none⟩) t.tks.length 2]:=⟨_,rfl⟩
 have nf2:¬ fpR σ2 (h.length+2):=fun e=>by
  rcases N2.nxt _ e with e | e
  ·exact L.out _ (by omega) e
  ·rw[pL] at e;omega
 have nfd:∀ q,g2.length<=q->¬ fpR σ2 q:=fun q hq ⟨r,e⟩=>by have:=N2.at_.lt e;omega
 have new2:New h.length σ2:=fun r i e=>by
  rcases N2.nxt i ⟨r,e⟩ with⟨r',e'⟩ | e'
  ·exact L.new r' i e'
  ·have:=L.grow.1;rw[pL] at e';omega
 have K3:=Grow.trans L1.grow K2
 have x0:(((g2++[AObj.cells zz true])++[AObj.cells efZ true]).set g2.length (.cells R2 true))[g2.length+1]?=some (.cells efZ true):=gNq (gV _ (pL _ _)) (by omega)
 have y0:((g2++[AObj.cells zz true])++[AObj.cells efZ true])[g2.length]?=some (.cells zz true):=gP (gW _ _)
 have gd:((((g2++[AObj.cells zz true])++[AObj.cells efZ true]).set g2.length (.cells R2 true)).set (g2.length+1) (.cells (efV ((y.ow+1:Nat):Int) ((s+1:Nat):Int) f.1 f.2) true))[g2.length]?=some (.cells R2 true):=gNq (gE y0) (by omega)
 have ge:((((g2++[AObj.cells zz true])++[AObj.cells efZ true]).set g2.length (.cells R2 true)).set (g2.length+1) (.cells (efV ((y.ow+1:Nat):Int) ((s+1:Nat):Int) f.1 f.2) true))[g2.length+1]?=some (.cells (efV ((y.ow+1:Nat):Int) ((s+1:Nat):Int) f.1 f.2) true):=gE x0
 have gc:((((g2++[AObj.cells zz true])++[AObj.cells efZ true]).set g2.length (.cells R2 true)).set (g2.length+1) (.cells (efV ((y.ow+1:Nat):Int) ((s+1:Nat):Int) f.1 f.2) true))[h.length+2]?=some (.cells zz true):=gNq (gNq (gP (gP d2)) (by omega)) (by omega)
 obtain⟨G0,hG0⟩:∃ G,G=((((g2++[AObj.cells zz true])++[AObj.cells efZ true]).set g2.length (.cells R2 true)).set (g2.length+1) (.cells (efV ((y.ow+1:Nat):Int) ((s+1:Nat):Int) f.1 f.2) true)):=⟨_,rfl⟩
 have G0l:G0.length=g2.length+2:=by rw[hG0];simp
 have KG:Grow h G0:=by rw[hG0];exact Grow.set (Grow.set (Grow.push (Grow.push K3 _) _) (by have:=L.grow.1;omega) _) (by have:=L.grow.1;omega) _
 have A0:RAt G0 σ2 (t.fin0 s y.ow):=by rw[hG0];exact (((N2.at_.push _).push _).setN (nfd _ (Nat.le_refl _)) _).setN (nfd _ (by omega)) _
 have hz:(G0++[AObj.cells (efV ((y.ow+1:Nat):Int) ((s+1:Nat):Int) f.1 f.2) true])[g2.length+2]?=some (.cells (efV ((y.ow+1:Nat):Int) ((s+1:Nat):Int) f.1 f.2) true):=gV _ G0l
 rw[<- hG0] at gd ge gc
 have hgc:=gP (x:=.cells (efV ((y.ow+1:Nat):Int) ((s+1:Nat):Int) f.1 f.2) true) gc
 have hge:=gP (x:=.cells (efV ((y.ow+1:Nat):Int) ((s+1:Nat):Int) f.1 f.2) true) ge
 have hR2':(rT σ2 (t.fin0 s y.ow))=R2:=hR2.trans hRR2.symm
 have hres:(((G0++[AObj.cells (efV ((y.ow+1:Nat):Int) ((s+1:Nat):Int) f.1 f.2) true]).set (h.length+2) (.cells R2 true)))[h.length+2]?=some (.cells R2 true):=gE hgc
 have fin:Res h ((G0++[AObj.cells (efV ((y.ow+1:Nat):Int) ((s+1:Nat):Int) f.1 f.2) true]).set (h.length+2) (.cells R2 true)) σ2 (t.fin0 s y.ow):=⟨Grow.set (Grow.push KG _) (by omega) _,(A0.push _).setN nf2 _,new2⟩
 have efr:EfR ((G0++[AObj.cells (efV ((y.ow+1:Nat):Int) ((s+1:Nat):Int) f.1 f.2) true]).set (h.length+2) (.cells R2 true)) h.length σ2 (.slice (some ⟨g2.length+2,0,none⟩) 1 5) [⟨3,((y.ow+1:Nat):Int),((s+1:Nat):Int),f.1,f.2⟩] :=
  .inr ⟨by simp,g2.length+2,rfl,gNq hz (by omega),by omega,nfd _ (by omega)⟩
 have X:=q10p.tl_over o t.tks.length o2 t.scs.length o3 p p2 p3 h.length (h.length+1) (h.length+2) l g2.length (g2.length+1) (g2.length+2) 0 0 n fk 0 0 ((s+1:Nat):Int) ((y.ow+1:Nat):Int) f.1 ft f.2 [] [] g (g++[AObj.cells [.slice (some ⟨o,0,none⟩) t.tks.length 6,.slice (some ⟨o2,0,none⟩) t.scs.length 6,.slice (some ⟨o3,0,none⟩) t.tks.length 2] true]) g2
 rw[hG0] at gd ge gc hgc hge hres fin efr G0l
 subst hRR2
 obtain⟨E2,q1,q2⟩:=pvC 0 hE X
  ⟨aN Lb (by simp) rfl,aL L.l rfl,I,aN L1b (by simp) rfl,aL L1l rfl,aN L1b2 (by simp) rfl,r2,rfl,by simp[Asm.holds,SH.den],a_st y0 (by simp) rfl,a_st x0 (by simp) rfl,stat62_0,
   a_againN agg49 ge (by simp) rfl rfl,a_againN agg49 hge (by simp) rfl rfl,a_againN agg49 (gNq hge (by omega)) (by simp) rfl rfl,a_kept (gW _ _) (gNq (gW _ _) (by simp[SH.den];omega)) (veqL_refl rfl),aN gd (by simp) rfl,aN ge (by simp) rfl,G0l,a_st hgc (by simp) rfl,trivial⟩
 refine⟨σ2,E2,_,_,q2,?_,fin,efr⟩
 rw[hR2']
 exact evResults_ctt rfl (q1 _ _ rfl) aggTree hres rfl (q1 _ _ rfl) (q1 _ _ rfl)
end
end Go.Proofs.Ytahomnlkkafbjaa.rf
namespace Go.Proofs.Ytahomnlkkafbjaa.rf
open Go Go.Ev Go.Proofs.Ytahomnlkkafbjaa.tr
section
variable {h g G:Hp} {σ σ':RLay} {t t':TS} {c k s:Nat} {R:List Value} {fk:Int} {ft:ByteArray} {l:Nat} {lc:List Value}
theorem leave_tail1{t0:TS}(ok:TOk c t)(hc:c<=100000)(L:LvS h g σ t R fk ft l (lnk s))(ht:t=(t0.blame s fk ft).1){x:Tk}{y:Sc}(hy:t.scs[s]?=some y)(hx:t.tks[k]?=some x)(hen:x.en=false)(h0:y.tks.countP t.rn≠0){E:Env}(hE:EnvLe (LE h l ((k+1:Nat):Int)) E) :
  ∃ E1 g1 v,CRun Try.prog 98 false LT E g .ret E1 g1/\evResults Try.prog Try.f62 E1 g1=some (.tuple #[.agg (rT σ (t0.leave1 k s fk ft)).toArray,v,iV 0])/\Res h g1 σ (t0.leave1 k s fk ft) /\
   EfR g1 h.length σ v (if fk=0 then [] else [⟨1,((s+1:Nat):Int),0,0,⟨#[]⟩⟩]):=by
 have n64:=ok.n64
 have n200:=ok.n200
 have hs:=gTq hy
 have hj:=gTq hx
 have I:=idleR_run L.at_ ok (by omega) hy
 rw[decide_eq_false h0] at I
 have L1:=L.go (boxT g (rT σ t))
 have cb:=get_lt L.c
 obtain⟨o,o2,o3,w1,w2,w3,hR⟩:=RAt.rT3 L.at_ (by omega) (by omega)
 have hRR:=hR.symm.trans L.hR
 obtain⟨F,hF⟩:∃ F:Tk,F={ x with lv:=true,fk:=fk,ft:=ft }:=⟨_,rfl⟩
 obtain⟨c1,S1,a2⟩:=L1.at_.wT (d:=2) (l:=[.bool true]) (x':=F) w1 hx (by simp) (by rw[hF];simp[rk,TkV.C,tkV,hen]) ⟨[],by rw[hF];simp⟩
 obtain⟨c2,S2,a3⟩:=a2.wL (d:=0) (l:=[iV fk,.string ft]) (x':=F) w3 hx (by simp) (by rw[hF];simp[rl,lfK,lfT])
 have e1:(t0.leave1 k s fk ft).tks=t.tks.set k F:=by
  simp only[TS.leave1]
  have q2:=upT_at (f:=fun x=>{ x with lv:=true }) hx
  rw[<- ht,upT_set _ q2,upT_set _ hx,List.set_set,hF]
 have e2:(t0.leave1 k s fk ft).scs=t.scs:=by rw[ht];rfl
 have hT:rT σ (t0.leave1 k s fk ft)=rT σ t:=by rw[rT,rT,e1,e2,List.length_set]
 have ne:∀ q,¬ fpR σ q->o≠q/\o3≠q:=fun q hq=>⟨fun e=>hq ⟨_,e▸w1⟩,fun e=>hq ⟨_,e▸w3⟩⟩
 have Lb:=L.b
 have Ll:=L.l
 have Bb:=L1.b
 have Bb2:=L1.b2
 have Bc:=L1.c
 have Bl:=L1.l
 have ob:=ne _ (L.out h.length (by omega))
 have ob2:=ne _ (L.out (h.length+1) (by omega))
 have oc:=ne _ (L.out (h.length+2) (by omega))
 have ol:=ne _ L.outl
 rw[<- hRR] at Lb Bb
 rw[hR] at I Bb Bb2 Bc Bl S1 a3
 obtain⟨g1,hg1⟩:∃ g1,g1=g++[AObj.cells [.slice (some ⟨o,0,none⟩) t.tks.length 6,.slice (some ⟨o2,0,none⟩) t.scs.length 6,.slice (some ⟨o3,0,none⟩) t.tks.length 2] true]:=⟨_,rfl⟩
 have K1:Grow h g1:=by rw[hg1];exact Grow.push L.grow _
 rw[<- hg1] at I Bb Bb2 Bc Bl S1 a3
 have b1:(g1.set o (.cells c1 true))[h.length]?=some (.cells [.slice (some ⟨o,0,none⟩) t.tks.length 6,.slice (some ⟨o2,0,none⟩) t.scs.length 6,.slice (some ⟨o3,0,none⟩) t.tks.length 2] true):=gNq Bb ob.1
 have b21:(g1.set o (.cells c1 true))[h.length+1]?=some (.cells [iV fk,.string ft] true):=gNq Bb2 ob2.1
 have b2:((g1.set o (.cells c1 true)).set o3 (.cells c2 true))[h.length]?=some (.cells [.slice (some ⟨o,0,none⟩) t.tks.length 6,.slice (some ⟨o2,0,none⟩) t.scs.length 6,.slice (some ⟨o3,0,none⟩) t.tks.length 2] true):=gNq b1 ob.2
 have b22:((g1.set o (.cells c1 true)).set o3 (.cells c2 true))[h.length+1]?=some (.cells [iV fk,.string ft] true):=gNq b21 ob2.2
 have bc:((g1.set o (.cells c1 true)).set o3 (.cells c2 true))[h.length+2]?=some (.cells zz true):=gNq (gNq Bc oc.1) oc.2
 have bl:((g1.set o (.cells c1 true)).set o3 (.cells c2 true))[l]?=some (.cells (lnk s) true):=gNq (gNq Bl ol.1) ol.2
 have a4:RAt ((g1.set o (.cells c1 true)).set o3 (.cells c2 true)) σ (t0.leave1 k s fk ft):=by
  show RAtL _ _ _ _ _
  rw[e1,e2]
  exact a3
 have K4:Grow h ((g1.set o (.cells c1 true)).set o3 (.cells c2 true)):=Grow.set (Grow.set K1 (L.new _ _ w1) _) (L.new _ _ w3) _
 have SB:(Asm.arith .sub .i64 ((k+1:Nat):Int) 1 (k:Int)).holds Try.prog:=subI (by omega) (by omega) (by omega)
 have OF:(Asm.off (k*6) 0 (k:Int) t.tks.length 6).holds Try.prog:=offI (q:=k) rfl hj (by omega)
 have O2:(Asm.off (k*2) 0 (k:Int) t.tks.length 2).holds Try.prog:=offI (q:=k) rfl hj (by omega)
 by_cases h1:fk=0
 ·obtain⟨E2,q1,q2⟩:=pvK 0 hE (q10p.tl_0 o t.tks.length o2 t.scs.length o3 0 0 0 h.length (h.length+1) (h.length+2) l 0 0 0 (k*6) (k*2) ((k+1:Nat):Int) fk 0 k ((s+1:Nat):Int) 0 0 ft ⟨#[]⟩ c1 c2 g g1 g1)
   ⟨aN Lb (by simp) rfl,aL Ll rfl,I,aL Bb rfl,SB,OF,S1 _ _ rfl,aL b1 rfl,SB,aN b21 (by simp) rfl,O2,S2 _ _ (by rw[hg1,hR];rfl),aL b22 rfl,eqT h1,aN b2 (by simp) rfl,a_st bc (by simp) rfl,trivial⟩
  refine⟨E2,_,_,q2,?_,⟨Grow.set K4 (by omega) _,a4.setN (L.out _ (by omega)) _,L.new⟩,.inl ⟨by rw[if_pos h1],rfl⟩⟩
  rw[hT,hR]
  exact evResults_ctt rfl (q1 _ _ rfl) aggTree (gE bc) rfl (q1 _ _ rfl) (q1 _ _ rfl)
 ·obtain⟨G0,hG0⟩:∃ G,G=((g1.set o (.cells c1 true)).set o3 (.cells c2 true)):=⟨_,rfl⟩
  have hc':(((g1.set o (.cells c1 true)).set o3 (.cells c2 true))++[AObj.cells [iV 1,iV ((s+1:Nat):Int),iV 0,iV 0,.string ⟨#[]⟩] true])[h.length+2]?=some (.cells zz true):=gP bc
  have hl':=gP (x:=.cells [iV 1,iV ((s+1:Nat):Int),iV 0,iV 0,.string ⟨#[]⟩] true) bl
  have nz:h.length+2≠((g1.set o (.cells c1 true)).set o3 (.cells c2 true)).length:=by have:=get_lt bc;omega
  have nl:h.length+2≠l:=by have:=L.lo;omega
  have hz:((((g1.set o (.cells c1 true)).set o3 (.cells c2 true))++[AObj.cells [iV 1,iV ((s+1:Nat):Int),iV 0,iV 0,.string ⟨#[]⟩] true]))[((g1.set o (.cells c1 true)).set o3 (.cells c2 true)).length]?=some (.cells [iV 1,iV ((s+1:Nat):Int),iV 0,iV 0,.string ⟨#[]⟩] true):=gW _ _
  obtain⟨E2,q1,q2⟩:=pvK 0 hE (q10p.tl_1 o t.tks.length o2 t.scs.length o3 0 0 0 h.length (h.length+1) (h.length+2) l 0 0 ((g1.set o (.cells c1 true)).set o3 (.cells c2 true)).length (k*6) (k*2) ((k+1:Nat):Int) fk 0 k ((s+1:Nat):Int) 0 0 ft ⟨#[]⟩ c1 c2 g g1 g1)
   ⟨aN Lb (by simp) rfl,aL Ll rfl,I,aL Bb rfl,SB,OF,S1 _ _ rfl,aL b1 rfl,SB,aN b21 (by simp) rfl,O2,S2 _ _ (by rw[hg1,hR];rfl),aL b22 rfl,eqF h1,stat62_1,a_again1 agg3 bl rfl rfl,a_again1 agg3 hl' rfl rfl,a_again1 agg3 (gNq hl' nl) rfl rfl,a_kept hz (gNq hz nz) (veqL_refl rfl),aN b2 (by simp) rfl,aL bl rfl,rfl,a_st hc' (by simp) rfl,trivial⟩
  refine⟨E2,_,_,q2,?_,⟨Grow.set (Grow.push K4 _) (by omega) _,(a4.push _).setN (L.out _ (by omega)) _,L.new⟩,by rw[if_neg h1];exact .inr ⟨by simp,_,rfl,gNq hz nz,K4.1,fun⟨r,e⟩=>by have:=a4.lt e;omega⟩⟩
  rw[hT,hR]
  exact evResults_ctt rfl (q1 _ _ rfl) aggTree (gE hc') rfl (q1 _ _ rfl) (q1 _ _ rfl)
theorem enter3(a b d:Value):EnvLe [(2,d),(1,b),(0,a)] (enterE 0 [a,b,d]):=.add (.add (.add (.nil _) rfl) rfl) rfl
theorem lastK_2{l:List (Option Nat)}(h:lastK l=2):∃ s,l.getLast?=some (some s):=by
 cases hg:l.getLast? with
 | none=>rw[lastK,hg] at h;cases h
 | some v =>
  cases v with
  | none=>rw[lastK,hg] at h;cases h
  | some s=>exact⟨s,rfl⟩
theorem leaveR_run(a:RAt h σ t)(ok:TOk c t)(W:WI none t)(hc:c<=100000)(n fk:Int)(ft:ByteArray) :
  ∃ σ' h' v,Run Try.prog 62 [.agg (rT σ t).toArray,iV n,.agg #[iV fk,.string ft]] h (.tuple #[.agg (rT σ' (t.leave n fk ft).1).toArray,v,iV (t.leave n fk ft).2.2]) h'/\Nxt h σ h' σ' (t.leave n fk ft).1/\EfR h' h.length σ' v (t.leave n fk ft).2.1:=by
 have n64:=ok.n64
 have K:=box3 h (rT σ t) [iV fk,.string ft] zz
 obtain⟨g1,hg1⟩:∃ g1,g1=h++[AObj.cells (rT σ t) true]++[AObj.cells [iV fk,.string ft] true]++[AObj.cells zz true]++[AObj.cells (rT σ t) true]:=⟨_,rfl⟩
 have r1:=runsR_run (a.grow K) ok n
 rw[<- hg1] at r1
 have K1:Grow (h++[AObj.cells (rT σ t) true]++[AObj.cells [iV fk,.string ft] true]++[AObj.cells zz true]) g1:=by rw[hg1];exact boxT _ _
 have KK:=Grow.trans K K1
 have b0:=K1.get (box3_0 h (rT σ t) [iV fk,.string ft] zz)
 have b1:=K1.get (box3_1 h (rT σ t) [iV fk,.string ft] zz)
 have b2:=K1.get (box3_2 h (rT σ t) [iV fk,.string ft] zz)
 cases hb:TS.rnB t n with
 | false =>
  rw[hb] at r1
  have es:t.leave n fk ft=(t,[],6):=by simp only[TS.leave,acts_no hb]
  rw[es]
  exact⟨σ,_,_,pvF 0 Try.func62 (q10p.lv_no (sA (σ .ts)) (sA (σ .ss)) (sA (σ .lf)) t.tks.length t.scs.length t.tks.length (sZ (σ .ts) 6) (sZ (σ .ss) 6) (sZ (σ .lf) 2) h.length (h.length+1) (h.length+2) n fk ft h g1 g1)
   ⟨rfl,pL _ _,by simp[Asm.holds,SH.den],aN (box3_0 _ _ _ _) (by simp[rT]) rfl,r1,aN b0 (by simp[rT]) rfl,a_st b2 (by simp) rfl,aN (gE b2) (by simp) rfl,trivial⟩,Nxt.same a (Grow.set KK (by omega) _),.inl ⟨rfl,rfl⟩⟩
 | true =>
  rw[hb] at r1
  obtain⟨k,x,rfl,hx,he⟩:=rnB_true hb
  have hr:t.runs ((k+1:Nat):Int)=(some k,0):=by rw[runs_at hx,he];rfl
  have hk:=gTq hx
  have hne:0<t.tks.length:=by omega
  obtain⟨g2,hg2⟩:∃ g2,g2=g1++[AObj.cells [iV fk,.string ft] true]:=⟨_,rfl⟩
  have r2:=validR_run g1 fk ft
  rw[<- hg2] at r2
  have K2:Grow g1 g2:=by rw[hg2];exact boxT _ _
  have KG:=Grow.trans KK K2
  have d0:=K2.get b0
  have d1:=K2.get b1
  have d2:=K2.get b2
  cases hv:faultB fk ft with
  | false =>
   rw[hv] at r2
   have es:t.leave ((k+1:Nat):Int) fk ft=(t,[],2):=by simp only[TS.leave,hr,hv,if_true]
   rw[es]
   exact⟨σ,_,_,pvF 0 Try.func62 (q10p.lv_bad (sA (σ .ts)) (sA (σ .ss)) (sA (σ .lf)) t.tks.length t.scs.length t.tks.length (sZ (σ .ts) 6) (sZ (σ .ss) 6) (sZ (σ .lf) 2) h.length (h.length+1) (h.length+2) _ fk ft h g1 g2)
    ⟨rfl,pL _ _,by simp[Asm.holds,SH.den],aN (box3_0 _ _ _ _) (by simp[rT]) rfl,r1,aN b1 (by simp) rfl,r2,aN d0 (by simp[rT]) rfl,a_st d2 (by simp) rfl,aN (gE d2) (by simp) rfl,trivial⟩,Nxt.same a (Grow.set KG (by omega) _),.inl ⟨rfl,rfl⟩⟩
  | true =>
   rw[hv] at r2
   have hv':¬ faultB fk ft=false:=by rw[hv];simp
   obtain⟨o,ho⟩:=a.tsO hx
   have hR':rT σ t=rV (some o) (σ .ss) (σ .lf) t.tks.length t.scs.length:=by rw[rT,ho]
   obtain⟨g3,r3,K3⟩:=lastR_run (a.grow KG) ok (by omega) hx
   have gl3:h.length+3<=g3.length:=by have:=K3.1;have:=K2.1;have:=K1.1;rw[box3_len] at this;omega
   obtain⟨g3L,hg3⟩:∃ gL,gL=(g3++[AObj.cells [iV 0,iV 0] true]).set g3.length (.cells [iV (lastK x.opn),iV (lastN x.opn)] true):=⟨_,rfl⟩
   have K3L:Grow g3 g3L:=by rw[hg3];exact Grow.set (Grow.push (Grow.refl _) _) (Nat.le_refl _) _
   have K4:=Grow.trans (Grow.trans KG K3) K3L
   have e0:=K3L.get (K3.get d0)
   have e1:=K3L.get (K3.get d1)
   have e2:=K3L.get (K3.get d2)
   have l0:(g3++[AObj.cells [iV 0,iV 0] true])[g3.length]?=some (.cells [iV 0,iV 0] true):=gW _ _
   have el:g3L[g3.length]?=some (.cells [iV (lastK x.opn),iV (lastN x.opn)] true):=by rw[hg3];exact gE l0
   have len3:g3L.length=g3.length+1:=by rw[hg3];simp
   have SB:(Asm.arith .sub .i64 ((k+1:Nat):Int) 1 (k:Int)).holds Try.prog:=subI (by omega) (by omega) (by omega)
   have OF:(Asm.off (k*6) 0 (k:Int) t.tks.length 6).holds Try.prog:=offI (q:=k) rfl hk (by omega)
   have LV:∀ b,x.lv=b->(Asm.ld1 (.is g3L) o (k*6+2) (.bool b)).holds Try.prog:=fun b e=>a.tsC ho hx (d:=2) (by simp[rk,tkV,TkV.C,e]) K4
   rw[hg3] at LV e0 e1 e2 el
   by_cases hlv:x.lv=true
   ·have es:t.leave ((k+1:Nat):Int) fk ft=(t,[],22):=by simp only[TS.leave,hr,if_neg hv',hx,hlv]
    rw[es]
    rw[hR'] at r1 b0 d0 e0 r3
    rw[hg3] at K4
    exact⟨σ,_,_,by
     rw[hR']
     exact pvF 0 Try.func62 (q10p.lv_busy (sA (σ .ss)) (sA (σ .lf)) t.scs.length t.tks.length (sZ (σ .ss) 6) (sZ (σ .lf) 2) o t.tks.length h.length (h.length+1) (h.length+2) g3.length (k*6) _ fk k (lastK x.opn) (lastN x.opn) ft h g1 g2 g3)
      ⟨rfl,pL _ _,by simp[Asm.holds,SH.den],aN (box3_0 _ _ _ _) (by simp) rfl,r1,aN b1 (by simp) rfl,r2,aN d0 (by simp) rfl,r3,rfl,a_st l0 (by simp) rfl,aL e0 rfl,SB,OF,LV _ hlv,aN e0 (by simp) rfl,a_st e2 (by simp) rfl,aN (gE e2) (by simp) rfl,trivial⟩,Nxt.same a (Grow.set K4 (by omega) _),.inl ⟨rfl,rfl⟩⟩
   ·have hlv':x.lv=false:=by simpa using hlv
    by_cases h2:lastK x.opn=2
    ·obtain⟨s,hg⟩:=lastK_2 h2
     have hN:lastN x.opn=((s+1:Nat):Int):=by rw[lastN,hg];rfl
     have hmem:=List.mem_of_getLast? hg
     have hsl:=ok.opn k x s hx hmem
     obtain⟨y,hy⟩:∃ y,t.scs[s]?=some y:=⟨_,List.getElem?_eq_getElem hsl⟩
     have how:=W.ow1 k x s y hx hmem hy
     have hp:x.opn≠[]:=fun e=>by rw[e] at hg;cases hg
     rw[<- hg3] at e0 e1 e2 el
     obtain⟨p,p3,σ1,g4,hp1,hp3,r4,Kc,a4,N4⟩:=copied_run' (a.grow K4) ok (by omega) hne
     obtain⟨p2,hp2⟩:=a4.ssO hy
     rw[hp2] at r4
     rw[h2,hN] at r3 el hg3
     have f0:=Kc.get e0
     have nq:∀ q,q<g3L.length->¬ fpR σ1 q:=fun q hq=>N4.out hq
     have L:LvS h (g4.set h.length (.cells (rT σ1 t) true)) σ1 t (rT σ1 t) fk ft g3.length (lnk s) :=
      ⟨Grow.set (Grow.trans K4 Kc) (Nat.le_refl _) _,a4.setN (nq _ (by omega)) _,gl3,fun q hq=>nq q (by omega),nq _ (by omega),N4.mono (by omega),rfl,gE f0,gNq (Kc.get e1) (by omega),gNq (Kc.get e2) (by omega),gNq (Kc.get el) (by omega)⟩
     have hR4:rT σ1 t=rV (some p) (some p2) (some p3) t.tks.length t.scs.length:=by rw[rT,hp1,hp2,hp3]
     rw[hR'] at r1 b0 d0 e0 r3 r4 f0
     rw[h2,hN] at LV
     rw[hg3] at e0 el r4
     rw[hR4] at L
     obtain⟨E0,q1,q2⟩:=pvK 0 (enter3 (.agg (rV (some o) (σ .ss) (σ .lf) t.tks.length t.scs.length).toArray) (iV ((k+1:Nat):Int)) (.agg #[iV fk,.string ft]))
      (q10p.lv_pre (sA (σ .ss)) (sA (σ .lf)) t.scs.length t.tks.length (sZ (σ .ss) 6) (sZ (σ .lf) 2) o t.tks.length p p2 p3 t.scs.length h.length (h.length+1) (h.length+2) g3.length (k*6) ((k+1:Nat):Int) fk k 2 ((s+1:Nat):Int) ft h g1 g2 g3 g4)
      ⟨rfl,pL _ _,by simp[Asm.holds,SH.den],aN (box3_0 _ _ _ _) (by simp) rfl,r1,aN b1 (by simp) rfl,r2,aN d0 (by simp) rfl,r3,rfl,a_st l0 (by simp) rfl,aL e0 rfl,SB,OF,LV _ hlv',aL el rfl,neF rfl,aN e0 (by simp) rfl,r4,a_st f0 (by simp) rfl,trivial⟩
     have hE:EnvLe (LE h g3.length ((k+1:Nat):Int)) E0:=tR q1
     obtain⟨E1,gB,qB,hE1,LB'⟩:=leave_blame ok L hy hE
     obtain⟨y1,hy1,how1,hlv1,htk1,_⟩:=blame_scs (fk:=fk) (ft:=ft) hy
     have hx1:(t.blame s fk ft).1.tks[k]?=some x:=by rw[blame_tks];exact hx
     have hrn:(t.blame s fk ft).1.rn=t.rn:=rn_same blame_tks
     have okb:TOk c (t.blame s fk ft).1:=ok.blame
     have hlive:=W.live s y hy
     rw[hR']
     by_cases h0:y.tks.countP t.rn=0
     ·have es:=leave_over (ft:=ft) hr hv hx hlv' hg hy how hy1 how1 hlv1 (by omega)
      have hyo:y1.ow=k:=by rw[how1,how]
      obtain⟨σ',E2,gT,v,qT,hv2,res,ef⟩:=leave_tail0 okb hc LB' hy1 (by rw[hyo];exact hx1) hp he (by rw[htk1,hrn];exact h0) hE1
      rw[hyo] at hv2 res ef
      rw[es]
      exact⟨σ',gT,v,Run.code Try.func62 body62 (.inr rfl) (CRunChain q2 (.seq qB qT)) hv2,res.nxt,ef⟩
     ·have es:=leave_wait (ft:=ft) hr hv hx hlv' hg hy how hy1 how1 hlv1 (by omega)
      obtain⟨E2,gT,v,qT,hv2,res,ef⟩:=leave_tail1 okb hc LB' rfl hy1 hx1 he (by rw[htk1,hrn];exact h0) hE1
      rw[es]
      exact⟨σ1,gT,v,Run.code Try.func62 body62 (.inr rfl) (CRunChain q2 (.seq qB qT)) hv2,res.nxt,ef⟩
    ·have es:t.leave ((k+1:Nat):Int) fk ft=(t,[],22):=by
      simp only[TS.leave,hr,if_neg hv',hx,hlv']
      cases hg:x.opn.getLast? with
      | none=>rfl
      | some v =>
       cases v with
       | none=>rfl
       | some s=>exact absurd (by rw[lastK,hg];rfl) h2
     rw[es]
     rw[hR'] at r1 b0 d0 e0 r3
     rw[hg3] at K4
     exact⟨σ,_,_,by
      rw[hR']
      exact pvF 0 Try.func62 (q10p.lv_none (sA (σ .ss)) (sA (σ .lf)) t.scs.length t.tks.length (sZ (σ .ss) 6) (sZ (σ .lf) 2) o t.tks.length h.length (h.length+1) (h.length+2) g3.length (k*6) _ fk k (lastK x.opn) (lastN x.opn) ft h g1 g2 g3)
       ⟨rfl,pL _ _,by simp[Asm.holds,SH.den],aN (box3_0 _ _ _ _) (by simp) rfl,r1,aN b1 (by simp) rfl,r2,aN d0 (by simp) rfl,r3,rfl,a_st l0 (by simp) rfl,aL e0 rfl,SB,OF,LV _ hlv',aL el rfl,neT h2,aN e0 (by simp) rfl,a_st e2 (by simp) rfl,aN (gE e2) (by simp) rfl,trivial⟩,Nxt.same a (Grow.set K4 (by omega) _),.inl ⟨rfl,rfl⟩⟩
end
end Go.Proofs.Ytahomnlkkafbjaa.rf
namespace Go.Proofs.Ytahomnlkkafbjaa.rf
open Go Go.Ev Go.Proofs.Ytahomnlkkafbjaa.tr
section
variable {h g G:Hp} {σ σ':RLay} {t t':TS} {c k s:Nat} {R:List Value} {fk:Int} {ft:ByteArray} {l:Nat} {lc:List Value}
theorem RAtL.sayS{tks lfs:List Tk}{scs:List Sc}(a:RAtL h σ tks scs lfs){y y':Sc}(hy:scs[k]?=some y)(e:∀ v,(scV y').C v=(scV y).C v)(ht:y'.tks=y.tks):RAtL h σ tks (scs.set k y') lfs:=by
 have ef:fl (rs σ) 0 (scs.set k y')=fl (rs σ) 0 scs:=by
  have:=fl_put (f:=rs σ) (f':=rs σ) (i:=0) (rs_len σ) (vs:=[]) (d:=0) (x':=y') hy (by simp) (by simp[rs,e,ht]) (fun _ _ _ _=>rfl) []
  simpa using this.symm
 refine⟨⟨a.sh.ts,fun e2=>by rw[a.sh.ss e2];rfl,a.sh.lf,a.sh.op,fun j z hz e2=>?_,a.sh.otk,by rw[List.length_set];exact a.sh.osc⟩,a.inj,fun r i hr=>?_⟩
 ·rcases set_get hz with⟨rfl,rfl⟩ | ⟨_,hz⟩
  ·rw[ht];exact a.sh.st _ y hy e2
  ·exact a.sh.st j z hz e2
 ·obtain⟨junk,hj⟩:=a.obj r i hr
  refine⟨junk,?_⟩
  rw[hj]
  cases r with
  | ss=>simp only[rcontL];rw[ef]
  | ts=>rfl
  | lf=>rfl
  | op j=>rfl
  | st j =>
   by_cases e3:j=k
   ·subst e3
    simp only[rcontL]
    rw[List.getElem?_set_self (gTq hy),hy]
    simp only[ht]
   ·simp only[rcontL]
    rw[List.getElem?_set_ne (Ne.symm e3)]
theorem RAtL.lfN{tks lfs:List Tk}{scs:List Sc}(a:RAtL h σ tks scs lfs){o:Nat}(ho:σ .lf=some o){x:Tk}(hx:lfs[k]?=some x){P:Program}{s:SH}(hs:Grow h s.den):(Asm.ldn s o (k*2) 2 (rl k x)).holds P:=by
 obtain⟨junk,hj⟩:=a.obj _ _ ho
 have hr:=fl_room (f:=rl) (i:=0) rl_len hx junk
 refine aN (hs.get hj) (by simp only[rcontL];omega) ?_
 simp only[rcontL]
 have:=fl_part (f:=rl) (i:=0) rl_len hx (d:=0) (n:=2) (by omega) junk
 rw[Nat.add_zero,Nat.zero_add] at this
 rw[this]
 rfl
theorem EfR.grow{lo:Nat}{v:Value}{l:List Ef}(E:EfR g lo σ v l)(K:Grow g G):EfR G lo σ v l:=by
 rcases E with⟨h1,h2⟩ | ⟨h1,o,h2,h3,h4,h5⟩
 ·exact .inl ⟨h1,h2⟩
 ·exact .inr ⟨h1,o,h2,K.get h3,h4,h5⟩
theorem EfR.set{lo q:Nat}{v:Value}{l:List Ef}(E:EfR g lo σ v l)(hq:q<lo)(x:AObj):EfR (g.set q x) lo σ v l:=by
 rcases E with⟨h1,h2⟩ | ⟨h1,o,h2,h3,h4,h5⟩
 ·exact .inl ⟨h1,h2⟩
 ·exact .inr ⟨h1,o,h2,gNq h3 (by omega),h4,h5⟩
theorem EfR.lo{lo lo':Nat}{v:Value}{l:List Ef}(E:EfR g lo σ v l)(hq:lo'<=lo):EfR g lo' σ v l:=by
 rcases E with⟨h1,h2⟩ | ⟨h1,o,h2,h3,h4,h5⟩
 ·exact .inl ⟨h1,h2⟩
 ·exact .inr ⟨h1,o,h2,h3,by omega,h5⟩
theorem lastN_s{l:List (Option Nat)}:lastN l=((s+1:Nat):Int)↔l.getLast?=some (some s):=by
 unfold lastN
 cases hg:l.getLast? with
 | none=>simp;omega
 | some v =>
  cases v with
  | none=>simp[lkN];omega
  | some s'=>simp[lkN];omega
noncomputable abbrev EB:Code:=partC Try.f60 [1,1,1,1,1,1,1,1,1,1,1,0]
noncomputable abbrev ET:Code:=partC Try.f60 [1,1,1,1,1,1,1,1,1,1,1,1]
abbrev EE(h:Hp)(l:Nat)(v:Value)(s:Nat):Env:=[(11,ptr l),(10,v),(9,iV ((s+1:Nat):Int)),(6,ptr (h.length+2)),(5,ptr (h.length+1)),(3,ptr h.length)]
theorem stat60:(Asm.stat (drawOps (drawN Try.f60 0))).holds Try.prog:=show statOk (drawOps (drawN Try.f60 0))=true by kernel_rfl
theorem end_tail(ok:TOk c t)(W:WI (some s) t)(hc:c<=100000)(L:LvS h g σ t R fk ft l lc){y:Sc}{x:Tk}(hy:t.scs[s]?=some y)(hx:t.tks[y.ow]?=some x)(h0:lc[0]?=some (iV ((y.ow+1:Nat):Int)))
  {v:Value} {l0:List Ef} (ef:EfR g (h.length+3) σ v l0) (hl0:l0.length<=1) {E:Env} (hE:EnvLe (EE h l v s) E) :
  ∃ σ' E1 g1 v',CRun Try.prog 133 false ET E g .ret E1 g1/\evResults Try.prog Try.f60 E1 g1=some (.tuple #[.agg (rT σ' (t.fin s).1).toArray,v',iV 0])/\Res h g1 σ' (t.fin s).1/\EfR g1 h.length σ' v' (l0++(t.fin s).2):=by
 have n64:=ok.n64
 have n200:=ok.n200
 have hs:=gTq hy
 have hj:=gTq hx
 have hlive:=W.live s y hy
 obtain⟨o,o2,o3,w1,w2,w3,hR⟩:=RAt.rT3 L.at_ (by omega) (by omega)
 have hRR:=hR.symm.trans L.hR
 subst hRR
 have cb:=get_lt L.c
 have Lb:=L.b
 have SJ:(Asm.arith .sub .i64 ((y.ow+1:Nat):Int) 1 (y.ow:Int)).holds Try.prog:=subI (by omega) (by omega) (by omega)
 have OJ:(Asm.off (y.ow*6) 0 (y.ow:Int) t.tks.length 6).holds Try.prog:=offI (q:=y.ow) rfl hj (by omega)
 have O2:(Asm.off (y.ow*2) 0 (y.ow:Int) t.tks.length 2).holds Try.prog:=offI (q:=y.ow) rfl hj (by omega)
 have LV:∀ b,x.lv=b->(Asm.ld1 (.is g) o (y.ow*6+2) (.bool b)).holds Try.prog:=fun b e=>L.at_.tsC w1 hx (d:=2) (by simp[rk,tkV,TkV.C,e]) (.refl _)
 have nofin:finB s x y=false->t.fin s=(t,[]):=fun e=>by simp only[TS.fin,hy,hx,e,Bool.false_eq_true,if_false]
 cases hlv:x.lv with
 | false =>
  have ef0:=nofin (by simp[finB,hlv])
  rw[ef0,List.append_nil]
  obtain⟨E2,q1,q2⟩:=pvK 0 hE (q10p.te_nolv v o t.tks.length o2 t.scs.length o3 0 0 0 h.length (h.length+1) (h.length+2) l 0 0 0 0 0 (y.ow*6) 0 y.ow ((s+1:Nat):Int) ((y.ow+1:Nat):Int) 0 0 0 0 ⟨#[]⟩ ⟨#[]⟩ [] g g g g)
   ⟨aL Lb rfl,aL L.l h0,SJ,OJ,LV _ hlv,aN Lb (by simp) rfl,a_st L.c (by simp) rfl,trivial⟩
  refine⟨σ,E2,_,v,q2,?_,⟨Grow.set L.grow (by omega) _,L.at_.setN (L.out _ (by omega)) _,L.new⟩,(ef.set (by omega) _).lo (by omega)⟩
  rw[hR]
  exact evResults_ctt rfl (q1 _ _ rfl) aggTree (gE L.c) rfl (q1 _ _ rfl) (q1 _ _ rfl)
 | true =>
  obtain⟨hen,s2,y2,hg2,_,_⟩:=W.lv _ x hx hlv
  have hp:x.opn≠[]:=fun e=>by rw[e] at hg2;cases hg2
  obtain⟨g1,r1,K1⟩:=lastR_run L.at_ ok (by omega) hx
  rw[hR] at r1
  have L1:=L.go K1
  by_cases hl:x.opn.getLast?=some (some s)
  ·have hN:lastN x.opn=((s+1:Nat):Int):=lastN_s.2 hl
   have I:=idleR_run L1.at_ ok (by omega) hy
   obtain⟨g2,hg2⟩:∃ g2,g2=g1++[AObj.cells (rT σ t) true]:=⟨_,rfl⟩
   rw[<- hg2] at I
   have K2:Grow g1 g2:=by rw[hg2];exact boxT _ _
   have L2:=L1.go K2
   rw[hR] at I
   have len2:g2.length=g1.length+1:=by rw[hg2];simp
   have gl1:=K1.1
   by_cases hi:y.tks.countP t.rn=0
   ·rw[decide_eq_true hi] at I
    have K29:Grow g2 (g2++[AObj.cells zz true]++[AObj.cells efZ true]):=Grow.push (boxT _ _) _
    have L3:=L2.go K29
    obtain⟨σ',g3,r3,N3⟩:=overR_run L3.at_ ok hc hy hx hp hen x.fk x.ft
    have K3:=N3.grow
    have gl3:=K3.1
    have len29:(g2++[AObj.cells zz true]++[AObj.cells efZ true]).length=g2.length+2:=by simp
    rw[len29] at gl3
    have hfin:t.fin s=(t.fin0 s y.ow,[⟨3,((y.ow+1:Nat):Int),((s+1:Nat):Int),(ovF x.fk x.ft y).1,(ovF x.fk x.ft y).2⟩]):=by
     have:finB s x y=true:=by simp[finB,hlv,hl,hlive,hi]
     simp only[TS.fin,hy,hx,this,if_true]
     rfl
    rw[hfin]
    obtain⟨f,hf⟩:∃ p:Int×ByteArray,p=ovF x.fk x.ft y:=⟨_,rfl⟩
    rw[<- hf] at r3 ⊢
    obtain⟨p,p2,p3,v1,v2,v3,hR2⟩:=RAt.rT3 N3.at_ (by rw[fin0_len];omega) (by rw[fin0_lenS];omega)
    rw[fin0_len,fin0_lenS] at hR2
    rw[hR,hR2] at r3
    obtain⟨R2,hRR2⟩:∃ R2:List Value,R2=[.slice (some ⟨p,0,none⟩) t.tks.length 6,.slice (some ⟨p2,0,none⟩) t.scs.length 6,.slice (some ⟨p3,0,none⟩) t.tks.length 2]:=⟨_,rfl⟩
    obtain⟨EV,hEV⟩:∃ E,E=efV ((y.ow+1:Nat):Int) ((s+1:Nat):Int) f.1 f.2:=⟨_,rfl⟩
    have nf:∀ q,q<h.length+3->¬ fpR σ' q:=fun q hq e=>by
     rcases N3.nxt _ e with e | e
     ·exact L.out _ hq e
     ·rw[len29] at e;omega
    have nfd:∀ q,g3.length<=q->¬ fpR σ' q:=fun q hq ⟨r,e⟩=>by have:=N3.at_.lt e;omega
    have nfm:∀ q,g2.length<=q->q<g2.length+2->¬ fpR σ' q:=fun q hq hq2 e=>by
     rcases N3.nxt _ e with⟨r,e⟩ | e
     ·have:=L2.at_.lt e;omega
     ·rw[len29] at e;omega
    have new2:New h.length σ':=fun r i e=>by
     rcases N3.nxt i ⟨r,e⟩ with⟨r',e'⟩ | e'
     ·exact L.new r' i e'
     ·have:=L2.grow.1;rw[len29] at e';omega
    have z0:=K3.get (gP (x:=.cells efZ true) (gW g2 (.cells zz true)))
    have z1:=K3.get (gV (h:=g2++[AObj.cells zz true]) (.cells efZ true) (pL _ _))
    have zc:=K3.get L3.c
    have x1:(g3.set g2.length (.cells R2 true))[g2.length+1]?=some (.cells efZ true):=gNq z1 (by omega)
    obtain⟨G0,hG0⟩:∃ G,G=(g3.set g2.length (.cells R2 true)).set (g2.length+1) (.cells EV true):=⟨_,rfl⟩
    have G0l:G0.length=g3.length:=by rw[hG0];simp
    have gd:G0[g2.length]?=some (.cells R2 true):=by rw[hG0];exact gNq (gE z0) (by omega)
    have ge:G0[g2.length+1]?=some (.cells EV true):=by rw[hG0];exact gE x1
    have gc:G0[h.length+2]?=some (.cells zz true):=by rw[hG0];exact gNq (gNq zc (by omega)) (by omega)
    have KG:Grow h G0:=by rw[hG0];exact Grow.set (Grow.set (Grow.trans L3.grow K3) (by have:=L2.grow.1;omega) _) (by have:=L2.grow.1;omega) _
    have A0:RAt G0 σ' (t.fin0 s y.ow):=by rw[hG0];exact (N3.at_.setN (nfm _ (Nat.le_refl _) (by omega)) _).setN (nfm _ (by omega) (by omega)) _
    have LF:(Asm.ldn (.is g2) o3 (y.ow*2) 2 [iV x.fk,.string x.ft]).holds Try.prog:=by
     have:=L2.at_.lfN (P:=Try.prog) (s:=.is g2) w3 hx (.refl _)
     simpa[rl,lfK,lfT,hlv] using this
    have hR2':=hR2.trans hRR2.symm
    have hc1:=gP (x:=.cells EV true) gc
    have hd1:=gP (x:=.cells EV true) gd
    have hzn:(G0++[AObj.cells EV true])[g3.length]?=some (.cells EV true):=gV _ G0l
    rcases ef with⟨rfl,rfl⟩ | ⟨hne,w,rfl,hw,hwl,hwn⟩
    ·have hc2:=gP (x:=.cells EV true) hc1
     have hd2:=gP (x:=.cells EV true) hd1
     have hw2:(G0++[AObj.cells EV true]++[AObj.cells EV true])[g3.length+1]?=some (.cells EV true):=gV _ (by rw[pL,G0l])
     have fin:Res h ((G0++[AObj.cells EV true]++[AObj.cells EV true]).set (h.length+2) (.cells R2 true)) σ' (t.fin0 s y.ow):=⟨Grow.set (Grow.push (Grow.push KG _) _) (by omega) _,((A0.push _).push _).setN (nf _ (by omega)) _,new2⟩
     have efr:EfR ((G0++[AObj.cells EV true]++[AObj.cells EV true]).set (h.length+2) (.cells R2 true)) h.length σ' (.slice (some ⟨g3.length+1,0,none⟩) 1 5) [⟨3,((y.ow+1:Nat):Int),((s+1:Nat):Int),f.1,f.2⟩] :=
      .inr ⟨by simp,g3.length+1,rfl,by rw[hEV] at hw2 ⊢;exact gNq hw2 (by omega),by omega,nfd _ (by omega)⟩
     have hres:=gE (x:=.cells R2 true) hc2
     rw[hG0] at gd ge gc hc1 hd1 hc2 hd2 hw2 hres fin efr G0l hzn
     subst hRR2 hEV
     obtain⟨E2,q1,q2⟩:=pvK 0 hE (q10p.te_ov0 (.slice none 0 0) o t.tks.length o2 t.scs.length o3 p p2 p3 h.length (h.length+1) (h.length+2) l g2.length (g2.length+1) g3.length 0 (g3.length+1) (y.ow*6) (y.ow*2) y.ow ((s+1:Nat):Int) ((y.ow+1:Nat):Int) (lastK x.opn) (lastN x.opn) f.1 x.fk f.2 x.ft [] g g1 g2 g3)
      ⟨aL Lb rfl,aL L.l h0,SJ,OJ,LV _ hlv,aN Lb (by simp) rfl,aL L.l h0,r1,eqT hN,aN L1.b (by simp) rfl,I,stat60,a_kept (gP (gW _ _)) z0 (veqL_refl rfl),a_kept (gW _ _) (by rw[show SH.den (.push (.is g2) (.cells zz true))=g2++[AObj.cells zz true] from rfl,pL];exact z1) (veqL_refl rfl),aN L2.b (by simp) rfl,aL L2.b rfl,aL L2.l h0,SJ,O2,LF,rfl,pL _ _,r3,a_st z0 (by simp) rfl,a_st x1 (by simp) rfl,aN ge (by simp) rfl,G0l,a_appGN rfl rfl (by omega) hzn (by simp[SH.den]),aN hd2 (by simp) rfl,a_st hc2 (by simp) rfl,trivial⟩
     refine⟨σ',E2,_,_,q2,?_,fin,efr⟩
     rw[hR2']
     exact evResults_ctt rfl (q1 _ _ rfl) aggTree hres rfl (q1 _ _ rfl) (q1 _ _ rfl)
    ·obtain⟨e1,rfl⟩:∃ e1,l0=[e1]:=by
      cases l0 with
      | nil=>exact absurd rfl hne
      | cons e1 l =>
       cases l with
       | nil=>exact⟨e1,rfl⟩
       | cons _ _=>simp at hl0
     have hwg:=get_lt hw
     have KW:Grow g g3:=Grow.trans (Grow.trans (Grow.trans K1 K2) K29) K3
     have w3':G0[w]?=some (.cells (efC [e1]) true):=by rw[hG0];exact gNq (gNq (KW.get hw) (by omega)) (by omega)
     have wn3:¬ fpR σ' w:=fun e=>by
      rcases N3.nxt _ e with e | e
      ·exact hwn e
      ·rw[len29] at e;omega
     have w4:=gP (x:=.cells EV true) w3'
     have hc2:=gP (x:=.cells (efC [e1]++EV) true) (gNq (x:=.dead) hc1 (show w≠h.length+2 by omega))
     have hd2:=gP (x:=.cells (efC [e1]++EV) true) (gNq (x:=.dead) hd1 (show w≠g2.length by omega))
     have hw2:((G0++[AObj.cells EV true]).set w .dead++[AObj.cells (efC [e1]++EV) true])[g3.length+1]?=some (.cells (efC [e1]++EV) true):=gV _ (by rw[sN,pL,G0l])
     have AP:(Asm.app (.push (.set (.set (.is g3) g2.length (.cells R2 true)) (g2.length+1) (.cells EV true)) (.cells EV true)) w 0 1 g3.length 0 1 0 5 48 (efC [e1]++EV) EV (g3.length+1)).holds Try.prog :=
      a_appSJ (m:=0) (junk:=[]) (junk2:=[]) (by rw[List.append_nil];rw[hG0] at w4;exact w4) rfl (by rw[List.append_nil];rw[hG0] at hzn;exact hzn) (by rw[hEV];rfl) (by rw[hEV];rfl) (by omega) (by omega) (by omega) (by simp[SH.den])
     have fin:Res h (((G0++[AObj.cells EV true]).set w .dead++[AObj.cells (efC [e1]++EV) true]).set (h.length+2) (.cells R2 true)) σ' (t.fin0 s y.ow):=⟨Grow.set (Grow.push (Grow.set (Grow.push KG _) (by omega) _) _) (by omega) _,(((A0.push _).setN wn3 _).push _).setN (nf _ (by omega)) _,new2⟩
     have efr:EfR (((G0++[AObj.cells EV true]).set w .dead++[AObj.cells (efC [e1]++EV) true]).set (h.length+2) (.cells R2 true)) h.length σ' (.slice (some ⟨g3.length+1,0,none⟩) 2 5) ([e1]++[⟨3,((y.ow+1:Nat):Int),((s+1:Nat):Int),f.1,f.2⟩]) :=
      .inr ⟨by simp,g3.length+1,rfl,by rw[efC_app,show efC [⟨3,((y.ow+1:Nat):Int),((s+1:Nat):Int),f.1,f.2⟩]=EV by rw[hEV];rfl];exact gNq hw2 (by omega),by omega,nfd _ (by omega)⟩
     have hres:=gE (x:=.cells R2 true) hc2
     rw[hG0] at gd ge gc hc1 hd1 hc2 hd2 hw2 hres fin efr G0l
     subst hRR2 hEV
     obtain⟨E2,q1,q2⟩:=pvK 0 hE (q10p.te_ov1 (.slice none 0 0) o t.tks.length o2 t.scs.length o3 p p2 p3 h.length (h.length+1) (h.length+2) l g2.length (g2.length+1) g3.length w (g3.length+1) (y.ow*6) (y.ow*2) y.ow ((s+1:Nat):Int) ((y.ow+1:Nat):Int) (lastK x.opn) (lastN x.opn) f.1 x.fk f.2 x.ft (efC [e1]++efV ((y.ow+1:Nat):Int) ((s+1:Nat):Int) f.1 f.2) g g1 g2 g3)
      ⟨aL Lb rfl,aL L.l h0,SJ,OJ,LV _ hlv,aN Lb (by simp) rfl,aL L.l h0,r1,eqT hN,aN L1.b (by simp) rfl,I,stat60,a_kept (gP (gW _ _)) z0 (veqL_refl rfl),a_kept (gW _ _) (by rw[show SH.den (.push (.is g2) (.cells zz true))=g2++[AObj.cells zz true] from rfl,pL];exact z1) (veqL_refl rfl),aN L2.b (by simp) rfl,aL L2.b rfl,aL L2.l h0,SJ,O2,LF,rfl,pL _ _,r3,a_st z0 (by simp) rfl,a_st x1 (by simp) rfl,aN ge (by simp) rfl,G0l,AP,aN hd2 (by simp) rfl,a_st hc2 (by simp) rfl,trivial⟩
     refine⟨σ',E2,_,_,q2,?_,fin,efr⟩
     rw[hR2']
     exact evResults_ctt rfl (q1 _ _ rfl) aggTree hres rfl (q1 _ _ rfl) (q1 _ _ rfl)
   ·rw[decide_eq_false hi] at I
    have ef0:=nofin (by simp only[finB,decide_eq_false (show ¬ y.live<=0 by omega),Bool.and_false])
    rw[ef0,List.append_nil]
    obtain⟨E2,q1,q2⟩:=pvK 0 hE (q10p.te_busy v o t.tks.length o2 t.scs.length o3 0 0 0 h.length (h.length+1) (h.length+2) l 0 0 0 0 0 (y.ow*6) 0 y.ow ((s+1:Nat):Int) ((y.ow+1:Nat):Int) (lastK x.opn) (lastN x.opn) 0 0 ⟨#[]⟩ ⟨#[]⟩ [] g g1 g2 g)
     ⟨aL Lb rfl,aL L.l h0,SJ,OJ,LV _ hlv,aN Lb (by simp) rfl,aL L.l h0,r1,eqT hN,aN L1.b (by simp) rfl,I,aN L2.b (by simp) rfl,a_st L2.c (by simp) rfl,trivial⟩
    refine⟨σ,E2,_,v,q2,?_,⟨Grow.set L2.grow (by omega) _,L2.at_.setN (L.out _ (by omega)) _,L.new⟩,((ef.grow (Grow.trans K1 K2)).set (by omega) _).lo (by omega)⟩
    rw[hR]
    exact evResults_ctt rfl (q1 _ _ rfl) aggTree (gE L2.c) rfl (q1 _ _ rfl) (q1 _ _ rfl)
  ·have ef0:=nofin (by simp[finB,hl])
   rw[ef0,List.append_nil]
   obtain⟨E2,q1,q2⟩:=pvK 0 hE (q10p.te_last v o t.tks.length o2 t.scs.length o3 0 0 0 h.length (h.length+1) (h.length+2) l 0 0 0 0 0 (y.ow*6) 0 y.ow ((s+1:Nat):Int) ((y.ow+1:Nat):Int) (lastK x.opn) (lastN x.opn) 0 0 ⟨#[]⟩ ⟨#[]⟩ [] g g1 g g)
    ⟨aL Lb rfl,aL L.l h0,SJ,OJ,LV _ hlv,aN Lb (by simp) rfl,aL L.l h0,r1,eqF (fun e=>hl (lastN_s.1 e)),aN L1.b (by simp) rfl,a_st L1.c (by simp) rfl,trivial⟩
   refine⟨σ,E2,_,v,q2,?_,⟨Grow.set L1.grow (by omega) _,L1.at_.setN (L.out _ (by omega)) _,L.new⟩,((ef.grow K1).set (by omega) _).lo (by omega)⟩
   rw[hR]
   exact evResults_ctt rfl (q1 _ _ rfl) aggTree (gE L1.c) rfl (q1 _ _ rfl) (q1 _ _ rfl)
end
end Go.Proofs.Ytahomnlkkafbjaa.rf
namespace Go.Proofs.Ytahomnlkkafbjaa.rf
open Go Go.Ev Go.Proofs.Ytahomnlkkafbjaa.tr
section
variable {h g G:Hp} {σ σ':RLay} {t t':TS} {c k s:Nat} {R:List Value} {fk:Int} {ft:ByteArray} {l:Nat} {lc:List Value}
theorem body60:Try.f60.body=some (chainT [partC Try.f60 [0],partC Try.f60 [1,0],partC Try.f60 [1,1,0],partC Try.f60 [1,1,1,0],partC Try.f60 [1,1,1,1,0],partC Try.f60 [1,1,1,1,1,0],partC Try.f60 [1,1,1,1,1,1,0],partC Try.f60 [1,1,1,1,1,1,1,0],partC Try.f60 [1,1,1,1,1,1,1,1,0],partC Try.f60 [1,1,1,1,1,1,1,1,1,0],partC Try.f60 [1,1,1,1,1,1,1,1,1,1,0]] (.seq EB ET)):=by kernel_rfl
abbrev scR(y:Sc)(v:Value):List Value:=[iV ((y.ow+1:Nat):Int),.bool y.su,.bool y.ov,v,iV y.fk,.string y.ft]
def end3'(t2:TS)(s:Nat)(y:Sc)(fk:Int)(ft:ByteArray):TS×Bool:=if y.su then (t2,false) else t2.blame s fk ft
theorem end_blame(ok:TOk c t)(hc:c<=100000)(L:LvS h g σ t R fk ft l lc){y:Sc}(hy:t.scs[s]?=some y){sv:Value}(hlc:lc=scR y sv){E:Env}(hE:EnvLe (EE h l (.slice none 0 0) s) E) :
  ∃ E1 g1 v,CRun Try.prog 133 false EB E g .normal E1 g1/\EnvLe (EE h l v s) E1/\LvS h g1 σ (end3' t s y fk ft).1 R fk ft l lc/\EfR g1 (h.length+3) σ v (saidE s (end3' t s y fk ft).2):=by
 subst hlc
 have n200:=ok.n200
 have hs:=gTq hy
 have back:∀ {A B:Env} {v:Value},EnvLe A B->Go.Ev.look A 11=some (ptr l)->Go.Ev.look A 10=some v->Go.Ev.look A 9=some (iV ((s+1:Nat):Int))->Go.Ev.look A 6=some (ptr (h.length+2))->Go.Ev.look A 5=some (ptr (h.length+1))->Go.Ev.look A 3=some (ptr h.length)->EnvLe (EE h l v s) B:=fun e a1 a2 a3 a4 a5 a6=>.trans (.add (.add (.add (.add (.add (.add (.nil _) a6) a5) a4) a3) a2) a1) e
 have same:(end3' t s y fk ft)=(t,false)->∀ {E2:Env},CRun Try.prog 133 false EB E g .normal E2 g->EnvLe (EE h l (.slice none 0 0) s) E2->∃ E1 g1 v,CRun Try.prog 133 false EB E g .normal E1 g1/\EnvLe (EE h l v s) E1/\LvS h g1 σ (end3' t s y fk ft).1 R fk ft l (scR y sv)/\EfR g1 (h.length+3) σ v (saidE s (end3' t s y fk ft).2):=fun e E2 q1 q2=>by
  rw[e]
  exact⟨E2,g,_,q1,q2,L,.inl ⟨rfl,rfl⟩⟩
 by_cases h1:fk=1
 ·cases hsu:y.su with
  | true =>
   obtain⟨E2,q1,q2⟩:=pvK 0 hE (q10p.be_su 0 0 h.length (h.length+1) (h.length+2) l 0 0 0 fk 0 ((s+1:Nat):Int) 0 ft [] g) ⟨aL L.b2 rfl,eqT h1,aL L.l (by simp[hsu]),trivial⟩
   exact same (by simp[end3',hsu]) q2 (back q1 rfl rfl rfl rfl rfl rfl)
  | false =>
   by_cases h0:y.fk=0
   ·obtain⟨o,ho⟩:=L.at_.ssO hy
    have hR1:R[1]?=some (.slice (some ⟨o,0,none⟩) t.scs.length 6):=by rw[<- L.hR,rT,ho];rfl
    have SB:(Asm.arith .sub .i64 ((s+1:Nat):Int) 1 (s:Int)).holds Try.prog:=subI (by omega) (by omega) (by omega)
    have OF:(Asm.off (s*6) 0 (s:Int) t.scs.length 6).holds Try.prog:=offI (q:=s) rfl hs (by omega)
    have bl:end3' t s y fk ft=(t.upS s fun x=>{ x with fk:=fk,ft:=ft },true):=by simp[end3',hsu,TS.blame,hy,blameB,h1,h0]
    obtain⟨c1,S1,L1⟩:=L.blame hy ho
    have A1:RAt (g.set o (.cells c1 true)) σ (t.upS s fun x=>{ x with fk:=fk,ft:=ft }):=L1.at_
    have L2:=L1.go (Grow.push (Grow.push (Grow.refl _) (.cells [iV 1,iV ((s+1:Nat):Int),iV 0,iV 0,.string ⟨#[]⟩] true)) (.cells [iV 1,iV ((s+1:Nat):Int),iV 0,iV 0,.string ⟨#[]⟩] true))
    have hz:(g.set o (.cells c1 true)++[AObj.cells [iV 1,iV ((s+1:Nat):Int),iV 0,iV 0,.string ⟨#[]⟩] true])[g.length]?=some (.cells [iV 1,iV ((s+1:Nat):Int),iV 0,iV 0,.string ⟨#[]⟩] true):=gV _ (sN _ _ _)
    have hw:(g.set o (.cells c1 true)++[AObj.cells [iV 1,iV ((s+1:Nat):Int),iV 0,iV 0,.string ⟨#[]⟩] true]++[AObj.cells [iV 1,iV ((s+1:Nat):Int),iV 0,iV 0,.string ⟨#[]⟩] true])[g.length+1]?=some (.cells [iV 1,iV ((s+1:Nat):Int),iV 0,iV 0,.string ⟨#[]⟩] true):=gV _ (by rw[pL,sN])
    obtain⟨E2,q1,q2⟩:=pvK 0 hE (q10p.be_go o t.scs.length h.length (h.length+1) (h.length+2) l (s*6) g.length (g.length+1) fk s ((s+1:Nat):Int) y.fk ft c1 g)
     ⟨aL L.b2 rfl,eqT h1,aL L.l (by simp[hsu]),aL L.l rfl,eqT h0,aL L.b hR1,SB,aN L.b2 (by simp) rfl,OF,S1 _ _ rfl,sN _ _ _,a_appGN rfl rfl (by omega) hz (by simp[SH.den]),trivial⟩
    rw[bl]
    have:=get_lt L.c
    exact⟨E2,_,_,q2,back q1 rfl rfl rfl rfl rfl rfl,L2,.inr ⟨by simp[saidE],g.length+1,rfl,hw,by omega,fun⟨r,e⟩=>by have:=A1.lt e;rw[sN] at this;omega⟩⟩
   ·obtain⟨E2,q1,q2⟩:=pvK 0 hE (q10p.be_had 0 0 h.length (h.length+1) (h.length+2) l 0 0 0 fk 0 ((s+1:Nat):Int) y.fk ft [] g) ⟨aL L.b2 rfl,eqT h1,aL L.l (by simp[hsu]),aL L.l rfl,eqF h0,trivial⟩
    exact same (by simp[end3',hsu,TS.blame,hy,blameB,h0]) q2 (back q1 rfl rfl rfl rfl rfl rfl)
 ·obtain⟨E2,q1,q2⟩:=pvK 0 hE (q10p.be_no 0 0 h.length (h.length+1) (h.length+2) l 0 0 0 fk 0 ((s+1:Nat):Int) 0 ft [] g) ⟨aL L.b2 rfl,eqF h1,trivial⟩
  exact same (by simp only[end3',TS.blame,hy,blameB,decide_eq_false h1,Bool.false_and,Bool.false_eq_true,if_false,ite_self]) q2 (back q1 rfl rfl rfl rfl rfl rfl)
theorem endR_run(a:RAt h σ t)(ok:TOk c t)(W:WI none t)(hc:c<=90000)(n fk:Int)(ft:ByteArray) :
  ∃ σ' h' v,Run Try.prog 60 [.agg (rT σ t).toArray,iV n,.agg #[iV fk,.string ft]] h (.tuple #[.agg (rT σ' (t.end n fk ft).1).toArray,v,iV (t.end n fk ft).2.2]) h'/\Nxt h σ h' σ' (t.end n fk ft).1/\EfR h' h.length σ' v (t.end n fk ft).2.1:=by
 have n64:=ok.n64
 have n200:=ok.n200
 have K:=box3 h (rT σ t) [iV fk,.string ft] zz
 obtain⟨g1,hg1⟩:∃ g1,g1=h++[AObj.cells (rT σ t) true]++[AObj.cells [iV fk,.string ft] true]++[AObj.cells zz true]++[AObj.cells (rT σ t) true]:=⟨_,rfl⟩
 have r1:=runsR_run (a.grow K) ok n
 rw[<- hg1] at r1
 have K1:Grow (h++[AObj.cells (rT σ t) true]++[AObj.cells [iV fk,.string ft] true]++[AObj.cells zz true]) g1:=by rw[hg1];exact boxT _ _
 have KK:=Grow.trans K K1
 have b0:=K1.get (box3_0 h (rT σ t) [iV fk,.string ft] zz)
 have b1:=K1.get (box3_1 h (rT σ t) [iV fk,.string ft] zz)
 have b2:=K1.get (box3_2 h (rT σ t) [iV fk,.string ft] zz)
 cases hb:TS.rnB t n with
 | false =>
  rw[hb] at r1
  have es:t.end n fk ft=(t,[],6):=by simp only[TS.end,acts_no hb]
  rw[es]
  exact⟨σ,_,_,pvF 0 Try.func60 (q10p.en_no (sA (σ .ts)) (sA (σ .ss)) (sA (σ .lf)) t.tks.length t.scs.length t.tks.length (sZ (σ .ts) 6) (sZ (σ .ss) 6) (sZ (σ .lf) 2) h.length (h.length+1) (h.length+2) n fk ft h g1 g1)
   ⟨rfl,pL _ _,by simp[Asm.holds,SH.den],aN (box3_0 _ _ _ _) (by simp[rT]) rfl,r1,aN b0 (by simp[rT]) rfl,a_st b2 (by simp) rfl,aN (gE b2) (by simp) rfl,trivial⟩,Nxt.same a (Grow.set KK (by omega) _),.inl ⟨rfl,rfl⟩⟩
 | true =>
  rw[hb] at r1
  obtain⟨k,x,rfl,hx,he⟩:=rnB_true hb
  have hr:t.runs ((k+1:Nat):Int)=(some k,0):=by rw[runs_at hx,he];rfl
  have hk:=gTq hx
  have hne:0<t.tks.length:=by omega
  obtain⟨g2,hg2⟩:∃ g2,g2=g1++[AObj.cells [iV fk,.string ft] true]:=⟨_,rfl⟩
  have r2:=validR_run g1 fk ft
  rw[<- hg2] at r2
  have K2:Grow g1 g2:=by rw[hg2];exact boxT _ _
  have KG:=Grow.trans KK K2
  have d0:=K2.get b0
  have d1:=K2.get b1
  have d2:=K2.get b2
  have gl2:h.length+3<=g2.length:=by have:=K2.1;have:=K1.1;rw[box3_len] at this;omega
  cases hv:faultB fk ft with
  | false =>
   rw[hv] at r2
   have es:t.end ((k+1:Nat):Int) fk ft=(t,[],2):=by simp only[TS.end,hr,hv,if_true]
   rw[es]
   exact⟨σ,_,_,pvF 0 Try.func60 (q10p.en_bad (sA (σ .ts)) (sA (σ .ss)) (sA (σ .lf)) t.tks.length t.scs.length t.tks.length (sZ (σ .ts) 6) (sZ (σ .ss) 6) (sZ (σ .lf) 2) h.length (h.length+1) (h.length+2) _ fk ft h g1 g2)
    ⟨rfl,pL _ _,by simp[Asm.holds,SH.den],aN (box3_0 _ _ _ _) (by simp[rT]) rfl,r1,aN b1 (by simp) rfl,r2,aN d0 (by simp[rT]) rfl,a_st d2 (by simp) rfl,aN (gE d2) (by simp) rfl,trivial⟩,Nxt.same a (Grow.set KG (by omega) _),.inl ⟨rfl,rfl⟩⟩
  | true =>
   rw[hv] at r2
   have hv':¬ faultB fk ft=false:=by rw[hv];simp
   obtain⟨o,ho⟩:=a.tsO hx
   have hR':rT σ t=rV (some o) (σ .ss) (σ .lf) t.tks.length t.scs.length:=by rw[rT,ho]
   have SB:(Asm.arith .sub .i64 ((k+1:Nat):Int) 1 (k:Int)).holds Try.prog:=subI (by omega) (by omega) (by omega)
   have OF:(Asm.off (k*6) 0 (k:Int) t.tks.length 6).holds Try.prog:=offI (q:=k) rfl hk (by omega)
   have LO:(Asm.ld1 (.is g2) o (k*6+5) (slz (σ (.op k)) x.opn.length 2)).holds Try.prog:=a.tsC ho hx (d:=5) rfl KG
   by_cases hop:x.opn=[]
   ·have hlv:x.lv=false:=by
     cases e:x.lv with
     | false=>rfl
     | true =>
      obtain⟨_,s2,_,hg,_,_⟩:=W.lv k x hx e
      rw[hop] at hg;cases hg
    have G0:(Asm.cmp .gtr (Int.ofNat x.opn.length) 0 false).holds Try.prog:=gtF (by rw[hop];simp)
    obtain⟨p,p3,σ1,g3,hp1,hp3,r3,K3,a3,N3⟩:=copied_run' (a.grow KG) ok (by omega) hne
    have gl3:=K3.1
    have e0:=K3.get d0
    have e1:=K3.get d1
    have e2:=K3.get d2
    have nq:∀ q,q<g2.length->¬ fpR σ1 q:=fun q hq=>N3.out hq
    have np:=N3 _ _ hp1
    obtain⟨R,hR⟩:∃ R,R=rV (some p) (σ1 .ss) (some p3) t.tks.length t.scs.length:=⟨_,rfl⟩
    have a4:=a3.setN (nq h.length (by omega)) (.cells R true)
    obtain⟨X1,hX1⟩:∃ X:Tk,X={ x with en:=true,fk:=0,ft:=⟨#[]⟩ }:=⟨_,rfl⟩
    obtain⟨F,hF⟩:∃ F:Tk,F={ x with en:=true,fk:=fk,ft:=ft }:=⟨_,rfl⟩
    obtain⟨c1,S1,a5⟩:=a4.wT (d:=1) (l:=[.bool true]) (x':=X1) hp1 hx (by simp) (by rw[hX1];simp[rk,TkV.C,tkV,he]) ⟨[],by rw[hX1];simp⟩
    have hx5:(t.tks.set k X1)[k]?=some X1:=by rw[List.getElem?_set_self hk]
    obtain⟨c2,S2,a6⟩:=a5.wT (d:=3) (l:=[iV fk,.string ft]) (x':=F) hp1 hx5 (by simp) (by rw[hX1,hF];simp[rk,TkV.C,tkV]) ⟨[],by rw[hX1,hF];simp⟩
    have e7:(t.tks.set k X1).set k F=t.tks.set k F:=List.set_set _
    rw[e7] at a6
    have et:(t.end1 k fk ft).tks=t.tks.set k F:=by
     simp only[TS.end1]
     have q2:=upT_at (f:=fun x=>{ x with en:=true }) hx
     rw[upT_set _ q2,upT_set _ hx,List.set_set,hF]
    have es1:(t.end1 k fk ft).scs=t.scs:=rfl
    obtain⟨G6,hG6⟩:∃ G,G=((g3.set h.length (.cells R true)).set p (.cells c1 true)).set p (.cells c2 true):=⟨_,rfl⟩
    have a7:RAt G6 σ1 (t.end1 k fk ft):=by
     show RAtL _ _ _ _ _
     rw[et,es1,hG6]
     exact a6.sayT hx (fun i=>by rw[hF];simp[rl,lfK,lfT,hlv])
    have f0:(g3.set h.length (.cells R true))[h.length]?=some (.cells R true):=gE e0
    have f01:((g3.set h.length (.cells R true)).set p (.cells c1 true))[h.length]?=some (.cells R true):=gNq f0 (by omega)
    have f1:((g3.set h.length (.cells R true)).set p (.cells c1 true))[h.length+1]?=some (.cells [iV fk,.string ft] true):=gNq (gNq e1 (by omega)) (by omega)
    have F0:G6[h.length]?=some (.cells R true):=by rw[hG6];exact gNq f01 (by omega)
    have F1:G6[h.length+1]?=some (.cells [iV fk,.string ft] true):=by rw[hG6];exact gNq f1 (by omega)
    have F2:G6[h.length+2]?=some (.cells zz true):=by rw[hG6];exact gNq (gNq (gNq e2 (by omega)) (by omega)) (by omega)
    have K6:Grow h G6:=by rw[hG6];exact Grow.set (Grow.set (Grow.set (Grow.trans KG K3) (Nat.le_refl _) _) (by omega) _) (by omega) _
    have hT1:rT σ1 (t.end1 k fk ft)=R:=by rw[hR,rT,et,es1,List.length_set,hp1,hp3]
    have hxF:(t.end1 k fk ft).tks[k]?=some F:=by rw[et,List.getElem?_set_self hk]
    have LI:(Asm.ld1 (.is G6) p (k*6) (iV (lkN x.inn))).holds Try.prog:=a7.tsC hp1 hxF (d:=0) (by rw[hF];simp[rk,tkV,TkV.C]) (.refl _)
    have new1:New h.length σ1:=N3.mono (by omega)
    cases hin:x.inn with
    | none =>
     have es:t.end ((k+1:Nat):Int) fk ft=(t.end1 k fk ft,[],0):=by simp only[TS.end,hr,if_neg hv',hx,hop,hin,ne_eq,not_true_eq_false,if_false]
     rw[es]
     rw[hin] at LI
     have fin:Nxt h σ (G6.set (h.length+2) (.cells R true)) σ1 (t.end1 k fk ft):=⟨Grow.set K6 (by omega) _,a7.setN (nq _ (by omega)) _,fun i ⟨r,e⟩=>.inr (new1 r i e)⟩
     have hres:=gE (x:=.cells R true) F2
     refine⟨σ1,_,_,?_,fin,.inl ⟨rfl,rfl⟩⟩
     rw[hG6] at F0 F1 F2 LI hres
     rw[hT1]
     rw[hR'] at r1 b0 d0 r3 e0 ⊢
     subst hR hG6
     exact pvF 0 Try.func60 (q10p.en_root (sA (σ1 .ss)) (sZ (σ1 .ss) 6) (sA (σ .ss)) (sA (σ .lf)) t.scs.length t.tks.length (sZ (σ .ss) 6) (sZ (σ .lf) 2) o t.tks.length p 0 p3 t.scs.length h.length (h.length+1) (h.length+2) (k*6) 0 0 (sA (σ (.op k))) none x.opn.length (sZ (σ (.op k)) 2) 0 0 _ fk k 0 0 0 0 false false ft ⟨#[]⟩ c1 c2 h g1 g2 g3)
      ⟨rfl,pL _ _,by simp[Asm.holds,SH.den],aN (box3_0 _ _ _ _) (by simp) rfl,r1,aN b1 (by simp) rfl,r2,aL d0 rfl,SB,OF,LO,G0,aN d0 (by simp) rfl,r3,a_st e0 (by simp) rfl,aL f0 rfl,SB,OF,S1 _ _ rfl,aL f01 rfl,SB,aN f1 (by simp) rfl,OF,S2 _ _ rfl,aL F0 rfl,SB,OF,LI,eqT rfl,aN F0 (by simp) rfl,a_st F2 (by simp) rfl,aN hres (by simp) rfl,trivial⟩
    | some s =>
     have hsl:=ok.inn k x s hx hin
     obtain⟨y0,hy0⟩:∃ y,t.scs[s]?=some y:=⟨_,List.getElem?_eq_getElem hsl⟩
     have es:t.end ((k+1:Nat):Int) fk ft=(((t.end3 k s y0 fk ft).1.fin s).1,saidE s (t.end3 k s y0 fk ft).2++((t.end3 k s y0 fk ft).1.fin s).2,0):=by simp only[TS.end,hr,if_neg hv',hx,hop,hin,hy0,ne_eq,not_true_eq_false,if_false]
     rw[es]
     have lnk1:lkN (some s)=((s+1:Nat):Int):=rfl
     rw[hin,lnk1] at LI
     obtain⟨y,hyd⟩:∃ y:Sc,y={ y0 with live:=y0.live-1 }:=⟨_,rfl⟩
     have e2s:(t.end2 k s fk ft).scs=t.scs.set s y:=by rw[hyd];exact upS_set _ (show (t.end1 k fk ft).scs[s]?=some y0 from hy0)
     have hy2:(t.end2 k s fk ft).scs[s]?=some y:=by rw[e2s,List.getElem?_set_self hsl]
     have a8:RAt G6 σ1 (t.end2 k s fk ft):=by
      show RAtL _ _ _ _ _
      rw[e2s]
      exact RAtL.sayS a7 (y:=y0) hy0 (fun v=>by rw[hyd];rfl) (by rw[hyd])
     obtain⟨p2,hp2⟩:=a7.ssO hy0
     have hT2:rT σ1 (t.end2 k s fk ft)=R:=by rw[<- hT1,rT,rT,e2s,List.length_set];rfl
     obtain⟨sv,hsv⟩:∃ sv,sv=slz (σ1 (.st s)) y.tks.length 1:=⟨_,rfl⟩
     have LR:(Asm.ldn (.is G6) p2 (s*6) 6 (scR y sv)).holds Try.prog:=by rw[hsv];exact a8.ssN (k:=s) hp2 hy2 (d:=0) (n:=6) (by omega) rfl (.refl _)
     have y0':(G6++[AObj.cells [iV 0,.bool false,.bool false,.slice none 0 0,iV 0,.string ⟨#[]⟩] true])[G6.length]?=some (.cells [iV 0,.bool false,.bool false,.slice none 0 0,iV 0,.string ⟨#[]⟩] true):=gW _ _
     have K7:Grow G6 ((G6++[AObj.cells [iV 0,.bool false,.bool false,.slice none 0 0,iV 0,.string ⟨#[]⟩] true]).set G6.length (.cells (scR y sv) true)):=Grow.set (Grow.push (Grow.refl _) _) (Nat.le_refl _) _
     have G6l:h.length+3<=G6.length:=by rw[hG6];simp;omega
     have L:LvS h ((G6++[AObj.cells [iV 0,.bool false,.bool false,.slice none 0 0,iV 0,.string ⟨#[]⟩] true]).set G6.length (.cells (scR y sv) true)) σ1 (t.end2 k s fk ft) R fk ft G6.length (scR y sv) :=
      ⟨Grow.trans K6 K7,a8.grow K7,G6l,fun q hq=>nq q (by omega),fun⟨r,e⟩=>by have:=a8.lt e;omega,new1,hT2,K7.get F0,K7.get F1,K7.get F2,gE y0'⟩
     have SS:(Asm.arith .sub .i64 ((s+1:Nat):Int) 1 (s:Int)).holds Try.prog:=subI (by omega) (by omega) (by omega)
     have OS:(Asm.off (s*6) 0 (s:Int) t.scs.length 6).holds Try.prog:=offI (q:=s) rfl hsl (by omega)
     rw[hp2] at r3 hR
     rw[hR'] at r1 b0 d0 r3 e0 ⊢
     have ok2:TOk (c+1) (t.end2 k s fk ft):=ok.end2
     have ok3:TOk (c+1) (t.end3 k s y0 fk ft).1:=ok.end3
     have e33:t.end3 k s y0 fk ft=end3' (t.end2 k s fk ft) s y fk ft:=by rw[hyd];rfl
     have W2:=W.end2 ok hx he hop hin fk ft
     have W3:WI (some s) (t.end3 k s y0 fk ft).1:=by
      unfold TS.end3
      split
      ·exact W2
      ·exact W2.blame _ _ _
     have lenR:(t.end2 k s fk ft).scs.length=t.scs.length:=by rw[e2s,List.length_set]
     have F0':=F0
     have LI':=LI
     have LR':=LR
     have F1':=F1
     rw[hG6] at F0' LI' LR' y0' F1'
     have L':=L
     rw[hG6] at L'
     subst hR
     obtain⟨E0,q1,q2⟩:=pvK 0 (enter3 (.agg (rV (some o) (σ .ss) (σ .lf) t.tks.length t.scs.length).toArray) (iV ((k+1:Nat):Int)) (.agg #[iV fk,.string ft]))
      (q10p.en_pre (sA (σ .ss)) (sA (σ .lf)) t.scs.length t.tks.length (sZ (σ .ss) 6) (sZ (σ .lf) 2) o t.tks.length p p2 p3 t.scs.length h.length (h.length+1) (h.length+2) (k*6) (s*6) (((g3.set h.length (.cells (rV (some p) (some p2) (some p3) t.tks.length t.scs.length) true)).set p (.cells c1 true)).set p (.cells c2 true)).length (sA (σ (.op k))) (sA (σ1 (.st s))) x.opn.length (sZ (σ (.op k)) 2) y.tks.length (sZ (σ1 (.st s)) 1) ((k+1:Nat):Int) fk k s ((s+1:Nat):Int) ((y.ow+1:Nat):Int) y.fk y.su y.ov ft y.ft c1 c2 h g1 g2 g3)
      ⟨rfl,pL _ _,by simp[Asm.holds,SH.den],aN (box3_0 _ _ _ _) (by simp) rfl,r1,aN b1 (by simp) rfl,r2,aL d0 rfl,SB,OF,LO,G0,aN d0 (by simp) rfl,r3,a_st e0 (by simp) rfl,aL f0 rfl,SB,OF,S1 _ _ rfl,aL f01 rfl,SB,aN f1 (by simp) rfl,OF,S2 _ _ rfl,aL F0' rfl,SB,OF,LI',eqF (by omega),aL F0' rfl,SS,OS,by rw[hsv] at LR';exact LR',rfl,a_st y0' (by simp) rfl,trivial⟩
     have hE:EnvLe (EE h (((g3.set h.length (.cells (rV (some p) (some p2) (some p3) t.tks.length t.scs.length) true)).set p (.cells c1 true)).set p (.cells c2 true)).length (.slice none 0 0) s) E0:=tR q1
     rw[hsv] at L'
     obtain⟨E1,gB,v,qB,hE1,L3,ef⟩:=end_blame ok2 (by omega) L' hy2 rfl hE
     rw[<- e33] at L3 ef
     obtain⟨y3,hy3,how3,_⟩:∃ y3,(t.end3 k s y0 fk ft).1.scs[s]?=some y3/\y3.ow=y.ow/\True:=by
      unfold TS.end3
      split
      ·exact⟨y,hy2,rfl,trivial⟩
      ·obtain⟨y3,q1,q2,_⟩:=blame_scs (fk:=fk) (ft:=ft) hy2
       exact⟨y3,q1,q2,trivial⟩
     obtain⟨x3,hx3⟩:∃ x3,(t.end3 k s y0 fk ft).1.tks[y3.ow]?=some x3:=⟨_,List.getElem?_eq_getElem (ok3.ow s y3 hy3)⟩
     obtain⟨σ',E2,gT,v',qT,hv2,res,ef2⟩:=end_tail ok3 W3 (by omega) L3 hy3 hx3 (by rw[how3];rfl) ef (by unfold saidE;split<;>simp) hE1
     exact⟨σ',gT,v',Run.code Try.func60 body60 (.inr rfl) (CRunChain q2 (.seq qB qT)) hv2,res.nxt,ef2⟩
   ·have es:t.end ((k+1:Nat):Int) fk ft=(t,[],22):=by simp only[TS.end,hr,if_neg hv',hx,ne_eq,hop,not_false_eq_true,if_true]
    have hpl:=List.length_pos_iff.2 hop
    rw[es]
    rw[hR'] at r1 b0 d0
    exact⟨σ,_,_,by
     rw[hR']
     exact pvF 0 Try.func60 (q10p.en_open (sA (σ .ss)) (sA (σ .lf)) t.scs.length t.tks.length (sZ (σ .ss) 6) (sZ (σ .lf) 2) o t.tks.length 0 0 0 0 h.length (h.length+1) (h.length+2) (k*6) 0 0 (sA (σ (.op k))) none x.opn.length (sZ (σ (.op k)) 2) 0 0 _ fk k 0 0 0 0 false false ft ⟨#[]⟩ [] [] h g1 g2 g2)
      ⟨rfl,pL _ _,by simp[Asm.holds,SH.den],aN (box3_0 _ _ _ _) (by simp) rfl,r1,aN b1 (by simp) rfl,r2,aL d0 rfl,SB,OF,LO,gtT (by simp only[Int.ofNat_eq_natCast];omega),aN d0 (by simp) rfl,a_st d2 (by simp) rfl,aN (gE d2) (by simp) rfl,trivial⟩,Nxt.same a (Grow.set KG (by omega) _),.inl ⟨rfl,rfl⟩⟩
end
end Go.Proofs.Ytahomnlkkafbjaa.rf
namespace Go.Proofs.Ytahomnlkkafbjaa.q14p
open Go Go.Ev
theorem ch_no(a1 a2 a3:OA)(n1 n2 n3 z1 z2 z3:Nat)(b:Nat)(n:Int)(g g1:Hp) :
  let Z1:LV:=[.agg #[.slice a1 n1 z1,.slice a2 n2 z2,.slice a3 n3 z3],iV n]
  let Z2:LV:=[.slice a1 n1 z1,.slice a2 n2 z2,.slice a3 n3 z3]
  let Z3:SH:=.push g (cS Z2)
  PF Try.f55 Z1 g [.idx b,.cells Z2,.ret bF g1] =
  some (.tuple #[nS,iV 6],.is g1,[],[.len g b,.ldn Z3 b 0 3 Z2,.call 71 Z1 Z3 bF g1]):=by intros;kernel_rfl
theorem ch_go(a2 a3:OA)(n2 n3 z2 z3:Nat)(o n1 b q:Nat)(ao:OA)(no zo:Nat)(n j:Int)(v:V)(E1:Env)(g g1 g2:Hp) :
  let Z1:=sL o n1 6
  let Z2:V:=.agg #[Z1,.slice a2 n2 z2,.slice a3 n3 z3]
  let Z3:LV:=[Z2,iV n]
  let Z4:LV:=[Z1,.slice a2 n2 z2,.slice a3 n3 z3]
  let Z5:SH:=.push g (cS Z4)
  let Z6:=pT b 0
  PF Try.f55 Z3 g [.idx b,.cells Z4,.ret bT g1,.val Z1,.num j,.offs q,.val (.slice ao no zo),.loop (.exit 0) ((6,v)::E1) g2] =
  some (.tuple #[v,iV 0],.is g2,[],[.len g b,.ldn Z5 b 0 3 Z4,.call 71 Z3 Z5 bT g1,.ld1 g1 b 0 Z1,.arith .sub .i64 n 1 j,.off q 0 j n1 6,.ld1 g1 o (Nat.succ (Nat.succ (Nat.succ (Nat.succ (Nat.succ q))))) (.slice ao no zo),.loop 74 false (loopN Try.f55 0) [(7,iN no),(21,iN no),(20,.slice ao no zo),(19,pT o (Nat.succ (Nat.succ (Nat.succ (Nat.succ (Nat.succ q)))))),(18,pT o q),(17,iV j),(16,iV n),(15,Z1),(14,Z6),(6,nS),(13,bF),(12,bT),(11,iV n),(10,Z2),(5,iV 0),(4,nS),(2,Z6),(0,Z2),(1,iV n)] g1 (.exit 0) ((6,v)::E1) g2]):=by intros;kernel_rfl
theorem ci_out(v:V)(o n1 b q so no e z w a w2:Nat)(n j i i1 k kn:Int)(cs:LV)(g:Hp) :
  PC 74 false (loopN Try.f55 1) [(8,iV i),(6,v),(2,pT b 0),(1,iV n)] g [.bit false] =
  some (.exit 2,[(27,bF),(26,iV i),(8,iV i),(6,v),(2,pT b 0),(1,iV n)],.is g,[],[.cmp .geq i 0 false]):=by intros;kernel_rfl
theorem ci_n(v:V)(o n1 b q so no e z w a w2:Nat)(n j i i1 k kn:Int)(cs:LV)(g:Hp) :
  let Z1:=pT b 0
  let Z2:=sL o n1 6
  let Z3:=sL so no 2
  let Z4:LV:=[iV k,iV kn]
  let Z5:=sL w2 1 2
  let Z6:AObj:=cS Z4
  let Z7:SH:=.push g Z6
  cutP [8,6,2,1] (PC 74 false (loopN Try.f55 1) [(8,iV i),(6,nS),(2,Z1),(1,iV n)] g [.bit true,.val Z2,.num j,.offs q,.val Z3,.offs e,.cells Z4,.idx z,.app Z4 Z4 0 w2,.num i1]) =
  some (.normal,[(8,iV i1),(6,Z5),(2,Z1),(1,iV n)],.push Z7 Z6,[],[.cmp .geq i 0 true,.ld1 g b 0 Z2,.arith .sub .i64 n 1 j,.off q 0 j n1 6,.ld1 g o (Nat.succ (Nat.succ (Nat.succ (Nat.succ (Nat.succ q))))) Z3,.off e 0 i no 2,.ldn g so e 2 Z4,.len g z,.appNil Z7 z 0 1 0 2 16 Z4 w2,.arith .sub .i64 i 1 i1]):=by intros;kernel_rfl
theorem ci_s(v:V)(o n1 b q so no e z w a w2:Nat)(n j i i1 k kn:Int)(cs:LV)(g:Hp) :
  let Z1:=sL w a 2
  let Z2:=pT b 0
  let Z3:=sL o n1 6
  let Z4:=sL so no 2
  let Z5:LV:=[iV k,iV kn]
  let Z6:=sL w2 (Nat.succ a) 2
  let Z7:SH:=.push g (cS Z5)
  cutP [8,6,2,1] (PC 74 false (loopN Try.f55 1) [(8,iV i),(6,Z1),(2,Z2),(1,iV n)] g [.bit true,.val Z3,.num j,.offs q,.val Z4,.offs e,.cells Z5,.idx z,.app cs Z5 0 w2,.num i1]) =
  some (.normal,[(8,iV i1),(6,Z6),(2,Z2),(1,iV n)],.push (.set Z7 w .dead) (cS cs),[],[.cmp .geq i 0 true,.ld1 g b 0 Z3,.arith .sub .i64 n 1 j,.off q 0 j n1 6,.ld1 g o (Nat.succ (Nat.succ (Nat.succ (Nat.succ (Nat.succ q))))) Z4,.off e 0 i no 2,.ldn g so e 2 Z5,.len g z,.app Z7 w 0 a z 0 1 0 2 16 cs Z5 w2,.arith .sub .i64 i 1 i1]):=by intros;kernel_rfl
theorem co_out(v:V)(a1 a3:OA)(n3 z1 z3:Nat)(o n1 o2 m b q q2 z w a w2 z3x w3:Nat)(top t1 n j j2 s ow pl:Int)(cs cs2:LV)(E1:Env)(g g1 g2 g3:Hp) :
  PC 74 false (loopN Try.f55 0) [(6,v),(2,pT b 0),(1,iV n)] g [.bit false] =
  some (.exit 0,[(23,bF),(22,iV n),(6,v),(2,pT b 0),(1,iV n)],.is g,[],[.cmp .gtr n 0 false]):=by intros;kernel_rfl
theorem co_endn(v:V)(a1 a3:OA)(n3 z1 z3:Nat)(o n1 o2 m b q q2 z w a w2 z3x w3:Nat)(top t1 n j j2 s ow pl:Int)(cs cs2:LV)(E1:Env)(g g1 g2 g3:Hp) :
  let Z1:=pT b 0
  let Z2:LV:=[iV 1,iV n]
  let Z3:=sL o n1 6
  let Z4:=pT o q
  let Z5:=sL w2 1 2
  let Z6:AObj:=cS Z2
  let Z7:SH:=.push g1 Z6
  let Z8:SH:=.push Z7 Z6
  cutP [1,9,6,2] (PC 74 false (loopN Try.f55 0) [(7,iV top),(6,v),(2,Z1),(1,iV n)] g [.bit true,.num t1,.loop (.exit 2) ((6,nS)::(2,Z1)::(1,iV n)::E1) g1,.idx z,.app Z2 Z2 0 w2,.val Z3,.num j,.offs q,.val (iV s),.bit false]) =
  some (.normal,[(1,iV 0),(9,iV s),(6,Z5),(2,Z1)],Z8,[],[.cmp .gtr n 0 true,.arith .sub .i64 top 1 t1,.loop 74 false (loopN Try.f55 1) [(8,iV t1),(25,iV t1),(24,iV top),(23,bT),(22,iV n),(7,iV top),(6,v),(2,Z1),(1,iV n)] g (.exit 2) ((6,nS)::(2,Z1)::(1,iV n)::E1) g1,.len g1 z,.appNil Z7 z 0 1 0 2 16 Z2 w2,.ld1 Z8 b 0 Z3,.arith .sub .i64 n 1 j,.off q 0 j n1 6,.ld1 Z8 o q (iV s),.cmp .gtr s 0 false]):=by intros;kernel_rfl
theorem co_gon(v:V)(a1 a3:OA)(n3 z1 z3:Nat)(o n1 o2 m b q q2 z w a w2 z3x w3:Nat)(top t1 n j j2 s ow pl:Int)(cs cs2:LV)(E1:Env)(g g1 g2 g3:Hp) :
  let Z1:=pT b 0
  let Z2:LV:=[iV 1,iV n]
  let Z3:=sL o n1 6
  let Z4:LV:=[iV 2,iV s]
  let Z5:=sL o2 m 6
  let Z6:LV:=[Z3,Z5,.slice a3 n3 z3]
  let Z7:V:=.agg #[Z3,Z5,.slice a3 n3 z3]
  let Z8:=pT o2 q2
  let Z9:=sL w3 2 2
  let Z10:=sL w2 1 2
  let Z11:=pT o q
  let Z12:AObj:=cS Z2
  let Z13:SH:=.push g1 Z12
  let Z14:SH:=.push Z13 Z12
  let Z15:SH:=.push Z14 (cS Z4)
  let Z16:SH:=.push (.set Z15 w2 .dead) (cS cs2)
  cutP [7,1,6,9,2] (PC 74 false (loopN Try.f55 0) [(7,iV top),(6,v),(2,Z1),(1,iV n)] g [.bit true,.num t1,.loop (.exit 2) ((6,nS)::(2,Z1)::(1,iV n)::E1) g1,.idx z,.app Z2 Z2 0 w2,.val Z3,.num j,.offs q,.val (iV s),.bit true,.idx z3x,.app cs2 Z4 0 w3,.val Z5,.num j2,.offs q2,.val (iV ow),.cells Z6,.ret (iV pl) g3]) =
  some (.normal,[(7,iV pl),(1,iV ow),(6,Z9),(9,iV s),(2,Z1)],.is g3,[],[.cmp .gtr n 0 true,.arith .sub .i64 top 1 t1,.loop 74 false (loopN Try.f55 1) [(8,iV t1),(25,iV t1),(24,iV top),(23,bT),(22,iV n),(7,iV top),(6,v),(2,Z1),(1,iV n)] g (.exit 2) ((6,nS)::(2,Z1)::(1,iV n)::E1) g1,.len g1 z,.appNil Z13 z 0 1 0 2 16 Z2 w2,.ld1 Z14 b 0 Z3,.arith .sub .i64 n 1 j,.off q 0 j n1 6,.ld1 Z14 o q (iV s),.cmp .gtr s 0 true,.len Z14 z3x,.app Z15 w2 0 1 z3x 0 1 0 2 16 cs2 Z4 w3,.ld1 Z16 b 1 Z5,.arith .sub .i64 s 1 j2,.off q2 0 j2 m 6,.ld1 Z16 o2 q2 (iV ow),.ldn Z16 b 0 3 Z6,.call 72 [Z7,iV ow,iV s] Z16 (iV pl) g3]):=by intros;kernel_rfl
theorem co_ends(v:V)(a1 a3:OA)(n3 z1 z3:Nat)(o n1 o2 m b q q2 z w a w2 z3x w3:Nat)(top t1 n j j2 s ow pl:Int)(cs cs2:LV)(E1:Env)(g g1 g2 g3:Hp) :
  let Z1:=pT b 0
  let Z2:=sL w a 2
  let Z3:LV:=[iV 1,iV n]
  let Z4:=sL o n1 6
  let Z5:=pT o q
  let Z6:=sL w2 (Nat.succ a) 2
  let Z7:SH:=.push g1 (cS Z3)
  let Z8:SH:=.push (.set Z7 w .dead) (cS cs)
  cutP [1,9,6,2] (PC 74 false (loopN Try.f55 0) [(7,iV top),(6,v),(2,Z1),(1,iV n)] g [.bit true,.num t1,.loop (.exit 2) ((6,Z2)::(2,Z1)::(1,iV n)::E1) g1,.idx z,.app cs Z3 0 w2,.val Z4,.num j,.offs q,.val (iV s),.bit false]) =
  some (.normal,[(1,iV 0),(9,iV s),(6,Z6),(2,Z1)],Z8,[],[.cmp .gtr n 0 true,.arith .sub .i64 top 1 t1,.loop 74 false (loopN Try.f55 1) [(8,iV t1),(25,iV t1),(24,iV top),(23,bT),(22,iV n),(7,iV top),(6,v),(2,Z1),(1,iV n)] g (.exit 2) ((6,Z2)::(2,Z1)::(1,iV n)::E1) g1,.len g1 z,.app Z7 w 0 a z 0 1 0 2 16 cs Z3 w2,.ld1 Z8 b 0 Z4,.arith .sub .i64 n 1 j,.off q 0 j n1 6,.ld1 Z8 o q (iV s),.cmp .gtr s 0 false]):=by intros;kernel_rfl
theorem co_gos(v:V)(a1 a3:OA)(n3 z1 z3:Nat)(o n1 o2 m b q q2 z w a w2 z3x w3:Nat)(top t1 n j j2 s ow pl:Int)(cs cs2:LV)(E1:Env)(g g1 g2 g3:Hp) :
  let Z1:=pT b 0
  let Z2:=sL w a 2
  let Z3:LV:=[iV 1,iV n]
  let Z4:=sL o n1 6
  let Z5:LV:=[iV 2,iV s]
  let Z6:=sL o2 m 6
  let Z7:LV:=[Z4,Z6,.slice a3 n3 z3]
  let Z8:V:=.agg #[Z4,Z6,.slice a3 n3 z3]
  let Z9:=pT o2 q2
  let Z10:=sL w3 (Nat.succ (Nat.succ a)) 2
  let Z11:=sL w2 (Nat.succ a) 2
  let Z12:=pT o q
  let Z13:SH:=.push g1 (cS Z3)
  let Z14:SH:=.push (.set Z13 w .dead) (cS cs)
  let Z15:SH:=.push Z14 (cS Z5)
  let Z16:SH:=.push (.set Z15 w2 .dead) (cS cs2)
  cutP [7,1,6,9,2] (PC 74 false (loopN Try.f55 0) [(7,iV top),(6,v),(2,Z1),(1,iV n)] g [.bit true,.num t1,.loop (.exit 2) ((6,Z2)::(2,Z1)::(1,iV n)::E1) g1,.idx z,.app cs Z3 0 w2,.val Z4,.num j,.offs q,.val (iV s),.bit true,.idx z3x,.app cs2 Z5 0 w3,.val Z6,.num j2,.offs q2,.val (iV ow),.cells Z7,.ret (iV pl) g3]) =
  some (.normal,[(7,iV pl),(1,iV ow),(6,Z10),(9,iV s),(2,Z1)],.is g3,[],[.cmp .gtr n 0 true,.arith .sub .i64 top 1 t1,.loop 74 false (loopN Try.f55 1) [(8,iV t1),(25,iV t1),(24,iV top),(23,bT),(22,iV n),(7,iV top),(6,v),(2,Z1),(1,iV n)] g (.exit 2) ((6,Z2)::(2,Z1)::(1,iV n)::E1) g1,.len g1 z,.app Z13 w 0 a z 0 1 0 2 16 cs Z3 w2,.ld1 Z14 b 0 Z4,.arith .sub .i64 n 1 j,.off q 0 j n1 6,.ld1 Z14 o q (iV s),.cmp .gtr s 0 true,.len Z14 z3x,.app Z15 w2 0 (Nat.succ a) z3x 0 1 0 2 16 cs2 Z5 w3,.ld1 Z16 b 1 Z6,.arith .sub .i64 s 1 j2,.off q2 0 j2 m 6,.ld1 Z16 o2 q2 (iV ow),.ldn Z16 b 0 3 Z7,.call 72 [Z8,iV ow,iV s] Z16 (iV pl) g3]):=by intros;kernel_rfl
theorem bw_lo(a1 a2 a3:OA)(n1 n2 n3 z1 z2 z3:Nat)(b:Nat)(n:Int)(g:Hp) :
  PF Try.f56 [.agg #[.slice a1 n1 z1,.slice a2 n2 z2,.slice a3 n3 z3],iV n] g [.idx b,.bit true] =
  some (.tuple #[nS,iV 6],.push g (cS [.slice a1 n1 z1,.slice a2 n2 z2,.slice a3 n3 z3]),[],[.len g b,.cmp .lss n 1 true]):=by intros;kernel_rfl
theorem bw_hi(a1 a2 a3:OA)(n1 n2 n3 z1 z2 z3:Nat)(b:Nat)(n:Int)(g:Hp) :
  let Z1:SH:=.push g (cS [.slice a1 n1 z1,.slice a2 n2 z2,.slice a3 n3 z3])
  PF Try.f56 [.agg #[.slice a1 n1 z1,.slice a2 n2 z2,.slice a3 n3 z3],iV n] g [.idx b,.bit false,.val (.slice a2 n2 z2),.bit true] =
  some (.tuple #[nS,iV 6],Z1,[],[.len g b,.cmp .lss n 1 false,.ld1 Z1 b 1 (.slice a2 n2 z2),.cmp .gtr n (Int.ofNat n2) true]):=by intros;kernel_rfl
theorem bw_ov(a3:OA)(n3 z3:Nat)(o n1 o2 m b q q1:Nat)(at_:OA)(nt zt:Nat)(lo ln p1 w a w2 x xl xk:Nat)(n j j1 ow pl pl1 s2 e2:Int)(v r:V)(cs news:LV)(E1:Env)(g g1 g2 g3 g4:Hp) :
  let Z1:=sL o n1 6
  let Z2:=sL o2 m 6
  let Z3:V:=.agg #[Z1,Z2,.slice a3 n3 z3]
  let Z4:SH:=.push g (cS [Z1,Z2,.slice a3 n3 z3])
  let Z5:=pT b 1
  PF Try.f56 [Z3,iV n] g [.idx b,.bit false,.val Z2,.bit false,.val Z2,.num j,.offs q,.val (.slice at_ nt zt),.loop (.exit 0) ((6,v)::(2,pT b 0)::(1,iV n)::E1) g1,.val Z2,.num j,.offs q,.val bT] =
  some (.tuple #[v,iV 0],.is g1,[],[.len g b,.cmp .lss n 1 false,.ld1 Z4 b 1 Z2,.cmp .gtr n (Int.ofNat m) false,.ld1 Z4 b 1 Z2,.arith .sub .i64 n 1 j,.off q 0 j m 6,.ld1 Z4 o2 (Nat.succ (Nat.succ (Nat.succ q))) (.slice at_ nt zt),.loop 96 false (loopN Try.f56 0) [(31,iV 0),(30,iN nt),(29,.slice at_ nt zt),(28,pT o2 (Nat.succ (Nat.succ (Nat.succ q)))),(27,pT o2 q),(26,iV j),(25,iV n),(24,Z2),(23,Z5),(6,nS),(22,bF),(21,bF),(20,iN m),(19,Z2),(18,Z5),(17,iV n),(16,bF),(15,bF),(14,iV n),(5,iV 0),(4,nS),(2,pT b 0),(0,Z3),(1,iV n)] Z4 (.exit 0) ((6,v)::(2,pT b 0)::(1,iV n)::E1) g1,.ld1 g1 b 1 Z2,.arith .sub .i64 n 1 j,.off q 0 j m 6,.ld1 g1 o2 (Nat.succ (Nat.succ q)) bT]):=by intros;kernel_rfl
theorem bw_nn(a3:OA)(n3 z3:Nat)(o n1 o2 m b q q1:Nat)(at_:OA)(nt zt:Nat)(lo ln p1 w a w2 x xl xk:Nat)(n j j1 ow pl pl1 s2 e2:Int)(v r:V)(cs news:LV)(E1:Env)(g g1 g2 g3 g4:Hp) :
  let Z1:=sL o n1 6
  let Z2:=sL o2 m 6
  let Z3:V:=.agg #[Z1,Z2,.slice a3 n3 z3]
  let Z4:=pT b 0
  let Z5:LV:=[Z1,Z2,.slice a3 n3 z3]
  let Z6:=sL lo ln 2
  let Z7:V:=.tuple #[nS,iV e2]
  let Z8:SH:=.push g (cS Z5)
  let Z9:=pT b 1
  let Z10:=pT o (Nat.succ (Nat.succ (Nat.succ (Nat.succ (Nat.succ q1)))))
  PF Try.f56 [Z3,iV n] g [.idx b,.bit false,.val Z2,.bit false,.val Z2,.num j,.offs q,.val (.slice at_ nt zt),.loop (.exit 0) ((6,nS)::(2,Z4)::(1,iV n)::E1) g1,.val Z2,.num j,.offs q,.val bF,.val Z2,.num j,.offs q,.val (iV ow),.cells Z5,.val Z1,.num j1,.offs q1,.val Z6,.cells Z5,.ret (iV pl) g2,.num pl1,.cut p1 ln,.ret (iV s2) g3,.ret Z7 g4,.app0] =
  some (.tuple #[nS,iV 0],.is g4,[],[.len g b,.cmp .lss n 1 false,.ld1 Z8 b 1 Z2,.cmp .gtr n (Int.ofNat m) false,.ld1 Z8 b 1 Z2,.arith .sub .i64 n 1 j,.off q 0 j m 6,.ld1 Z8 o2 (Nat.succ (Nat.succ (Nat.succ q))) (.slice at_ nt zt),.loop 96 false (loopN Try.f56 0) [(31,iV 0),(30,iN nt),(29,.slice at_ nt zt),(28,pT o2 (Nat.succ (Nat.succ (Nat.succ q)))),(27,pT o2 q),(26,iV j),(25,iV n),(24,Z2),(23,Z9),(6,nS),(22,bF),(21,bF),(20,iN m),(19,Z2),(18,Z9),(17,iV n),(16,bF),(15,bF),(14,iV n),(5,iV 0),(4,nS),(2,Z4),(0,Z3),(1,iV n)] Z8 (.exit 0) ((6,nS)::(2,Z4)::(1,iV n)::E1) g1,.ld1 g1 b 1 Z2,.arith .sub .i64 n 1 j,.off q 0 j m 6,.ld1 g1 o2 (Nat.succ (Nat.succ q)) bF,.ld1 g1 b 1 Z2,.arith .sub .i64 n 1 j,.off q 0 j m 6,.ld1 g1 o2 q (iV ow),.stat (drawN Try.f56 1),.again g1 79 Z4 Z3,.again g1 79 Z4 Z3,.again g2 79 Z4 Z3,.again g1 79 Z4 Z3,.again g2 79 Z4 Z3,.again g3 79 Z4 Z3,.again g1 76 Z4 Z1,.again g1 76 Z4 Z1,.again g2 76 Z4 Z1,.arith .sub .i64 ow 1 j1,.refl (iV j1),.again g1 33 Z10 Z6,.again g1 33 Z10 Z6,.again g2 33 Z10 Z6,.ldn g1 b 0 3 Z5,.ld1 g1 b 0 Z1,.arith .sub .i64 ow 1 j1,.off q1 0 j1 n1 6,.ld1 g1 o (Nat.succ (Nat.succ (Nat.succ (Nat.succ (Nat.succ q1))))) Z6,.ldn g1 b 0 3 Z5,.call 72 [Z3,iV ow,iV n] g1 (iV pl) g2,.arith .add .i64 pl 1 pl1,.cut (some (iV pl1)) none ln p1 ln,.call 74 [.slice (some { block:=lo,off:=0+p1*2 }) (ln-p1) 2] g2 (iV s2) g3,.call 56 [Z3,iV s2] g3 Z7 g4]):=by intros;kernel_rfl
theorem bw_sn(a3:OA)(n3 z3:Nat)(o n1 o2 m b q q1:Nat)(at_:OA)(nt zt:Nat)(lo ln p1 w a w2 x xl xk:Nat)(n j j1 ow pl pl1 s2 e2:Int)(v r:V)(cs news:LV)(E1:Env)(g g1 g2 g3 g4:Hp) :
  let Z1:=sL o n1 6
  let Z2:=sL o2 m 6
  let Z3:V:=.agg #[Z1,Z2,.slice a3 n3 z3]
  let Z4:=sL w a 1
  let Z5:=pT b 0
  let Z6:LV:=[Z1,Z2,.slice a3 n3 z3]
  let Z7:=sL lo ln 2
  let Z8:V:=.tuple #[nS,iV e2]
  let Z9:SH:=.push g (cS Z6)
  let Z10:=pT b 1
  let Z11:=pT o (Nat.succ (Nat.succ (Nat.succ (Nat.succ (Nat.succ q1)))))
  PF Try.f56 [Z3,iV n] g [.idx b,.bit false,.val Z2,.bit false,.val Z2,.num j,.offs q,.val (.slice at_ nt zt),.loop (.exit 0) ((6,Z4)::(2,Z5)::(1,iV n)::E1) g1,.val Z2,.num j,.offs q,.val bF,.val Z2,.num j,.offs q,.val (iV ow),.cells Z6,.val Z1,.num j1,.offs q1,.val Z7,.cells Z6,.ret (iV pl) g2,.num pl1,.cut p1 ln,.ret (iV s2) g3,.ret Z8 g4,.app0] =
  some (.tuple #[Z4,iV 0],.is g4,[],[.len g b,.cmp .lss n 1 false,.ld1 Z9 b 1 Z2,.cmp .gtr n (Int.ofNat m) false,.ld1 Z9 b 1 Z2,.arith .sub .i64 n 1 j,.off q 0 j m 6,.ld1 Z9 o2 (Nat.succ (Nat.succ (Nat.succ q))) (.slice at_ nt zt),.loop 96 false (loopN Try.f56 0) [(31,iV 0),(30,iN nt),(29,.slice at_ nt zt),(28,pT o2 (Nat.succ (Nat.succ (Nat.succ q)))),(27,pT o2 q),(26,iV j),(25,iV n),(24,Z2),(23,Z10),(6,nS),(22,bF),(21,bF),(20,iN m),(19,Z2),(18,Z10),(17,iV n),(16,bF),(15,bF),(14,iV n),(5,iV 0),(4,nS),(2,Z5),(0,Z3),(1,iV n)] Z9 (.exit 0) ((6,Z4)::(2,Z5)::(1,iV n)::E1) g1,.ld1 g1 b 1 Z2,.arith .sub .i64 n 1 j,.off q 0 j m 6,.ld1 g1 o2 (Nat.succ (Nat.succ q)) bF,.ld1 g1 b 1 Z2,.arith .sub .i64 n 1 j,.off q 0 j m 6,.ld1 g1 o2 q (iV ow),.stat (drawN Try.f56 1),.again g1 79 Z5 Z3,.again g1 79 Z5 Z3,.again g2 79 Z5 Z3,.again g1 79 Z5 Z3,.again g2 79 Z5 Z3,.again g3 79 Z5 Z3,.again g1 76 Z5 Z1,.again g1 76 Z5 Z1,.again g2 76 Z5 Z1,.arith .sub .i64 ow 1 j1,.refl (iV j1),.again g1 33 Z11 Z7,.again g1 33 Z11 Z7,.again g2 33 Z11 Z7,.ldn g1 b 0 3 Z6,.ld1 g1 b 0 Z1,.arith .sub .i64 ow 1 j1,.off q1 0 j1 n1 6,.ld1 g1 o (Nat.succ (Nat.succ (Nat.succ (Nat.succ (Nat.succ q1))))) Z7,.ldn g1 b 0 3 Z6,.call 72 [Z3,iV ow,iV n] g1 (iV pl) g2,.arith .add .i64 pl 1 pl1,.cut (some (iV pl1)) none ln p1 ln,.call 74 [.slice (some { block:=lo,off:=0+p1*2 }) (ln-p1) 2] g2 (iV s2) g3,.call 56 [Z3,iV s2] g3 Z8 g4]):=by intros;kernel_rfl
theorem bw_ns(a3:OA)(n3 z3:Nat)(o n1 o2 m b q q1:Nat)(at_:OA)(nt zt:Nat)(lo ln p1 w a w2 x xl xk:Nat)(n j j1 ow pl pl1 s2 e2:Int)(v r:V)(cs news:LV)(E1:Env)(g g1 g2 g3 g4:Hp) :
  let Z1:=sL o n1 6
  let Z2:=sL o2 m 6
  let Z3:V:=.agg #[Z1,Z2,.slice a3 n3 z3]
  let Z4:=pT b 0
  let Z5:LV:=[Z1,Z2,.slice a3 n3 z3]
  let Z6:=sL lo ln 2
  let Z7:V:=.tuple #[sL x xl 1,iV e2]
  let Z8:SH:=.push g (cS Z5)
  let Z9:=pT b 1
  let Z10:=pT o (Nat.succ (Nat.succ (Nat.succ (Nat.succ (Nat.succ q1)))))
  PF Try.f56 [Z3,iV n] g [.idx b,.bit false,.val Z2,.bit false,.val Z2,.num j,.offs q,.val (.slice at_ nt zt),.loop (.exit 0) ((6,nS)::(2,Z4)::(1,iV n)::E1) g1,.val Z2,.num j,.offs q,.val bF,.val Z2,.num j,.offs q,.val (iV ow),.cells Z5,.val Z1,.num j1,.offs q1,.val Z6,.cells Z5,.ret (iV pl) g2,.num pl1,.cut p1 ln,.ret (iV s2) g3,.ret Z7 g4,.app news news xk w2] =
  some (.tuple #[sL w2 xl 1,iV 0],.push g4 (cS news),[],[.len g b,.cmp .lss n 1 false,.ld1 Z8 b 1 Z2,.cmp .gtr n (Int.ofNat m) false,.ld1 Z8 b 1 Z2,.arith .sub .i64 n 1 j,.off q 0 j m 6,.ld1 Z8 o2 (Nat.succ (Nat.succ (Nat.succ q))) (.slice at_ nt zt),.loop 96 false (loopN Try.f56 0) [(31,iV 0),(30,iN nt),(29,.slice at_ nt zt),(28,pT o2 (Nat.succ (Nat.succ (Nat.succ q)))),(27,pT o2 q),(26,iV j),(25,iV n),(24,Z2),(23,Z9),(6,nS),(22,bF),(21,bF),(20,iN m),(19,Z2),(18,Z9),(17,iV n),(16,bF),(15,bF),(14,iV n),(5,iV 0),(4,nS),(2,Z4),(0,Z3),(1,iV n)] Z8 (.exit 0) ((6,nS)::(2,Z4)::(1,iV n)::E1) g1,.ld1 g1 b 1 Z2,.arith .sub .i64 n 1 j,.off q 0 j m 6,.ld1 g1 o2 (Nat.succ (Nat.succ q)) bF,.ld1 g1 b 1 Z2,.arith .sub .i64 n 1 j,.off q 0 j m 6,.ld1 g1 o2 q (iV ow),.stat (drawN Try.f56 1),.again g1 79 Z4 Z3,.again g1 79 Z4 Z3,.again g2 79 Z4 Z3,.again g1 79 Z4 Z3,.again g2 79 Z4 Z3,.again g3 79 Z4 Z3,.again g1 76 Z4 Z1,.again g1 76 Z4 Z1,.again g2 76 Z4 Z1,.arith .sub .i64 ow 1 j1,.refl (iV j1),.again g1 33 Z10 Z6,.again g1 33 Z10 Z6,.again g2 33 Z10 Z6,.ldn g1 b 0 3 Z5,.ld1 g1 b 0 Z1,.arith .sub .i64 ow 1 j1,.off q1 0 j1 n1 6,.ld1 g1 o (Nat.succ (Nat.succ (Nat.succ (Nat.succ (Nat.succ q1))))) Z6,.ldn g1 b 0 3 Z5,.call 72 [Z3,iV ow,iV n] g1 (iV pl) g2,.arith .add .i64 pl 1 pl1,.cut (some (iV pl1)) none ln p1 ln,.call 74 [.slice (some { block:=lo,off:=0+p1*2 }) (ln-p1) 2] g2 (iV s2) g3,.call 56 [Z3,iV s2] g3 Z7 g4,.appNil g4 x 0 xl xk 1 8 news w2]):=by intros;kernel_rfl
theorem bw_ss(a3:OA)(n3 z3:Nat)(o n1 o2 m b q q1:Nat)(at_:OA)(nt zt:Nat)(lo ln p1 w a w2 x xl xk:Nat)(n j j1 ow pl pl1 s2 e2:Int)(v r:V)(cs news:LV)(E1:Env)(g g1 g2 g3 g4:Hp) :
  let Z1:=sL o n1 6
  let Z2:=sL o2 m 6
  let Z3:V:=.agg #[Z1,Z2,.slice a3 n3 z3]
  let Z4:=pT b 0
  let Z5:LV:=[Z1,Z2,.slice a3 n3 z3]
  let Z6:=sL lo ln 2
  let Z7:V:=.tuple #[sL x xl 1,iV e2]
  let Z8:SH:=.push g (cS Z5)
  let Z9:=pT b 1
  let Z10:=pT o (Nat.succ (Nat.succ (Nat.succ (Nat.succ (Nat.succ q1)))))
  PF Try.f56 [Z3,iV n] g [.idx b,.bit false,.val Z2,.bit false,.val Z2,.num j,.offs q,.val (.slice at_ nt zt),.loop (.exit 0) ((6,sL w a 1)::(2,Z4)::(1,iV n)::E1) g1,.val Z2,.num j,.offs q,.val bF,.val Z2,.num j,.offs q,.val (iV ow),.cells Z5,.val Z1,.num j1,.offs q1,.val Z6,.cells Z5,.ret (iV pl) g2,.num pl1,.cut p1 ln,.ret (iV s2) g3,.ret Z7 g4,.app cs news xk w2] =
  some (.tuple #[sL w2 (a+xl) 1,iV 0],.push (.set g4 w .dead) (cS cs),[],[.len g b,.cmp .lss n 1 false,.ld1 Z8 b 1 Z2,.cmp .gtr n (Int.ofNat m) false,.ld1 Z8 b 1 Z2,.arith .sub .i64 n 1 j,.off q 0 j m 6,.ld1 Z8 o2 (Nat.succ (Nat.succ (Nat.succ q))) (.slice at_ nt zt),.loop 96 false (loopN Try.f56 0) [(31,iV 0),(30,iN nt),(29,.slice at_ nt zt),(28,pT o2 (Nat.succ (Nat.succ (Nat.succ q)))),(27,pT o2 q),(26,iV j),(25,iV n),(24,Z2),(23,Z9),(6,nS),(22,bF),(21,bF),(20,iN m),(19,Z2),(18,Z9),(17,iV n),(16,bF),(15,bF),(14,iV n),(5,iV 0),(4,nS),(2,Z4),(0,Z3),(1,iV n)] Z8 (.exit 0) ((6,sL w a 1)::(2,Z4)::(1,iV n)::E1) g1,.ld1 g1 b 1 Z2,.arith .sub .i64 n 1 j,.off q 0 j m 6,.ld1 g1 o2 (Nat.succ (Nat.succ q)) bF,.ld1 g1 b 1 Z2,.arith .sub .i64 n 1 j,.off q 0 j m 6,.ld1 g1 o2 q (iV ow),.stat (drawN Try.f56 1),.again g1 79 Z4 Z3,.again g1 79 Z4 Z3,.again g2 79 Z4 Z3,.again g1 79 Z4 Z3,.again g2 79 Z4 Z3,.again g3 79 Z4 Z3,.again g1 76 Z4 Z1,.again g1 76 Z4 Z1,.again g2 76 Z4 Z1,.arith .sub .i64 ow 1 j1,.refl (iV j1),.again g1 33 Z10 Z6,.again g1 33 Z10 Z6,.again g2 33 Z10 Z6,.ldn g1 b 0 3 Z5,.ld1 g1 b 0 Z1,.arith .sub .i64 ow 1 j1,.off q1 0 j1 n1 6,.ld1 g1 o (Nat.succ (Nat.succ (Nat.succ (Nat.succ (Nat.succ q1))))) Z6,.ldn g1 b 0 3 Z5,.call 72 [Z3,iV ow,iV n] g1 (iV pl) g2,.arith .add .i64 pl 1 pl1,.cut (some (iV pl1)) none ln p1 ln,.call 74 [.slice (some { block:=lo,off:=0+p1*2 }) (ln-p1) 2] g2 (iV s2) g3,.call 56 [Z3,iV s2] g3 Z7 g4,.app g4 w 0 a x 0 xl xk 1 8 cs news w2]):=by intros;kernel_rfl
theorem bl_out(v:V)(ao a2 a3:OA)(n2 n3 z2 z3 zo:Nat)(o n1 b e q so nt z w a w2 x xl xk w3:Nat)(n i i1 mm j s2 e2:Int)(cs cs2 news:LV)(g g3 g4:Hp) :
  PC 96 false (loopN Try.f56 0) [(31,iV i),(30,iN nt),(29,.slice ao nt zo),(6,v),(2,pT b 0),(1,iV n)] g [.bit false] =
  some (.exit 0,[(32,bF),(31,iV i),(30,iN nt),(29,.slice ao nt zo),(6,v),(2,pT b 0),(1,iV n)],.is g,[],[.cmp .lss i (Int.ofNat nt) false]):=by intros;kernel_rfl
theorem bl_skip(v:V)(ao a2 a3:OA)(n2 n3 z2 z3 zo:Nat)(o n1 b e q so nt z w a w2 x xl xk w3:Nat)(n i i1 mm j s2 e2:Int)(cs cs2 news:LV)(g g3 g4:Hp) :
  let Z1:=pT b 0
  let Z2:=sL o n1 6
  cutP [31,8,30,29,6,2,1] (PC 96 false (loopN Try.f56 0) [(31,iV i),(30,iN nt),(29,sL so nt 1),(6,v),(2,Z1),(1,iV n)] g [.bit true,.offs e,.val (iV mm),.val Z2,.num j,.offs q,.val bT,.num i1]) =
  some (.normal,[(31,iV i1),(8,iV mm),(30,iN nt),(29,sL so nt 1),(6,v),(2,Z1),(1,iV n)],.is g,[],[.cmp .lss i (Int.ofNat nt) true,.off e 0 i nt 1,.ld1 g so e (iV mm),.ld1 g b 0 Z2,.arith .sub .i64 mm 1 j,.off q 0 j n1 6,.ld1 g o (Nat.succ q) bT,.arith .add .i64 i 1 i1]):=by intros;kernel_rfl
theorem bl_nn(v:V)(ao a2 a3:OA)(n2 n3 z2 z3 zo:Nat)(o n1 b e q so nt z w a w2 x xl xk w3:Nat)(n i i1 mm j s2 e2:Int)(cs cs2 news:LV)(g g3 g4:Hp) :
  let Z1:=pT b 0
  let Z2:=sL o n1 6
  let Z3:LV:=[Z2,.slice a2 n2 z2,.slice a3 n3 z3]
  let Z4:V:=.tuple #[nS,iV e2]
  let Z5:=sL w2 1 1
  let Z6:V:=.agg #[Z2,.slice a2 n2 z2,.slice a3 n3 z3]
  let Z7:AObj:=cS [iV mm]
  let Z8:SH:=.push g Z7
  let Z9:SH:=.push Z8 Z7
  cutP [31,6,10,9,8,30,29,2,1] (PC 96 false (loopN Try.f56 0) [(31,iV i),(30,iN nt),(29,sL so nt 1),(6,nS),(2,Z1),(1,iV n)] g [.bit true,.offs e,.val (iV mm),.val Z2,.num j,.offs q,.val bF,.idx z,.app [iV mm] [iV mm] 0 w2,.cells Z3,.cells Z3,.ret (iV s2) g3,.ret Z4 g4,.app0,.num i1]) =
  some (.normal,[(31,iV i1),(6,Z5),(10,iV e2),(9,nS),(8,iV mm),(30,iN nt),(29,sL so nt 1),(2,Z1),(1,iV n)],.is g4,[],[.cmp .lss i (Int.ofNat nt) true,.off e 0 i nt 1,.ld1 g so e (iV mm),.ld1 g b 0 Z2,.arith .sub .i64 mm 1 j,.off q 0 j n1 6,.ld1 g o (Nat.succ q) bF,.len g z,.appNil Z8 z 0 1 0 1 8 [iV mm] w2,.stat (drawN Try.f56 0),.again Z9 79 Z1 Z6,.again Z9 79 Z1 Z6,.again g3 79 Z1 Z6,.ldn Z9 b 0 3 Z3,.ldn Z9 b 0 3 Z3,.call 73 [Z6,iV mm] Z9 (iV s2) g3,.call 56 [Z6,iV s2] g3 Z4 g4,.arith .add .i64 i 1 i1]):=by intros;kernel_rfl
theorem bl_sn(v:V)(ao a2 a3:OA)(n2 n3 z2 z3 zo:Nat)(o n1 b e q so nt z w a w2 x xl xk w3:Nat)(n i i1 mm j s2 e2:Int)(cs cs2 news:LV)(g g3 g4:Hp) :
  let Z1:=sL w a 1
  let Z2:=pT b 0
  let Z3:=sL o n1 6
  let Z4:LV:=[Z3,.slice a2 n2 z2,.slice a3 n3 z3]
  let Z5:V:=.tuple #[nS,iV e2]
  let Z6:=sL w2 (Nat.succ a) 1
  let Z7:V:=.agg #[Z3,.slice a2 n2 z2,.slice a3 n3 z3]
  let Z8:SH:=.push g (cS [iV mm])
  let Z9:SH:=.push (.set Z8 w .dead) (cS cs)
  cutP [31,6,10,9,8,30,29,2,1] (PC 96 false (loopN Try.f56 0) [(31,iV i),(30,iN nt),(29,sL so nt 1),(6,Z1),(2,Z2),(1,iV n)] g [.bit true,.offs e,.val (iV mm),.val Z3,.num j,.offs q,.val bF,.idx z,.app cs [iV mm] 0 w2,.cells Z4,.cells Z4,.ret (iV s2) g3,.ret Z5 g4,.app0,.num i1]) =
  some (.normal,[(31,iV i1),(6,Z6),(10,iV e2),(9,nS),(8,iV mm),(30,iN nt),(29,sL so nt 1),(2,Z2),(1,iV n)],.is g4,[],[.cmp .lss i (Int.ofNat nt) true,.off e 0 i nt 1,.ld1 g so e (iV mm),.ld1 g b 0 Z3,.arith .sub .i64 mm 1 j,.off q 0 j n1 6,.ld1 g o (Nat.succ q) bF,.len g z,.app Z8 w 0 a z 0 1 0 1 8 cs [iV mm] w2,.stat (drawN Try.f56 0),.again Z9 79 Z2 Z7,.again Z9 79 Z2 Z7,.again g3 79 Z2 Z7,.ldn Z9 b 0 3 Z4,.ldn Z9 b 0 3 Z4,.call 73 [Z7,iV mm] Z9 (iV s2) g3,.call 56 [Z7,iV s2] g3 Z5 g4,.arith .add .i64 i 1 i1]):=by intros;kernel_rfl
theorem bl_ns(v:V)(ao a2 a3:OA)(n2 n3 z2 z3 zo:Nat)(o n1 b e q so nt z w a w2 x xl xk w3:Nat)(n i i1 mm j s2 e2:Int)(cs cs2 news:LV)(g g3 g4:Hp) :
  let Z1:=pT b 0
  let Z2:=sL o n1 6
  let Z3:LV:=[Z2,.slice a2 n2 z2,.slice a3 n3 z3]
  let Z4:=sL x xl 1
  let Z5:V:=.tuple #[Z4,iV e2]
  let Z6:=sL w3 (1+xl) 1
  let Z7:=sL w2 1 1
  let Z8:V:=.agg #[Z2,.slice a2 n2 z2,.slice a3 n3 z3]
  let Z9:AObj:=cS [iV mm]
  let Z10:SH:=.push g Z9
  let Z11:SH:=.push Z10 Z9
  cutP [31,6,10,9,8,30,29,2,1] (PC 96 false (loopN Try.f56 0) [(31,iV i),(30,iN nt),(29,sL so nt 1),(6,nS),(2,Z1),(1,iV n)] g [.bit true,.offs e,.val (iV mm),.val Z2,.num j,.offs q,.val bF,.idx z,.app [iV mm] [iV mm] 0 w2,.cells Z3,.cells Z3,.ret (iV s2) g3,.ret Z5 g4,.app cs2 news xk w3,.num i1]) =
  some (.normal,[(31,iV i1),(6,Z6),(10,iV e2),(9,Z4),(8,iV mm),(30,iN nt),(29,sL so nt 1),(2,Z1),(1,iV n)],.push (.set g4 w2 .dead) (cS cs2),[],[.cmp .lss i (Int.ofNat nt) true,.off e 0 i nt 1,.ld1 g so e (iV mm),.ld1 g b 0 Z2,.arith .sub .i64 mm 1 j,.off q 0 j n1 6,.ld1 g o (Nat.succ q) bF,.len g z,.appNil Z10 z 0 1 0 1 8 [iV mm] w2,.stat (drawN Try.f56 0),.again Z11 79 Z1 Z8,.again Z11 79 Z1 Z8,.again g3 79 Z1 Z8,.ldn Z11 b 0 3 Z3,.ldn Z11 b 0 3 Z3,.call 73 [Z8,iV mm] Z11 (iV s2) g3,.call 56 [Z8,iV s2] g3 Z5 g4,.app g4 w2 0 1 x 0 xl xk 1 8 cs2 news w3,.arith .add .i64 i 1 i1]):=by intros;kernel_rfl
theorem bl_ss(v:V)(ao a2 a3:OA)(n2 n3 z2 z3 zo:Nat)(o n1 b e q so nt z w a w2 x xl xk w3:Nat)(n i i1 mm j s2 e2:Int)(cs cs2 news:LV)(g g3 g4:Hp) :
  let Z1:=sL w a 1
  let Z2:=pT b 0
  let Z3:=sL o n1 6
  let Z4:LV:=[Z3,.slice a2 n2 z2,.slice a3 n3 z3]
  let Z5:=sL x xl 1
  let Z6:V:=.tuple #[Z5,iV e2]
  let Z7:=sL w3 (a+1+xl) 1
  let Z8:=sL w2 (Nat.succ a) 1
  let Z9:V:=.agg #[Z3,.slice a2 n2 z2,.slice a3 n3 z3]
  let Z10:SH:=.push g (cS [iV mm])
  let Z11:SH:=.push (.set Z10 w .dead) (cS cs)
  cutP [31,6,10,9,8,30,29,2,1] (PC 96 false (loopN Try.f56 0) [(31,iV i),(30,iN nt),(29,sL so nt 1),(6,Z1),(2,Z2),(1,iV n)] g [.bit true,.offs e,.val (iV mm),.val Z3,.num j,.offs q,.val bF,.idx z,.app cs [iV mm] 0 w2,.cells Z4,.cells Z4,.ret (iV s2) g3,.ret Z6 g4,.app cs2 news xk w3,.num i1]) =
  some (.normal,[(31,iV i1),(6,Z7),(10,iV e2),(9,Z5),(8,iV mm),(30,iN nt),(29,sL so nt 1),(2,Z2),(1,iV n)],.push (.set g4 w2 .dead) (cS cs2),[],[.cmp .lss i (Int.ofNat nt) true,.off e 0 i nt 1,.ld1 g so e (iV mm),.ld1 g b 0 Z3,.arith .sub .i64 mm 1 j,.off q 0 j n1 6,.ld1 g o (Nat.succ q) bF,.len g z,.app Z10 w 0 a z 0 1 0 1 8 cs [iV mm] w2,.stat (drawN Try.f56 0),.again Z11 79 Z2 Z9,.again Z11 79 Z2 Z9,.again g3 79 Z2 Z9,.ldn Z11 b 0 3 Z4,.ldn Z11 b 0 3 Z4,.call 73 [Z9,iV mm] Z11 (iV s2) g3,.call 56 [Z9,iV s2] g3 Z6 g4,.app g4 w2 0 (Nat.succ a) x 0 xl xk 1 8 cs2 news w3,.arith .add .i64 i 1 i1]):=by intros;kernel_rfl
end Go.Proofs.Ytahomnlkkafbjaa.q14p
namespace Go.Proofs.Ytahomnlkkafbjaa.r40p
open Go Go.Ev
end Go.Proofs.Ytahomnlkkafbjaa.r40p
namespace Go.Proofs.Ytahomnlkkafbjaa.tr
open Go Go.Ev
section
variable {h:Hp} {ρ:Lay} {t:TS} {c b:Nat}
theorem chainG_len{t:TS}{c:Nat}(ok:TOk c t):∀ (f k top:Nat),(t.chainG f k top).length<=f*(c+2)
 | 0,_,_=>by simp[TS.chainG]
 | f+1,k,top=>by
  rw[TS.chainG]
  cases hx:t.tks[k]? with
  | none=>simp
  | some x =>
   have hl:=ok.len k x hx
   have e:(f+1)*(c+2)=f*(c+2)+(c+2):=by rw[Nat.add_mul,Nat.one_mul]
   have h1:((x.opn.take top).reverse.map lkP).length<=c:=by simp;omega
   simp only[List.length_append,List.length_singleton]
   rw[e]
   cases hi:x.inn with
   | none=>simp only[List.length_nil];omega
   | some s =>
    simp only
    cases hy:t.scs[s]? with
    | none=>simp only[List.length_nil];omega
    | some y =>
     simp only
     cases hz:t.tks[y.ow]? with
     | none=>simp only[List.length_nil];omega
     | some z =>
      have:=chainG_len ok f y.ow (ixO (some s) z.opn)
      simp only[List.length_cons]
      omega
end
end Go.Proofs.Ytahomnlkkafbjaa.tr
namespace Go.Proofs.Ytahomnlkkafbjaa.rf
open Go Go.Ev Go.Proofs.Ytahomnlkkafbjaa.tr
section
variable {h g G:Hp} {lo n z w:Nat} {v:Value} {cs news:List Value}
theorem SlV.cases(A:SlV g lo v n z cs):(n=0/\cs=[]/\v=.slice none 0 0)\/∃ w,n≠0/\cs.length=n*z/\v=.slice (some ⟨w,0,none⟩) n z/\g[w]?=some (.cells cs true)/\lo<=w:=by
 rcases A with A | ⟨a1,a2,w,a3,a4,a5⟩
 ·exact .inl A
 ·exact .inr ⟨w,a1,a2,a3,a4,a5⟩
theorem SlV.grow(A:SlV g lo v n z cs)(K:Grow g G):SlV G lo v n z cs:=A.keep K fun _ e=>e.elim
theorem ac_n(hz:news.length=z)(hlo:lo<=g.length):SlV (g++[AObj.cells news true]++[AObj.cells news true]) lo (.slice (some ⟨g.length+1,0,none⟩) 1 z) 1 z news :=
 .inr ⟨by omega,by omega,_,rfl,gV _ (pL _ _),by omega⟩
theorem ac_s(hz:news.length=z)(hlo:lo<=g.length)(hl:cs.length=n*z):SlV ((g++[AObj.cells news true]).set w .dead++[AObj.cells (cs++news) true]) lo (.slice (some ⟨g.length+1,0,none⟩) (n+1) z) (n+1) z (cs++news) :=
 .inr ⟨by omega,by rw[List.length_append,hl,hz,Nat.add_mul];omega,_,rfl,gV _ (by rw[sN,pL]),by omega⟩
theorem ac_sA{P:Program}{bytes:Nat}(hw:g[w]?=some (.cells cs true))(hl:cs.length=n*z)(hz:news.length=z)(ho:news.all Value.oneCell'=true)(hn:n<=1000000)(hb:bytes<=1000) :
  (Asm.app (.push (.is g) (.cells news true)) w 0 n g.length 0 1 0 z bytes (cs++news) news (g.length+1)).holds P :=
 a_appSJ (m:=0) (junk:=[]) (junk2:=[]) (by rw[List.append_nil];exact gP hw) hl (by rw[List.append_nil];exact gW _ _) (by omega) ho hn (by omega) hb (pL _ _)
theorem ac_nA{P:Program}{bytes:Nat}(hz:news.length=z)(ho:news.all Value.oneCell'=true)(hb:bytes<=1000):(Asm.appNil (.push (.is g) (.cells news true)) g.length 0 1 0 z bytes news (g.length+1)).holds P :=
 a_appNJ (m:=0) (junk:=[]) (by rw[List.append_nil];exact gW _ _) (by omega) ho (by omega) hb (pL _ _)
theorem ac_sK(K:Grow h g)(hw:h.length<=w):Grow h ((g++[AObj.cells news true]).set w .dead++[AObj.cells (cs++news) true]):=Grow.push (Grow.set (Grow.push K _) hw _) _
end
section
variable {h h' g G:Hp} {σ σ':RLay} {t t':TS} {c k s:Nat}
theorem prL_one(p:Pr):prL [p]=prC p:=by simp[prL]
theorem prL_snoc(l:List Pr)(p:Pr):prL (l++[p])=prL l++prC p:=by rw[prL_app,prL_one]
theorem chainR_in{H1:Hp}{b:Nat}(a:RAt H1 σ t)(ok:TOk c t)(hc:c<=1000){x:Tk}(hx:t.tks[k]?=some x){top:Nat}(htop:top<=x.opn.length){R:List Value}(hb:H1[b]?=some (.cells R true))(hR:R=rT σ t)(acc:List Pr)(hlen:acc.length+top<=200000){v:Value}{g:Hp}(K:Grow H1 g)(A:SlV g H1.length v acc.length 2 (prL acc))
  {E:Env} (hE:EnvLe [(8,iV ((top:Int)-1)),(6,v),(2,ptr b),(1,iV ((k+1:Nat):Int))] E) :
  ∃ E1 g1 v1,EnvLe [(6,v1),(2,ptr b),(1,iV ((k+1:Nat):Int))] E1/\LRun Try.prog 74 false (loopN Try.f55 1) E g (.exit 2) E1 g1/\Grow H1 g1/\SlV g1 H1.length v1 (acc.length+top) 2 (prL (acc++(x.opn.take top).reverse.map lkP)):=by
 have n64:=ok.n64
 have hln:=ok.len k x hx
 have hk:=gTq hx
 obtain⟨o,ho⟩:=a.tsO hx
 have hR0:R[0]?=some (.slice (some ⟨o,0,none⟩) t.tks.length 6):=by rw[hR,rT,ho];rfl
 have SB:(Asm.arith .sub .i64 ((k+1:Nat):Int) 1 (k:Int)).holds Try.prog:=subI (by omega) (by omega) (by omega)
 have OF:(Asm.off (k*6) 0 (k:Int) t.tks.length 6).holds Try.prog:=offI (q:=k) rfl hk (by omega)
 obtain⟨E1,g1,⟨v1,q1,K1,A1⟩,hl⟩:=for_loop (P:=Try.prog) (n:=74) (rd:=false) (b:=loopN Try.f55 1) (xo:=.exit 2) (by simp) (len:=top) (Q:=fun E g=>∃ v,EnvLe [(6,v),(2,ptr b),(1,iV ((k+1:Nat):Int))] E/\Grow H1 g/\SlV g H1.length v (acc.length+top) 2 (prL (acc++(x.opn.take top).reverse.map lkP)))
  (fun i E g=>∃ v,EnvLe [(8,iV ((top:Int)-1-(i:Int))),(6,v),(2,ptr b),(1,iV ((k+1:Nat):Int))] E/\Grow H1 g/\SlV g H1.length v (acc.length+i) 2 (prL (acc++((x.opn.take top).reverse.take i).map lkP)))
  (fun i E g hi ⟨v,hE,Kg,A⟩=>by
   obtain⟨p,hp⟩:∃ p,(x.opn.take top).reverse[i]?=some p:=⟨_,List.getElem?_eq_getElem (by simp;omega)⟩
   have hlt:(x.opn.take top).length=top:=by simp;omega
   have hp':x.opn[top-1-i]?=some p:=by
    rw[List.getElem?_reverse (by omega),hlt,List.getElem?_take,if_pos (by omega)] at hp
    exact hp
   obtain⟨so,hso⟩:=a.opO hx (i:=top-1-i) (by omega)
   have e1:(top:Int)-1-(i:Int)=((top-1-i:Nat):Int):=by omega
   have e2:(top:Int)-1-((i+1:Nat):Int)=((top-1-i:Nat):Int)-1:=by omega
   rw[e1] at hE
   have L:=a.opC hso hx hp' (P:=Try.prog) (s:=.is g) Kg
   rw[lkC_eq] at L
   have LO:(Asm.ld1 (.is g) o (k*6+5) (.slice (some ⟨so,0,none⟩) x.opn.length 2)).holds Try.prog:=a.tsC ho hx (d:=5) (by simp[rk,TkV.C,hso,sA,sZ]) Kg
   have gb:=Kg.get hb
   have et:acc++((x.opn.take top).reverse.take (i+1)).map lkP=(acc++((x.opn.take top).reverse.take i).map lkP)++[lkP p]:=by rw[take_one hp,List.map_append,List.append_assoc];rfl
   rw[e2,et,prL_snoc,<- Nat.add_assoc]
   have OE:(Asm.off ((top-1-i)*2) 0 ((top-1-i:Nat):Int) x.opn.length 2).holds Try.prog:=offI (q:=top-1-i) rfl (by omega) (by omega)
   have SU:(Asm.arith .sub .i64 ((top-1-i:Nat):Int) 1 (((top-1-i:Nat):Int)-1)).holds Try.prog:=subI rfl (by omega) (by omega)
   have GE:(Asm.cmp .geq ((top-1-i:Nat):Int) 0 true).holds Try.prog:=geT (by omega)
   have hz:(prC (lkP p)).length=2:=rfl
   rcases SlV.cases A with⟨n0,a1,a2⟩ | ⟨w,n0,a1,a2,a3,a4⟩
   ·subst a2
    have:=Kg.1
    obtain⟨E2,q1,q2⟩:=pvK 0 hE (q14p.ci_n .nilFunc o t.tks.length b (k*6) so x.opn.length ((top-1-i)*2) g.length 0 0 (g.length+1) ((k+1:Nat):Int) k _ (((top-1-i:Nat):Int)-1) (lkK p) (lkN p) [] g)
     ⟨GE,aL gb hR0,SB,OF,LO,OE,L,rfl,ac_nA hz rfl (by omega),SU,trivial⟩
    rw[a1,n0]
    exact⟨E2,_,⟨_,tR q1,Grow.push (Grow.push Kg _) _,ac_n hz (by omega)⟩,q2⟩
   ·subst a2
    have:=Kg.1
    obtain⟨E2,q1,q2⟩:=pvK 0 hE (q14p.ci_s .nilFunc o t.tks.length b (k*6) so x.opn.length ((top-1-i)*2) g.length w (acc.length+i) (g.length+1) ((k+1:Nat):Int) k _ (((top-1-i:Nat):Int)-1) (lkK p) (lkN p) (prL (acc++((x.opn.take top).reverse.take i).map lkP)++prC (lkP p)) g)
     ⟨GE,aL gb hR0,SB,OF,LO,OE,L,rfl,ac_sA a3 a1 hz rfl (by omega) (by omega),SU,trivial⟩
    exact⟨E2,_,⟨_,tR q1,ac_sK Kg a4,ac_s hz (by omega) a1⟩,q2⟩)
  (fun E g ⟨v,hE,Kg,A⟩=>by
   rw[List.take_of_length_le (by simp;omega)] at A
   obtain⟨E2,q1,q2⟩:=pvC 0 hE (q14p.ci_out v 0 0 b 0 0 0 0 0 0 0 0 ((k+1:Nat):Int) 0 _ 0 0 0 [] g) ⟨geF (by omega),trivial⟩
   exact⟨E2,_,⟨v,tR q1,Kg,A⟩,q2⟩)
  E g ⟨v,by rw[show ((0:Nat):Int)=0 from rfl,Int.sub_zero];exact hE,K,by simpa using A⟩
 exact⟨E1,g1,v1,q1,hl,K1,A1⟩
end
end Go.Proofs.Ytahomnlkkafbjaa.rf
namespace Go.Proofs.Ytahomnlkkafbjaa.rf
open Go Go.Ev Go.Proofs.Ytahomnlkkafbjaa.tr
section
variable {h h' g G:Hp} {σ σ':RLay} {t t':TS} {c k s:Nat}
theorem up_open(W:WI none t){x:Tk}{y:Sc}(hx:t.tks[k]?=some x)(he:x.en=false)(hi:x.inn=some s)(hy:t.scs[s]?=some y){z:Tk}(hz:t.tks[y.ow]?=some z):y.ow<k/\some s∈z.opn/\z.en=false:=by
 have hm:k∈y.tks:=(W.mem s y k hy).2 ⟨x,hx,hi⟩
 have hr:t.rn k=true:=by rw[rn_of hx,he];rfl
 have hp:0<y.tks.countP t.rn:=List.countP_pos_iff.2 ⟨k,hm,hr⟩
 have hl:=W.live s y hy
 have hov:y.ov=false:=by
  cases e:y.ov with
  | false=>rfl
  | true=>have:=W.ov2 s y hy e;omega
 have hmem:=(W.ov s y z hy hz).1 hov
 refine⟨W.up k x s y hx hi hy,hmem,?_⟩
 cases e:z.en with
 | false=>rfl
 | true=>rw[W.en _ z hz e] at hmem;cases hmem
theorem chainG_at{f top:Nat}{x:Tk}(hx:t.tks[k]?=some x)(hi:x.inn=none):t.chainG (f+1) k top=(x.opn.take top).reverse.map lkP++[(1,((k+1:Nat):Int))]:=by
 simp only[TS.chainG,hx,hi,List.append_nil]
theorem chainG_up{f top:Nat}{x z:Tk}{y:Sc}(hx:t.tks[k]?=some x)(hi:x.inn=some s)(hy:t.scs[s]?=some y)(hz:t.tks[y.ow]?=some z):t.chainG (f+1) k top=((x.opn.take top).reverse.map lkP++[(1,((k+1:Nat):Int))])++[lkP (some s)]++t.chainG f y.ow (ixO (some s) z.opn):=by
 simp only[TS.chainG,hx,hi,hy,hz]
 simp
theorem ixO_le{v:Option Nat}:∀ {l:List (Option Nat)},ixO v l<=l.length
 | []=>Nat.le_refl _
 | x::l=>by
  rw[ixO]
  split
  ·exact Nat.zero_le _
  ·have:=ixO_le (v:=v) (l:=l);simp;omega
theorem chainR_out{H1:Hp}{b:Nat}(a:RAt H1 σ t)(ok:TOk c t)(W:WI none t)(hc:c<=1000){R:List Value}(hb:H1[b]?=some (.cells R true))(hR:R=rT σ t) :
  ∀ (f k top:Nat) (x:Tk) (acc:List Pr) (v:Value) (g:Hp) (E:Env),k<f->t.tks[k]?=some x->x.en=false->top<=x.opn.length->acc.length+(t.chainG f k top).length<=200000 ->
   EnvLe [(7,iV (top:Int)),(6,v),(2,ptr b),(1,iV ((k+1:Nat):Int))] E->Grow H1 g->SlV g H1.length v acc.length 2 (prL acc) ->
   ∃ E1 g1 v1,EnvLe [(6,v1)] E1/\LRun Try.prog 74 false (loopN Try.f55 0) E g (.exit 0) E1 g1/\Grow H1 g1/\SlV g1 H1.length v1 (acc.length+(t.chainG f k top).length) 2 (prL (acc++t.chainG f k top)):=by
 intro f
 induction f with
 | zero=>intro k _ _ _ _ _ _ h;omega
 | succ f ih =>
  intro k top x acc v g E hkf hx he htop hlen hE K A
  have n64:=ok.n64
  have n200:=ok.n200
  have hln:=ok.len k x hx
  have hk:=gTq hx
  obtain⟨o,ho⟩:=a.tsO hx
  have hR0:R[0]?=some (.slice (some ⟨o,0,none⟩) t.tks.length 6):=by rw[hR,rT,ho];rfl
  have SB:(Asm.arith .sub .i64 ((k+1:Nat):Int) 1 (k:Int)).holds Try.prog:=subI (by omega) (by omega) (by omega)
  have OF:(Asm.off (k*6) 0 (k:Int) t.tks.length 6).holds Try.prog:=offI (q:=k) rfl hk (by omega)
  have ST:(Asm.arith .sub .i64 (top:Int) 1 ((top:Int)-1)).holds Try.prog:=subI rfl (by omega) (by omega)
  have GT:(Asm.cmp .gtr ((k+1:Nat):Int) 0 true).holds Try.prog:=gtT (by omega)
  have hlt:((x.opn.take top).reverse.map lkP).length=top:=by simp;omega
  have hlen0:top+1<=(t.chainG (f+1) k top).length:=by
   simp only[TS.chainG,hx,List.length_append,hlt,List.length_singleton]
   omega
  obtain⟨E1,g1,v1,hE1,hl,K1,A1⟩:=chainR_in a ok hc hx htop hb hR acc (by omega) K A (EnvLe.refl _)
  obtain⟨E3,he3,rfl⟩:∃ E3,EnvLe ((6,v1)::(2,ptr b)::(1,iV ((k+1:Nat):Int))::E3) E1/\E3=E1:=⟨E1,.add (.add (.add (.refl _) (hE1 _ _ rfl)) (hE1 _ _ rfl)) (hE1 _ _ rfl),rfl⟩
  obtain⟨l1,hl1⟩:∃ l1,l1=acc++(x.opn.take top).reverse.map lkP:=⟨_,rfl⟩
  have hl1n:l1.length=acc.length+top:=by rw[hl1,List.length_append,hlt]
  rw[<- hl1] at A1
  have gb1:=K1.get hb
  have gl1:=K1.1
  have hz:(prC (1,((k+1:Nat):Int))).length=2:=rfl
  have out:∀ {E':Env} {v':Value} {g':Hp},EnvLe [(6,v'),(2,ptr b),(1,iV 0)] E'->∃ E2,EnvLe [(6,v')] E2/\CRun Try.prog 74 false (loopN Try.f55 0) E' g' (.exit 0) E2 g':=fun {E' v' g'} hE'=>by
   obtain⟨E2,q1,q2⟩:=pvC 0 hE' (q14p.co_out v' none none 0 0 0 0 0 0 0 b 0 0 0 0 0 0 0 0 (top:Int) 0 0 0 0 0 0 0 [] [] [] g' g' g' g') ⟨gtF (by omega),trivial⟩
   exact⟨E2,tR q1,q2⟩
  have hl2n:(l1++[(1,((k+1:Nat):Int))]).length=l1.length+1:=by simp
  have A1c:=SlV.cases A1
  rw[<- hl1n] at A1c
  cases hin:x.inn with
  | none =>
   have ec:=chainG_at (t:=t) (f:=f) (top:=top) hx hin
   have LI:∀ G:Hp,Grow H1 G->(Asm.ld1 (.is G) o (k*6) (iV 0)).holds Try.prog:=fun G KG=>a.tsC ho hx (d:=0) (by simp[rk,tkV,TkV.C,hin,lkN]) KG
   have ecn:acc.length+(t.chainG (f+1) k top).length=l1.length+1:=by rw[ec,List.length_append,hlt,List.length_singleton,hl1n];omega
   have ecl:acc++t.chainG (f+1) k top=l1++[(1,((k+1:Nat):Int))]:=by rw[ec,hl1,List.append_assoc]
   rw[ecn,ecl,prL_snoc]
   rcases A1c with⟨n0,a1,a2⟩ | ⟨w,n0,a1,a2,a3,a4⟩
   ·subst a2
    have KG:Grow H1 (g1++[AObj.cells (prC (1,((k+1:Nat):Int))) true]++[AObj.cells (prC (1,((k+1:Nat):Int))) true]):=Grow.push (Grow.push K1 _) _
    obtain⟨E2,q1,q2⟩:=pvK 0 hE (q14p.co_endn v none none 0 0 0 o t.tks.length 0 0 b (k*6) 0 g1.length 0 0 (g1.length+1) 0 0 (top:Int) ((top:Int)-1) ((k+1:Nat):Int) k 0 0 0 0 [] [] E3 g g1 g1 g1)
     ⟨GT,ST,a_loop (by kernel_rfl) (.add (.add (.add (.add (.nil _) rfl) rfl) rfl) rfl) he3 hl,rfl,ac_nA hz rfl (by omega),aL (KG.get hb) hR0,SB,OF,LI _ KG,gtF (by omega),trivial⟩
    obtain⟨E4,r1,r2⟩:=out (E':=E2) (v':=.slice (some ⟨g1.length+1,0,none⟩) 1 2) (tR q1)
    refine⟨E4,_,_,r1,.step q2 (.last r2 (by simp)),KG,?_⟩
    rw[a1,n0,List.nil_append,Nat.zero_add]
    exact ac_n hz gl1
   ·subst a2
    have KG:Grow H1 ((g1++[AObj.cells (prC (1,((k+1:Nat):Int))) true]).set w .dead++[AObj.cells (prL l1++prC (1,((k+1:Nat):Int))) true]):=ac_sK K1 a4
    obtain⟨E2,q1,q2⟩:=pvK 0 hE (q14p.co_ends v none none 0 0 0 o t.tks.length 0 0 b (k*6) 0 g1.length w l1.length (g1.length+1) 0 0 (top:Int) ((top:Int)-1) ((k+1:Nat):Int) k 0 0 0 0 (prL l1++prC (1,((k+1:Nat):Int))) [] E3 g g1 g1 g1)
     ⟨GT,ST,a_loop (by kernel_rfl) (.add (.add (.add (.add (.nil _) rfl) rfl) rfl) rfl) he3 hl,rfl,ac_sA a3 a1 hz rfl (by omega) (by omega),aL (KG.get hb) hR0,SB,OF,LI _ KG,gtF (by omega),trivial⟩
    obtain⟨E4,r1,r2⟩:=out (E':=E2) (v':=.slice (some ⟨g1.length+1,0,none⟩) (l1.length+1) 2) (tR q1)
    exact⟨E4,_,_,r1,.step q2 (.last r2 (by simp)),KG,ac_s hz gl1 a1⟩
  | some s =>
   have hsl:=ok.inn k x s hx hin
   obtain⟨y,hy⟩:∃ y,t.scs[s]?=some y:=⟨_,List.getElem?_eq_getElem hsl⟩
   obtain⟨z,hzz⟩:∃ z,t.tks[y.ow]?=some z:=⟨_,List.getElem?_eq_getElem (ok.ow s y hy)⟩
   obtain⟨hlt2,hmem,hze⟩:=up_open W hx he hin hy hzz
   have hzl:=gTq hzz
   have ec:=chainG_up (t:=t) (f:=f) (top:=top) hx hin hy hzz
   obtain⟨o2,ho2⟩:=a.ssO hy
   have hR1:R[1]?=some (.slice (some ⟨o2,0,none⟩) t.scs.length 6):=by rw[hR,rT,ho2];rfl
   have hR3:R=[.slice (some ⟨o,0,none⟩) t.tks.length 6,.slice (some ⟨o2,0,none⟩) t.scs.length 6,slz (σ .lf) t.tks.length 2]:=by rw[hR,rT,ho,ho2];rfl
   have LI:∀ G:Hp,Grow H1 G->(Asm.ld1 (.is G) o (k*6) (iV ((s+1:Nat):Int))).holds Try.prog:=fun G KG=>a.tsC ho hx (d:=0) (by simp[rk,tkV,TkV.C,hin,lkN]) KG
   have LW:∀ G:Hp,Grow H1 G->(Asm.ld1 (.is G) o2 (s*6) (iV ((y.ow+1:Nat):Int))).holds Try.prog:=fun G KG=>a.ssC ho2 hy (d:=0) rfl KG
   have SS:(Asm.arith .sub .i64 ((s+1:Nat):Int) 1 (s:Int)).holds Try.prog:=subI (by omega) (by omega) (by omega)
   have OS:(Asm.off (s*6) 0 (s:Int) t.scs.length 6).holds Try.prog:=offI (q:=s) rfl hsl (by omega)
   obtain⟨l2,hl2⟩:∃ l2,l2=l1++[(1,((k+1:Nat):Int))]:=⟨_,rfl⟩
   obtain⟨l3,hl3⟩:∃ l3,l3=l2++[lkP (some s)]:=⟨_,rfl⟩
   have hl2c:prL l2=prL l1++prC (1,((k+1:Nat):Int)):=by rw[hl2,prL_snoc]
   have hl3c:prL l3=prL l2++prC (lkP (some s)):=by rw[hl3,prL_snoc]
   have hl2n:l2.length=l1.length+1:=by rw[hl2];simp
   have hl3n:l3.length=l2.length+1:=by rw[hl3];simp
   have ecl:acc++t.chainG (f+1) k top=l3++t.chainG f y.ow (ixO (some s) z.opn):=by rw[ec,hl3,hl2,hl1];simp
   have ecn:acc.length+(t.chainG (f+1) k top).length=l3.length+(t.chainG f y.ow (ixO (some s) z.opn)).length:=by rw[<- List.length_append,ecl,List.length_append]
   rw[ecn,ecl]
   rw[ecn] at hlen
   have hz3:(prC (lkP (some s))).length=2:=rfl
   have hpl:plc s z.opn=ixO (some s) z.opn:=by rw[plc,if_pos hmem]
   have hzo:=ok.len _ z hzz
   have hil:ixO (some s) z.opn<=z.opn.length:=ixO_le
   have next:∀ {w:Nat} {g2:Hp},Grow H1 g2->g2[w]?=some (.cells (prL l2) true)->H1.length<=w->∃ g3,Run Try.prog 72 [.agg R.toArray,iV ((y.ow+1:Nat):Int),iV ((s+1:Nat):Int)] ((g2++[AObj.cells (prC (lkP (some s))) true]).set w .dead++[AObj.cells (prL l3) true]) (iV ((ixO (some s) z.opn:Nat):Int)) g3/\Grow H1 ((g2++[AObj.cells (prC (lkP (some s))) true]).set w .dead++[AObj.cells (prL l3) true])/\Grow H1 g3/\SlV g3 H1.length (.slice (some ⟨g2.length+1,0,none⟩) l3.length 2) l3.length 2 (prL l3):=fun {w g2} K2 hw hlo=>by
    have K3:Grow H1 ((g2++[AObj.cells (prC (lkP (some s))) true]).set w .dead++[AObj.cells (prL l3) true]):=by rw[hl3c];exact ac_sK K2 hlo
    have S3:SlV ((g2++[AObj.cells (prC (lkP (some s))) true]).set w .dead++[AObj.cells (prL l3) true]) H1.length (.slice (some ⟨g2.length+1,0,none⟩) l3.length 2) l3.length 2 (prL l3):=by
     rw[hl3n,hl3c]
     exact ac_s hz3 (by have:=K2.1;omega) (by rw[prL_len])
    obtain⟨g3,r3,K4⟩:=placeR_run (a.grow K3) ok (by omega) hzz s
    rw[hpl,<- hR] at r3
    exact⟨g3,r3,K3,Grow.trans K3 K4,SlV.grow S3 K4⟩
   rcases A1c with⟨n0,a1,a2⟩ | ⟨w,n0,a1,a2,a3,a4⟩
   ·subst a2
    have hl2c':prL l2=prC (1,((k+1:Nat):Int)):=by rw[hl2c,a1,List.nil_append]
    have KG:Grow H1 (g1++[AObj.cells (prC (1,((k+1:Nat):Int))) true]++[AObj.cells (prC (1,((k+1:Nat):Int))) true]):=Grow.push (Grow.push K1 _) _
    obtain⟨g3,r3,K3,K4,S3⟩:=next KG (w:=g1.length+1) (by rw[hl2c'];exact gV _ (pL _ _)) (by omega)
    rw[hR3] at r3
    have S3':∀ q,g1.length+2=q->SlV g3 H1.length (.slice (some ⟨q+1,0,none⟩) l3.length 2) l3.length 2 (prL l3):=fun q e=>by have:=S3;rw[pL,pL] at this;rw[<- e];exact this
    obtain⟨E2,q1,q2⟩:=pvK 0 hE (q14p.co_gon v none (sA (σ .lf)) t.tks.length 0 (sZ (σ .lf) 2) o t.tks.length o2 t.scs.length b (k*6) (s*6) g1.length 0 0 (g1.length+1) (g1.length+2) (g1.length+3) (top:Int) ((top:Int)-1) ((k+1:Nat):Int) k s ((s+1:Nat):Int) ((y.ow+1:Nat):Int) ((ixO (some s) z.opn:Nat):Int) [] (prL l3) E3 g g1 g1 g3)
     ⟨GT,ST,a_loop (by kernel_rfl) (.add (.add (.add (.add (.nil _) rfl) rfl) rfl) rfl) he3 hl,rfl,ac_nA hz rfl (by omega),aL (KG.get hb) hR0,SB,OF,LI _ KG,gtT (by omega),(show ((g1++[AObj.cells (prC (1,((k+1:Nat):Int))) true])++[AObj.cells (prC (1,((k+1:Nat):Int))) true]).length=g1.length+2 by rw[pL,pL]),
      by rw[hl3c,hl2c'];exact a_appSJ (m:=0) (junk:=[]) (junk2:=[]) (by rw[List.append_nil];exact gP (gV _ (pL _ _))) rfl (by rw[List.append_nil];exact gV _ (show ((g1++[AObj.cells (prC (1,((k+1:Nat):Int))) true])++[AObj.cells (prC (1,((k+1:Nat):Int))) true]).length=g1.length+2 by rw[pL,pL])) rfl rfl (by omega) (by omega) (by omega) (by simp[SH.den]),
      aL (K3.get hb) hR1,SS,OS,LW _ K3,aN (K3.get hb) (by rw[hR3];simp) (by rw[hR3];rfl),r3,trivial⟩
    have hl3':l3.length=2:=by omega
    obtain⟨E4,g4,v4,s1,s2,s3,s4⟩:=ih y.ow (ixO (some s) z.opn) z l3 _ g3 E2 (by omega) hzz hze hil hlen (tR q1) K4 (by have:=S3' _ rfl;rw[hl3'] at this ⊢;exact this)
    exact⟨E4,g4,v4,s1,.step q2 s2,s3,s4⟩
   ·subst a2
    have KG:Grow H1 ((g1++[AObj.cells (prC (1,((k+1:Nat):Int))) true]).set w .dead++[AObj.cells (prL l2) true]):=by rw[hl2c];exact ac_sK K1 a4
    obtain⟨g3,r3,K3,K4,S3⟩:=next KG (w:=g1.length+1) (gV _ (by rw[sN,pL])) (by omega)
    rw[hR3] at r3
    have S3':∀ q,g1.length+2=q->SlV g3 H1.length (.slice (some ⟨q+1,0,none⟩) l3.length 2) l3.length 2 (prL l3):=fun q e=>by have:=S3;rw[pL,sN,pL] at this;rw[<- e];exact this
    obtain⟨E2,q1,q2⟩:=pvK 0 hE (q14p.co_gos v none (sA (σ .lf)) t.tks.length 0 (sZ (σ .lf) 2) o t.tks.length o2 t.scs.length b (k*6) (s*6) g1.length w l1.length (g1.length+1) (g1.length+2) (g1.length+3) (top:Int) ((top:Int)-1) ((k+1:Nat):Int) k s ((s+1:Nat):Int) ((y.ow+1:Nat):Int) ((ixO (some s) z.opn:Nat):Int) (prL l2) (prL l3) E3 g g1 g1 g3)
     ⟨GT,ST,a_loop (by kernel_rfl) (.add (.add (.add (.add (.nil _) rfl) rfl) rfl) rfl) he3 hl,rfl,by rw[hl2c];exact ac_sA a3 a1 hz rfl (by omega) (by omega),aL (KG.get hb) hR0,SB,OF,LI _ KG,gtT (by omega),(show ((g1++[AObj.cells (prC (1,((k+1:Nat):Int))) true]).set w .dead++[AObj.cells (prL l2) true]).length=g1.length+2 by rw[pL,sN,pL]),
      by rw[hl3c];exact a_appSJ (m:=0) (junk:=[]) (junk2:=[]) (by rw[List.append_nil];exact gP (gV _ (by simp[SH.den]))) (by rw[prL_len,hl2n]) (by rw[List.append_nil];exact gV _ (show ((g1++[AObj.cells (prC (1,((k+1:Nat):Int))) true]).set w .dead++[AObj.cells (prL l2) true]).length=g1.length+2 by rw[pL,sN,pL])) rfl rfl (by omega) (by omega) (by omega) (by simp[SH.den]),
      aL (K3.get hb) hR1,SS,OS,LW _ K3,aN (K3.get hb) (by rw[hR3];simp) (by rw[hR3];rfl),r3,trivial⟩
    have hl3':l3.length=l1.length+1+1:=by omega
    obtain⟨E4,g4,v4,s1,s2,s3,s4⟩:=ih y.ow (ixO (some s) z.opn) z l3 _ g3 E2 (by omega) hzz hze hil hlen (tR q1) K4 (by have:=S3' _ rfl;rw[hl3'] at this ⊢;exact this)
    exact⟨E4,g4,v4,s1,.step q2 s2,s3,s4⟩
theorem chainR_run(a:RAt h σ t)(ok:TOk c t)(hc:c<=1000)(W:WI none t)(n:Int) :
  ∃ v h',Run Try.prog 55 [.agg (rT σ t).toArray,iV n] h (.tuple #[v,iV (t.chain n).2]) h'/\Grow h h'/\SlV h' h.length v (t.chain n).1.length 2 (prL (t.chain n).1):=by
 have n64:=ok.n64
 have K0:=boxT h (rT σ t)
 have b0:(h++[AObj.cells (rT σ t) true])[h.length]?=some (.cells (rT σ t) true):=gW _ _
 have r1:=runsR_run (a.grow K0) ok n
 have K1:Grow (h++[AObj.cells (rT σ t) true]) (h++[AObj.cells (rT σ t) true]++[AObj.cells (rT σ t) true]):=boxT _ _
 cases hb:TS.rnB t n with
 | false =>
  rw[hb] at r1
  have es:t.chain n=([],6):=by simp only[TS.chain,acts_no hb]
  rw[es]
  exact⟨_,_,pvF 0 Try.func55 (q14p.ch_no (sA (σ .ts)) (sA (σ .ss)) (sA (σ .lf)) t.tks.length t.scs.length t.tks.length (sZ (σ .ts) 6) (sZ (σ .ss) 6) (sZ (σ .lf) 2) h.length n h _)
   ⟨rfl,aN b0 (by simp[rT]) rfl,r1,trivial⟩,Grow.trans K0 K1,.inl ⟨rfl,rfl,rfl⟩⟩
 | true =>
  rw[hb] at r1
  obtain⟨k,x,rfl,hx,he⟩:=rnB_true hb
  have hr:t.runs ((k+1:Nat):Int)=(some k,0):=by rw[runs_at hx,he];rfl
  have hk:=gTq hx
  have hln:=ok.len k x hx
  have es:t.chain ((k+1:Nat):Int)=(t.chainG (k+1) k x.opn.length,0):=by simp only[TS.chain,hr,hx]
  rw[es]
  obtain⟨o,ho⟩:=a.tsO hx
  have hcl:(t.chainG (k+1) k x.opn.length).length<=200000:=by
   refine Nat.le_trans (chainG_len ok _ _ _) ?_
   calc (k+1)*(c+2)<=64*1002:=Nat.mul_le_mul (by omega) (by omega)
    _<=200000:=by omega
  obtain⟨E1,g2,v,hE1,hl,K2,A2⟩:=chainR_out (a.grow K0) ok W hc b0 rfl (k+1) k x.opn.length x [] (.slice none 0 0) _ _ (by omega) hx he (Nat.le_refl _) (by simpa using hcl) (EnvLe.refl _) K1 (.inl ⟨rfl,rfl,rfl⟩)
  rw[List.length_nil,Nat.zero_add,List.nil_append] at A2
  obtain⟨E3,he3,rfl⟩:∃ E3,EnvLe ((6,v)::E3) E1/\E3=E1:=⟨E1,.add (.refl _) (hE1 _ _ rfl),rfl⟩
  have hR':rT σ t=rV (some o) (σ .ss) (σ .lf) t.tks.length t.scs.length:=by rw[rT,ho]
  have SB:(Asm.arith .sub .i64 ((k+1:Nat):Int) 1 (k:Int)).holds Try.prog:=subI (by omega) (by omega) (by omega)
  have OF:(Asm.off (k*6) 0 (k:Int) t.tks.length 6).holds Try.prog:=offI (q:=k) rfl hk (by omega)
  have LO:(Asm.ld1 (.is (h++[AObj.cells (rT σ t) true]++[AObj.cells (rT σ t) true])) o (k*6+5) (slz (σ (.op k)) x.opn.length 2)).holds Try.prog:=a.tsC ho hx (d:=5) rfl (Grow.trans K0 K1)
  have b1:=K1.get b0
  refine⟨v,g2,?_,Grow.trans K0 K2,A2.mono (by simp)⟩
  rw[hR'] at r1 b0 b1 hl LO ⊢
  exact pvF 0 Try.func55 (q14p.ch_go (sA (σ .ss)) (sA (σ .lf)) t.scs.length t.tks.length (sZ (σ .ss) 6) (sZ (σ .lf) 2) o t.tks.length h.length (k*6) (sA (σ (.op k))) x.opn.length (sZ (σ (.op k)) 2) _ k v E3 h _ g2)
   ⟨rfl,aN b0 (by simp) rfl,r1,aL b1 rfl,SB,OF,LO,a_loop (by kernel_rfl) (.add (.add (.add (.add (.nil _) rfl) rfl) rfl) rfl) he3 hl,trivial⟩
end
end Go.Proofs.Ytahomnlkkafbjaa.rf
namespace Go.Proofs.Ytahomnlkkafbjaa.rf
open Go Go.Ev Go.Proofs.Ytahomnlkkafbjaa.tr
section
variable {h g G:Hp} {lo n m z w x:Nat} {v:Value} {cs news:List Value}
theorem ac_ss(hw:lo<=g.length)(hl:cs.length=n*z)(hz:news.length=(m+1)*z):SlV (g.set w .dead++[AObj.cells (cs++news) true]) lo (.slice (some ⟨g.length,0,none⟩) (n+(m+1)) z) (n+(m+1)) z (cs++news) :=
 .inr ⟨by omega,by rw[List.length_append,hl,hz,<- Nat.add_mul],_,rfl,gV _ (sN _ _ _),hw⟩
theorem ac_ssA{P:Program}{bytes:Nat}(hw:g[w]?=some (.cells cs true))(hl:cs.length=n*z)(hx:g[x]?=some (.cells news true))(hz:news.length=(m+1)*z)(ho:news.all Value.oneCell'=true)(hn:n<=1000000)(hm:m<=1000000)(hb:bytes<=1000) :
  (Asm.app (.is g) w 0 n x 0 (m+1) m z bytes (cs++news) news g.length).holds P :=
 a_appSJ (junk:=[]) (junk2:=[]) (by rw[List.append_nil];exact hw) hl (by rw[List.append_nil];exact hx) hz ho hn hm hb rfl
theorem ac_sn(hw:lo<=g.length)(hz:news.length=(m+1)*z):SlV (g++[AObj.cells news true]) lo (.slice (some ⟨g.length,0,none⟩) (m+1) z) (m+1) z news :=
 .inr ⟨by omega,hz,_,rfl,gW _ _,hw⟩
theorem ac_snA{P:Program}{bytes:Nat}(hx:g[x]?=some (.cells news true))(hz:news.length=(m+1)*z)(ho:news.all Value.oneCell'=true)(hm:m<=1000000)(hb:bytes<=1000):(Asm.appNil (.is g) x 0 (m+1) m z bytes news g.length).holds P :=
 a_appNJ (junk:=[]) (by rw[List.append_nil];exact hx) hz ho hm hb rfl
theorem a_again_ld{P:Program}{s:SH}{i d:Nat}{t:TypeId}(ha:aggSize P t=some none)(h:(Asm.ld1 s i d v).holds P)(hr:veqR v=true):(Asm.again s t (.pointer (some ⟨i,d,none⟩)) v).holds P:=by
 obtain⟨c,h1,h2⟩:=h
 exact⟨by simp[evLoad,h1,ha,h2],veq_refl hr⟩
end
section
variable {h h' g G:Hp} {σ σ':RLay} {t t':TS} {c k s:Nat}
def recL(t:TS)(f:Nat):Option Nat->List Nat
 | none=>[]
 | some s'=>t.belowG f s'
theorem below1_eq{f j:Nat}{x:Tk}(hx:t.tks[j]?=some x)(he:x.en=false):t.below1 (t.belowG f) j=j::recL t f (outerO x.opn):=by
 simp only[TS.below1,hx,he,Bool.false_eq_true,if_false,recL]
 cases outerO x.opn<;>rfl
theorem below1_en{f j:Nat}{x:Tk}(hx:t.tks[j]?=some x)(he:x.en=true):t.below1 (t.belowG f) j=[]:=by
 simp only[TS.below1,hx,he,if_true]
theorem nm_snoc(l:List Nat)(j:Nat):nmL (l++[j])=nmL l++[iV ((j+1:Nat):Int)]:=by simp[nmL]
theorem nm_app(l m:List Nat):nmL (l++m)=nmL l++nmL m:=by simp[nmL]
theorem stat56_0:(Asm.stat (drawN Try.f56 0)).holds Try.prog:=show statOk (drawN Try.f56 0)=true by kernel_rfl
theorem stat56_1:(Asm.stat (drawN Try.f56 1)).holds Try.prog:=show statOk (drawN Try.f56 1)=true by kernel_rfl
theorem agg33:aggSize Try.prog 33=some none:=by kernel_rfl
def RecOk(H1:Hp)(R:List Value)(t:TS)(f:Nat)(ok:Nat->Prop):Prop :=
 ∀ (o:Option Nat),(∀ s',o=some s'->ok s')->∀ g,Grow H1 g->∃ v e g',Run Try.prog 56 [.agg R.toArray,iV (lkN o)] g (.tuple #[v,iV e]) g'/\Grow g g'/\SlV g' g.length v (recL t f o).length 1 (nmL (recL t f o))
theorem belowR_in{H1:Hp}{b:Nat}(a:RAt H1 σ t)(ok:TOk c t)(hc:c<=1000){R:List Value}(hb:H1[b]?=some (.cells R true))(hR:R=rT σ t){y:Sc}(hy:t.scs[s]?=some y){f:Nat}{P:Nat->Prop}(rec:RecOk H1 R t f P)
  (hP:∀ (j:Nat) x s',j∈y.tks->t.tks[j]?=some x->x.en=false->outerO x.opn=some s'->P s') (hlen:(y.tks.flatMap (t.below1 (t.belowG f))).length<=100000) {n:Int} :
  ∃ E1 g1 v1,EnvLe [(6,v1),(2,ptr b),(1,iV n)] E1/\LRun Try.prog 96 false (loopN Try.f56 0) [(31,iV ((0:Nat):Int)),(30,iV (Int.ofNat y.tks.length)),(29,slz (σ (.st s)) y.tks.length 1),(6,.slice none 0 0),(2,ptr b),(1,iV n)] H1 (.exit 0) E1 g1/\Grow H1 g1 /\
   SlV g1 H1.length v1 (y.tks.flatMap (t.below1 (t.belowG f))).length 1 (nmL (y.tks.flatMap (t.below1 (t.belowG f)))):=by
 have n64:=ok.n64
 have hml:=ok.mlen s y hy
 obtain⟨M,hM⟩:∃ M,M=y.tks.flatMap (t.below1 (t.belowG f)):=⟨_,rfl⟩
 rw[<- hM] at hlen ⊢
 obtain⟨E1,g1,⟨v1,q1,K1,A1⟩,hl⟩:=for_loop (P:=Try.prog) (n:=96) (rd:=false) (b:=loopN Try.f56 0) (xo:=.exit 0) (by simp) (len:=y.tks.length) (Q:=fun E g=>∃ v,EnvLe [(6,v),(2,ptr b),(1,iV n)] E/\Grow H1 g/\SlV g H1.length v M.length 1 (nmL M))
  (fun i E g=>∃ v,EnvLe [(31,iV (i:Int)),(30,iV (Int.ofNat y.tks.length)),(29,slz (σ (.st s)) y.tks.length 1),(6,v),(2,ptr b),(1,iV n)] E/\Grow H1 g/\SlV g H1.length v ((y.tks.take i).flatMap (t.below1 (t.belowG f))).length 1 (nmL ((y.tks.take i).flatMap (t.below1 (t.belowG f)))))
  (fun i E g hi ⟨v,hE,Kg,A⟩=>by
   obtain⟨j,hj⟩:∃ j,y.tks[i]?=some j:=⟨_,List.getElem?_eq_getElem hi⟩
   have hjm:=List.mem_of_getElem? hj
   have hjl:=ok.mem s y j hy hjm
   obtain⟨x,hx⟩:∃ x,t.tks[j]?=some x:=⟨_,List.getElem?_eq_getElem hjl⟩
   obtain⟨so,hso⟩:=a.stO hy hi
   obtain⟨o,ho⟩:=a.tsO hx
   have hR0:R[0]?=some (.slice (some ⟨o,0,none⟩) t.tks.length 6):=by rw[hR,rT,ho];rfl
   have hR3:R=[.slice (some ⟨o,0,none⟩) t.tks.length 6,slz (σ .ss) t.scs.length 6,slz (σ .lf) t.tks.length 2]:=by rw[hR,rT,ho];rfl
   obtain⟨l0,hl0⟩:∃ l,l=(y.tks.take i).flatMap (t.below1 (t.belowG f)):=⟨_,rfl⟩
   have el1:(y.tks.take (i+1)).flatMap (t.below1 (t.belowG f))=l0++t.below1 (t.belowG f) j:=by rw[take_one hj,List.flatMap_append,hl0];simp
   have hsub:(l0++t.below1 (t.belowG f) j).length<=100000:=by
    rw[<- el1]
    refine Nat.le_trans ?_ hlen
    rw[hM]
    conv=>rhs;rw[<- List.take_append_drop (i+1) y.tks]
    rw[List.flatMap_append,List.length_append]
    omega
   rw[el1]
   rw[<- hl0] at A
   have SB:(Asm.arith .sub .i64 ((j+1:Nat):Int) 1 (j:Int)).holds Try.prog:=subI (by omega) (by omega) (by omega)
   have OF:(Asm.off (j*6) 0 (j:Int) t.tks.length 6).holds Try.prog:=offI (q:=j) rfl hjl (by omega)
   have OE:(Asm.off i 0 (i:Int) y.tks.length 1).holds Try.prog:=offI (q:=i) rfl hi (by omega)
   have LT:(Asm.cmp .lss (i:Int) (Int.ofNat y.tks.length) true).holds Try.prog:=ltT (by simp;omega)
   have AD:(Asm.arith .add .i64 (i:Int) 1 ((i+1:Nat):Int)).holds Try.prog:=addI rfl (by omega) (by omega)
   have LJ:=a.stC hso hy hj (P:=Try.prog) (s:=.is g) Kg
   have LE:∀ e,x.en=e->(Asm.ld1 (.is g) o (j*6+1) (.bool e)).holds Try.prog:=fun e h=>a.tsC ho hx (d:=1) (by simp[rk,tkV,TkV.C,h]) Kg
   have gb:=Kg.get hb
   have gl:=Kg.1
   simp only[hso,sA,sZ] at hE ⊢
   cases he:x.en with
   | true =>
    rw[below1_en hx he,List.append_nil]
    obtain⟨E2,q1,q2⟩:=pvK 0 hE (q14p.bl_skip v none none none 0 0 0 0 0 o t.tks.length b i (j*6) so y.tks.length 0 0 0 0 0 0 0 0 n i ((i+1:Nat):Int) ((j+1:Nat):Int) j 0 0 [] [] [] g g g)
     ⟨LT,OE,LJ,aL gb hR0,SB,OF,LE _ he,AD,trivial⟩
    exact⟨E2,_,⟨v,tR q1,Kg,A⟩,q2⟩
   | false =>
    rw[below1_eq hx he] at hsub ⊢
    obtain⟨r,hr⟩:∃ r,r=recL t f (outerO x.opn):=⟨_,rfl⟩
    rw[<- hr] at hsub ⊢
    have e2:l0++j::r=(l0++[j])++r:=by simp
    rw[e2] at hsub ⊢
    obtain⟨l1,hl1⟩:∃ l,l=l0++[j]:=⟨_,rfl⟩
    have hl1n:l1.length=l0.length+1:=by rw[hl1];simp
    have hl1c:nmL l1=nmL l0++[iV ((j+1:Nat):Int)]:=by rw[hl1,nm_snoc]
    rw[<- hl1] at hsub ⊢
    rw[List.length_append] at hsub
    have hz:[iV ((j+1:Nat):Int)].length=1:=rfl
    have calls:∀ g2,Grow H1 g2->∃ g3 g4 vr e,Run Try.prog 73 [.agg R.toArray,iV ((j+1:Nat):Int)] g2 (iV (lkN (outerO x.opn))) g3/\Run Try.prog 56 [.agg R.toArray,iV (lkN (outerO x.opn))] g3 (.tuple #[vr,iV e]) g4/\Grow g2 g3/\Grow g3 g4/\SlV g4 g3.length vr r.length 1 (nmL r):=fun g2 K2=>by
     obtain⟨g3,r3,K3⟩:=outerR_run (a.grow K2) ok (by omega) hx
     rw[<- hR] at r3
     obtain⟨vr,e,g4,r4,K4,S4⟩:=rec (outerO x.opn) (fun s' h=>hP j x s' hjm hx he h) g3 (Grow.trans K2 K3)
     exact⟨g3,g4,vr,e,r3,r4,K3,K4,by rw[hr];exact S4⟩
    have AG:∀ {sh:SH} {G:Hp},sh.den=G->Grow H1 G->(Asm.again sh 79 (.pointer (some ⟨b,0,none⟩)) (.agg R.toArray)).holds Try.prog:=fun e K=>a_againN aggTree (by rw[e];exact K.get hb) (by rw[hR];simp[rT]) (by rw[hR];rfl) (by rw[hR];rfl)
    have LR:∀ {sh:SH} {G:Hp},sh.den=G->Grow H1 G->(Asm.ldn sh b 0 3 R).holds Try.prog:=fun e K=>aN (by rw[e];exact K.get hb) (by rw[hR];simp[rT]) (by rw[hR];rfl)
    have fin:∀ {g2:Hp} {w2:Nat},Grow H1 g2->SlV g2 H1.length (.slice (some ⟨w2,0,none⟩) l1.length 1) l1.length 1 (nmL l1)->True:=fun _ _=>trivial
    rcases SlV.cases A with⟨n0,a1,a2⟩ | ⟨w,n0,a1,a2,a3,a4⟩
    ·subst a2
     have hl1c':nmL l1=[iV ((j+1:Nat):Int)]:=by rw[hl1c,a1,List.nil_append]
     have hl1n':l1.length=1:=by omega
     obtain⟨g2,hg2⟩:∃ g2,g2=g++[AObj.cells [iV ((j+1:Nat):Int)] true]++[AObj.cells [iV ((j+1:Nat):Int)] true]:=⟨_,rfl⟩
     have K2:Grow H1 g2:=by rw[hg2];exact Grow.push (Grow.push Kg _) _
     have A2:SlV g2 H1.length (.slice (some ⟨g.length+1,0,none⟩) 1 1) 1 1 [iV ((j+1:Nat):Int)]:=by rw[hg2];exact ac_n hz gl
     obtain⟨g3,g4,vr,e,r3,r4,K3,K4,S4⟩:=calls g2 K2
     have K34:=Grow.trans K3 K4
     have KH3:=Grow.trans K2 K3
     have KH4:=Grow.trans KH3 K4
     have A4:=SlV.grow A2 K34
     rw[hg2] at r3 K2
     have hw4:g4[g.length+1]?=some (.cells [iV ((j+1:Nat):Int)] true):=by
      rcases A4 with⟨e0,_⟩ | ⟨_,_,o',e1,e2,_⟩
      ·cases e0
      ·cases e1;exact e2
     rcases SlV.cases S4 with⟨m0,b1,b2⟩ | ⟨xo,m0,b1,b2,b3,b4⟩
     ·subst b2
      have er:r=[]:=List.length_eq_zero_iff.1 m0
      rw[hR3] at AG LR r3 r4
      obtain⟨E2,q1,q2⟩:=pvK 0 hE (q14p.bl_nn .nilFunc none (sA (σ .ss)) (sA (σ .lf)) t.scs.length t.tks.length (sZ (σ .ss) 6) (sZ (σ .lf) 2) 0 o t.tks.length b i (j*6) so y.tks.length g.length 0 0 (g.length+1) 0 0 0 0 n i ((i+1:Nat):Int) ((j+1:Nat):Int) j (lkN (outerO x.opn)) e [] [] [] g g3 g4)
       ⟨LT,OE,LJ,aL gb hR0,SB,OF,LE _ he,rfl,ac_nA hz rfl (by omega),stat56_0,AG rfl K2,AG rfl K2,AG rfl KH3,LR rfl K2,LR rfl K2,r3,r4,AD,trivial⟩
      rw[er,List.append_nil,hl1c',hl1n']
      exact⟨E2,_,⟨_,tR q1,KH4,A4⟩,q2⟩
     ·obtain⟨m,hm⟩:∃ m,r.length=m+1:=⟨r.length-1,by omega⟩
      rw[hm] at b2
      subst b2
      rw[hR3] at AG LR r3 r4
      have zr:(nmL r).length=(m+1)*1:=by rw[b1,hm]
      obtain⟨E2,q1,q2⟩:=pvK 0 hE (q14p.bl_ns .nilFunc none (sA (σ .ss)) (sA (σ .lf)) t.scs.length t.tks.length (sZ (σ .ss) 6) (sZ (σ .lf) 2) 0 o t.tks.length b i (j*6) so y.tks.length g.length 0 0 (g.length+1) xo (m+1) m g4.length n i ((i+1:Nat):Int) ((j+1:Nat):Int) j (lkN (outerO x.opn)) e [] ([iV ((j+1:Nat):Int)]++nmL r) (nmL r) g g3 g4)
       ⟨LT,OE,LJ,aL gb hR0,SB,OF,LE _ he,rfl,ac_nA hz rfl (by omega),stat56_0,AG rfl K2,AG rfl K2,AG rfl KH3,LR rfl K2,LR rfl K2,r3,r4,ac_ssA hw4 rfl b3 zr (nmL_ones _) (by omega) (by omega) (by omega),AD,trivial⟩
      rw[nm_app,List.length_append,hm,hl1c',hl1n']
      exact⟨E2,_,⟨_,tR q1,Grow.push (Grow.set KH4 (by omega) _) _,ac_ss (by have:=KH4.1;omega) rfl zr⟩,q2⟩
    ·subst a2
     obtain⟨g2,hg2⟩:∃ g2,g2=(g++[AObj.cells [iV ((j+1:Nat):Int)] true]).set w .dead++[AObj.cells (nmL l0++[iV ((j+1:Nat):Int)]) true]:=⟨_,rfl⟩
     have K2:Grow H1 g2:=by rw[hg2];exact ac_sK Kg a4
     have A2:SlV g2 H1.length (.slice (some ⟨g.length+1,0,none⟩) (l0.length+1) 1) (l0.length+1) 1 (nmL l0++[iV ((j+1:Nat):Int)]):=by rw[hg2];exact ac_s hz gl a1
     obtain⟨g3,g4,vr,e,r3,r4,K3,K4,S4⟩:=calls g2 K2
     have K34:=Grow.trans K3 K4
     have KH3:=Grow.trans K2 K3
     have KH4:=Grow.trans KH3 K4
     have A4:=SlV.grow A2 K34
     rw[hg2] at r3 K2
     have hw4:g4[g.length+1]?=some (.cells (nmL l0++[iV ((j+1:Nat):Int)]) true):=by
      rcases A4 with⟨e0,_⟩ | ⟨_,_,o',e1,e2,_⟩
      ·cases e0
      ·cases e1;exact e2
     rcases SlV.cases S4 with⟨m0,b1,b2⟩ | ⟨xo,m0,b1,b2,b3,b4⟩
     ·subst b2
      have er:r=[]:=List.length_eq_zero_iff.1 m0
      rw[hR3] at AG LR r3 r4
      obtain⟨E2,q1,q2⟩:=pvK 0 hE (q14p.bl_sn .nilFunc none (sA (σ .ss)) (sA (σ .lf)) t.scs.length t.tks.length (sZ (σ .ss) 6) (sZ (σ .lf) 2) 0 o t.tks.length b i (j*6) so y.tks.length g.length w l0.length (g.length+1) 0 0 0 0 n i ((i+1:Nat):Int) ((j+1:Nat):Int) j (lkN (outerO x.opn)) e (nmL l0++[iV ((j+1:Nat):Int)]) [] [] g g3 g4)
       ⟨LT,OE,LJ,aL gb hR0,SB,OF,LE _ he,rfl,ac_sA a3 a1 hz rfl (by omega) (by omega),stat56_0,AG rfl K2,AG rfl K2,AG rfl KH3,LR rfl K2,LR rfl K2,r3,r4,AD,trivial⟩
      rw[er,List.append_nil,hl1c,hl1n]
      exact⟨E2,_,⟨_,tR q1,KH4,A4⟩,q2⟩
     ·obtain⟨m,hm⟩:∃ m,r.length=m+1:=⟨r.length-1,by omega⟩
      rw[hm] at b2
      subst b2
      rw[hR3] at AG LR r3 r4
      have zr:(nmL r).length=(m+1)*1:=by rw[b1,hm]
      have zl:(nmL l0++[iV ((j+1:Nat):Int)]).length=(l0.length+1)*1:=by rw[List.length_append,a1];simp
      obtain⟨E2,q1,q2⟩:=pvK 0 hE (q14p.bl_ss .nilFunc none (sA (σ .ss)) (sA (σ .lf)) t.scs.length t.tks.length (sZ (σ .ss) 6) (sZ (σ .lf) 2) 0 o t.tks.length b i (j*6) so y.tks.length g.length w l0.length (g.length+1) xo (m+1) m g4.length n i ((i+1:Nat):Int) ((j+1:Nat):Int) j (lkN (outerO x.opn)) e (nmL l0++[iV ((j+1:Nat):Int)]) ((nmL l0++[iV ((j+1:Nat):Int)])++nmL r) (nmL r) g g3 g4)
       ⟨LT,OE,LJ,aL gb hR0,SB,OF,LE _ he,rfl,ac_sA a3 a1 hz rfl (by omega) (by omega),stat56_0,AG rfl K2,AG rfl K2,AG rfl KH3,LR rfl K2,LR rfl K2,r3,r4,ac_ssA hw4 zl b3 zr (nmL_ones _) (by omega) (by omega) (by omega),AD,trivial⟩
      rw[nm_app,List.length_append,hm,hl1c,hl1n]
      exact⟨E2,_,⟨_,tR q1,Grow.push (Grow.set KH4 (by omega) _) _,ac_ss (by have:=KH4.1;omega) zl zr⟩,q2⟩)
  (fun E g ⟨v,hE,Kg,A⟩=>by
   rw[List.take_length,<- hM] at A
   obtain⟨E2,q1,q2⟩:=pvC 0 hE (q14p.bl_out v (sA (σ (.st s))) none none 0 0 0 0 (sZ (σ (.st s)) 1) 0 0 b 0 0 0 y.tks.length 0 0 0 0 0 0 0 0 n _ 0 0 0 0 0 [] [] [] g g g) ⟨ltF (by simp),trivial⟩
   exact⟨E2,_,⟨v,tR q1,Kg,A⟩,q2⟩)
  _ H1 ⟨.slice none 0 0,EnvLe.refl _,Grow.refl _,.inl ⟨rfl,rfl,rfl⟩⟩
 exact⟨E1,g1,v1,q1,hl,K1,A1⟩
end
end Go.Proofs.Ytahomnlkkafbjaa.rf
namespace Go.Proofs.Ytahomnlkkafbjaa.rf
open Go Go.Ev Go.Proofs.Ytahomnlkkafbjaa.tr
section
variable {h h' g G:Hp} {σ σ':RLay} {t t':TS} {c k s:Nat}
theorem flatMap_mem{α β:Type}{l:List α}{f:α->List β}{a:α}(h:a∈l):(f a).length<=(l.flatMap f).length:=by
 obtain⟨p,q,rfl⟩:=List.append_of_mem h
 rw[List.flatMap_append,List.flatMap_cons]
 simp only[List.length_append]
 omega
theorem below_no(a:RAt h σ t)(n:Int)(hn:n<1):Run Try.prog 56 [.agg (rT σ t).toArray,iV n] h (.tuple #[.slice none 0 0,iV 6]) (h++[.cells (rT σ t) true]) :=
 pvF 0 Try.func56 (q14p.bw_lo (sA (σ .ts)) (sA (σ .ss)) (sA (σ .lf)) t.tks.length t.scs.length t.tks.length (sZ (σ .ts) 6) (sZ (σ .ss) 6) (sZ (σ .lf) 2) h.length n h) ⟨rfl,ltT hn,trivial⟩
theorem belowG_eq{f:Nat}{y:Sc}(hy:t.scs[s]?=some y):t.belowG (f+1) s=y.tks.flatMap (t.below1 (t.belowG f))++recL t f (t.next s):=by
 rw[TS.belowG,hy]
 simp only
 cases t.next s<;>rfl
theorem belowR_go(ok:TOk c t)(hc:c<=1000)(W:WI none t)(J:WJ t):∀ (f s:Nat),t.scs.length-s<=f->s<t.scs.length->(t.belowG f s).length<=100000->∀ (h:Hp) (σ:RLay),RAt h σ t ->
  ∃ v h',Run Try.prog 56 [.agg (rT σ t).toArray,iV ((s+1:Nat):Int)] h (.tuple #[v,iV 0]) h'/\Grow h h'/\SlV h' h.length v (t.belowG f s).length 1 (nmL (t.belowG f s)):=by
 intro f
 induction f with
 | zero=>intro s h1 h2;omega
 | succ f ih =>
  intro s h1 h2 hlen h σ a
  have n64:=ok.n64
  have n200:=ok.n200
  obtain⟨y,hy⟩:∃ y,t.scs[s]?=some y:=⟨_,List.getElem?_eq_getElem h2⟩
  have hj:=ok.ow s y hy
  obtain⟨z,hz⟩:∃ z,t.tks[y.ow]?=some z:=⟨_,List.getElem?_eq_getElem hj⟩
  have hzl:=ok.len _ z hz
  have plen:∀ {s'},Par t s' s->s<s'/\s'<t.scs.length:=fun hp=>by
   have:=hp.lt J W
   obtain⟨y',_,hy',_⟩:=hp
   exact⟨this,gTq hy'⟩
  rw[belowG_eq hy] at hlen ⊢
  obtain⟨M,hM⟩:∃ M,M=y.tks.flatMap (t.below1 (t.belowG f)):=⟨_,rfl⟩
  have hMl:(y.tks.flatMap (t.below1 (t.belowG f))).length<=100000:=by rw[List.length_append] at hlen;omega
  obtain⟨o,o2,o3,w1,w2,w3,hR⟩:=RAt.rT3 a (by omega) (by omega)
  have K0:=boxT h (rT σ t)
  have b0:(h++[AObj.cells (rT σ t) true])[h.length]?=some (.cells (rT σ t) true):=gW _ _
  have hrec:RecOk (h++[AObj.cells (rT σ t) true]) (rT σ t) t f (fun s'=>t.scs.length-s'<=f/\s'<t.scs.length/\(t.belowG f s').length<=100000):=fun op hop g K=>by
   cases op with
   | none=>exact⟨_,6,_,below_no (a.grow (Grow.trans K0 K)) 0 (by omega),boxT _ _,.inl ⟨rfl,rfl,rfl⟩⟩
   | some s' =>
    obtain⟨p1,p2,p3⟩:=hop s' rfl
    obtain⟨v,h',r,K',S⟩:=ih s' p1 p2 p3 g σ (a.grow (Grow.trans K0 K))
    exact⟨v,0,h',r,K',S⟩
  obtain⟨E1,g1,v,hE1,hl,K1,A1⟩:=belowR_in (a.grow K0) ok hc b0 rfl hy hrec (fun j x s' hm hx he hout=>by
   obtain⟨x',hx',hi⟩:=(W.mem s y j hy).1 hm
   rw[hx] at hx';cases hx'
   obtain⟨p1,p2⟩:=plen (first_par W hx hi hout ok)
   refine⟨by omega,p2,Nat.le_trans ?_ hMl⟩
   have:=flatMap_mem (f:=t.below1 (t.belowG f)) hm
   rw[below1_eq hx he,hout] at this
   simp only[recL,List.length_cons] at this
   omega) hMl (n:=((s+1:Nat):Int))
  rw[<- hM] at A1 hlen hMl ⊢
  obtain⟨E3,he3,rfl⟩:∃ E3,EnvLe ((6,v)::(2,ptr h.length)::(1,iV ((s+1:Nat):Int))::E3) E1/\E3=E1:=⟨E1,.add (.add (.add (.refl _) (hE1 _ _ rfl)) (hE1 _ _ rfl)) (hE1 _ _ rfl),rfl⟩
  have KG:=Grow.trans K0 K1
  have b1:=K1.get b0
  have gl1:=KG.1
  have SB:(Asm.arith .sub .i64 ((s+1:Nat):Int) 1 (s:Int)).holds Try.prog:=subI (by omega) (by omega) (by omega)
  have OF:(Asm.off (s*6) 0 (s:Int) t.scs.length 6).holds Try.prog:=offI (q:=s) rfl h2 (by omega)
  have LS:(Asm.ld1 (.push (.is h) (.cells (rT σ t) true)) o2 (s*6+3) (slz (σ (.st s)) y.tks.length 1)).holds Try.prog:=a.ssC w2 hy (d:=3) rfl K0
  have LV:∀ b,y.ov=b->(Asm.ld1 (.is g1) o2 (s*6+2) (.bool b)).holds Try.prog:=fun b e=>a.ssC w2 hy (d:=2) (by simp[rs,scV,ScV.C,e]) KG
  have LW:(Asm.ld1 (.is g1) o2 (s*6) (iV ((y.ow+1:Nat):Int))).holds Try.prog:=a.ssC w2 hy (d:=0) rfl KG
  have LT1:(Asm.cmp .lss ((s+1:Nat):Int) 1 false).holds Try.prog:=ltF (by omega)
  have GT1:(Asm.cmp .gtr ((s+1:Nat):Int) (Int.ofNat t.scs.length) false).holds Try.prog:=gtF (by simp only[Int.ofNat_eq_natCast];omega)
  have LL:∀ (G:Hp),(Asm.loop 96 false (loopN Try.f56 0) [(31,iV ((0:Nat):Int)),(30,iV (Int.ofNat y.tks.length)),(29,slz (σ (.st s)) y.tks.length 1),(6,.slice none 0 0),(2,ptr h.length),(1,iV ((s+1:Nat):Int))] (.is (h++[AObj.cells (rT σ t) true])) (.exit 0) ((6,v)::(2,ptr h.length)::(1,iV ((s+1:Nat):Int))::E3) (.is g1)).holds Try.prog:=fun G=>a_loop (by kernel_rfl) (EnvLe.refl _) he3 hl
  cases hov:y.ov with
  | true =>
   have hnx:t.next s=none:=by
    simp only[TS.next,hy,hz]
    rw[if_neg]
    intro hm
    have:=(W.ov s y z hy hz).2 hm
    rw[hov] at this;cases this
   rw[hnx]
   simp only[recL,List.append_nil]
   refine⟨v,g1,?_,KG,A1.mono (by simp)⟩
   rw[hR] at b0 b1 hl LS ⊢
   exact pvF 0 Try.func56 (q14p.bw_ov (some ⟨o3,0,none⟩) t.tks.length 2 o t.tks.length o2 t.scs.length h.length (s*6) 0 (sA (σ (.st s))) y.tks.length (sZ (σ (.st s)) 1) 0 0 0 0 0 0 0 0 0 ((s+1:Nat):Int) s 0 0 0 0 0 0 v .nilFunc [] [] E3 h g1 g1 g1 g1)
    ⟨rfl,LT1,aL b0 rfl,GT1,aL b0 rfl,SB,OF,LS,a_loop (by kernel_rfl) (.add (.add (.add (.add (.add (.add (.nil _) rfl) rfl) rfl) rfl) rfl) rfl) he3 hl,aL b1 rfl,SB,OF,LV _ hov,trivial⟩
  | false =>
   have hmem:=(W.ov s y z hy hz).1 hov
   have hnx:t.next s=outerO (z.opn.drop (ixO (some s) z.opn+1)):=by simp only[TS.next,hy,hz,if_pos hmem]
   have hix:ixO (some s) z.opn<z.opn.length:=by
    have:=ixO_split hmem
    have:=congrArg List.length this
    simp only[List.length_append,List.length_take,List.length_cons,List.length_drop] at this
    omega
   obtain⟨p,hp⟩:∃ p,p=ixO (some s) z.opn:=⟨_,rfl⟩
   rw[<- hp] at hnx hix
   obtain⟨lo,hlo⟩:=a.opO hz (i:=0) (by omega)
   have hpl:plc s z.opn=p:=by rw[plc,if_pos hmem,hp]
   obtain⟨g2,r2,K2⟩:=placeR_run (a.grow KG) ok (by omega) hz s
   rw[hpl] at r2
   have KG2:=Grow.trans KG K2
   have LK:LkAt g2 (some ⟨lo,0+(p+1)*2,none⟩) (z.opn.length-(p+1)) 2 (z.opn.drop (p+1)):=by
    refine⟨by simp,fun _=>?_⟩
    obtain⟨junk,hj⟩:=a.obj _ _ hlo
    rw[rcont_op hz] at hj
    refine⟨lo,0+(p+1)*2,_,true,rfl,rfl,KG2.get hj,fun i v hv=>?_⟩
    rw[List.getElem?_drop] at hv
    have:=gTq hv
    refine⟨by rw[List.length_append,lkL_len];omega,?_⟩
    have e:=lkL_at2 junk hv
    rw[show (p+1+i)*2=0+(p+1)*2+i*2 by omega] at e
    exact e
   obtain⟨g3,r3,K3⟩:=innerR_run (by omega) LK
   rw[<- hnx] at r3
   have KG3:=Grow.trans KG2 K3
   obtain⟨vr,e,g4,r4,K4,S4⟩:=hrec (t.next s) (fun s' hs'=>by
    obtain⟨p1,p2⟩:=plen (next_par W hs' ok)
    refine⟨by omega,p2,?_⟩
    rw[hs',List.length_append] at hlen
    simp only[recL] at hlen
    omega) g3 (Grow.trans (Grow.trans K1 K2) K3)
   have KG4:=Grow.trans KG3 K4
   obtain⟨r,hr⟩:∃ r,r=recL t f (t.next s):=⟨_,rfl⟩
   rw[<- hr] at S4 hlen ⊢
   rw[List.length_append] at hlen
   have b2:=K2.get b1
   have b3:=K3.get b2
   have SJ:(Asm.arith .sub .i64 ((y.ow+1:Nat):Int) 1 (y.ow:Int)).holds Try.prog:=subI (by omega) (by omega) (by omega)
   have OJ:(Asm.off (y.ow*6) 0 (y.ow:Int) t.tks.length 6).holds Try.prog:=offI (q:=y.ow) rfl hj (by omega)
   have RF:(Asm.refl (iV (y.ow:Int))).holds Try.prog:=by simp[Asm.holds,veq]
   have LO:∀ {G:Hp},Grow h G->(Asm.ld1 (.is G) o (y.ow*6+5) (.slice (some ⟨lo,0,none⟩) z.opn.length 2)).holds Try.prog:=fun K=>a.tsC w1 hz (d:=5) (by simp[rk,TkV.C,hlo,sA,sZ]) K
   have AP:(Asm.arith .add .i64 (p:Int) 1 ((p+1:Nat):Int)).holds Try.prog:=addI rfl (by omega) (by omega)
   have CT:(Asm.cut (some (iV ((p+1:Nat):Int))) none z.opn.length (p+1) z.opn.length).holds Try.prog:=a_cut3 (by omega)
   have A4:=SlV.grow A1 (Grow.trans (Grow.trans K2 K3) K4)
   have gl4:=KG4.1
   have gl3:h.length+1<=g3.length:=by have:=K1.1;have:=K2.1;have:=K3.1;rw[pL] at *;omega
   have lb:(h++[AObj.cells (rT σ t) true]).length=h.length+1:=pL _ _
   rw[lb] at A4
   have AG:∀ {G:Hp},G[h.length]?=some (.cells (rT σ t) true)->(Asm.again (.is G) 79 (.pointer (some ⟨h.length,0,none⟩)) (.agg (rT σ t).toArray)).holds Try.prog:=fun e=>a_againN aggTree e (by simp[rT]) rfl rfl
   have A76:∀ {G:Hp},G[h.length]?=some (.cells (rT σ t) true)->(Asm.again (.is G) 76 (.pointer (some ⟨h.length,0,none⟩)) (.slice (some ⟨o,0,none⟩) t.tks.length 6)).holds Try.prog:=fun e=>a_again1 agg76 e (by rw[hR];rfl) rfl
   have A33:∀ {G:Hp},Grow h G->(Asm.again (.is G) 33 (.pointer (some ⟨o,y.ow*6+5,none⟩)) (.slice (some ⟨lo,0,none⟩) z.opn.length 2)).holds Try.prog:=fun K=>a_again_ld agg33 (LO K) rfl
   rw[hR] at AG A76
   rw[hR] at b0 b1 b2 b3 r2 r4 hl LS ⊢
   rcases SlV.cases S4 with⟨m0,c1,c2⟩ | ⟨xo,m0,c1,c2,c3,c4⟩
   ·subst c2
    have er:r=[]:=List.length_eq_zero_iff.1 m0
    rw[er,List.append_nil]
    rcases SlV.cases A1 with⟨n0,a1,a2⟩ | ⟨w,n0,a1,a2,a3,a4⟩
    ·subst a2
     refine⟨.slice none 0 0,g4,?_,KG4,A4.mono (by omega)⟩
     exact pvF 0 Try.func56 (q14p.bw_nn (some ⟨o3,0,none⟩) t.tks.length 2 o t.tks.length o2 t.scs.length h.length (s*6) (y.ow*6) (sA (σ (.st s))) y.tks.length (sZ (σ (.st s)) 1) lo z.opn.length (p+1) 0 0 0 0 0 0 ((s+1:Nat):Int) s y.ow ((y.ow+1:Nat):Int) p ((p+1:Nat):Int) (lkN (t.next s)) e .nilFunc .nilFunc [] [] E3 h g1 g2 g3 g4)
      ⟨rfl,LT1,aL b0 rfl,GT1,aL b0 rfl,SB,OF,LS,a_loop (by kernel_rfl) (.add (.add (.add (.add (.add (.add (.nil _) rfl) rfl) rfl) rfl) rfl) rfl) he3 hl,aL b1 rfl,SB,OF,LV _ hov,aL b1 rfl,SB,OF,LW,stat56_1,AG b1,AG b1,AG b2,AG b1,AG b2,AG b3,A76 b1,A76 b1,A76 b2,SJ,RF,A33 KG,A33 KG,A33 KG2,aN b1 (by simp) rfl,aL b1 rfl,SJ,OJ,LO KG,aN b1 (by simp) rfl,r2,AP,CT,r3,r4,trivial⟩
    ·subst a2
     refine⟨_,g4,?_,KG4,A4.mono (by omega)⟩
     exact pvF 0 Try.func56 (q14p.bw_sn (some ⟨o3,0,none⟩) t.tks.length 2 o t.tks.length o2 t.scs.length h.length (s*6) (y.ow*6) (sA (σ (.st s))) y.tks.length (sZ (σ (.st s)) 1) lo z.opn.length (p+1) w M.length 0 0 0 0 ((s+1:Nat):Int) s y.ow ((y.ow+1:Nat):Int) p ((p+1:Nat):Int) (lkN (t.next s)) e .nilFunc .nilFunc [] [] E3 h g1 g2 g3 g4)
      ⟨rfl,LT1,aL b0 rfl,GT1,aL b0 rfl,SB,OF,LS,a_loop (by kernel_rfl) (.add (.add (.add (.add (.add (.add (.nil _) rfl) rfl) rfl) rfl) rfl) rfl) he3 hl,aL b1 rfl,SB,OF,LV _ hov,aL b1 rfl,SB,OF,LW,stat56_1,AG b1,AG b1,AG b2,AG b1,AG b2,AG b3,A76 b1,A76 b1,A76 b2,SJ,RF,A33 KG,A33 KG,A33 KG2,aN b1 (by simp) rfl,aL b1 rfl,SJ,OJ,LO KG,aN b1 (by simp) rfl,r2,AP,CT,r3,r4,trivial⟩
   ·obtain⟨m,hm⟩:∃ m,r.length=m+1:=⟨r.length-1,by omega⟩
    rw[hm] at c2 hlen
    subst c2
    have zr:(nmL r).length=(m+1)*1:=by rw[c1,hm]
    rw[nm_app,List.length_append,hm]
    rcases SlV.cases A1 with⟨n0,a1,a2⟩ | ⟨w,n0,a1,a2,a3,a4⟩
    ·subst a2
     rw[a1,n0,List.nil_append,Nat.zero_add]
     refine⟨_,g4++[AObj.cells (nmL r) true],?_,Grow.push KG4 _,ac_sn (m:=m) gl4 zr⟩
     exact pvF 0 Try.func56 (q14p.bw_ns (some ⟨o3,0,none⟩) t.tks.length 2 o t.tks.length o2 t.scs.length h.length (s*6) (y.ow*6) (sA (σ (.st s))) y.tks.length (sZ (σ (.st s)) 1) lo z.opn.length (p+1) 0 0 g4.length xo (m+1) m ((s+1:Nat):Int) s y.ow ((y.ow+1:Nat):Int) p ((p+1:Nat):Int) (lkN (t.next s)) e .nilFunc .nilFunc [] (nmL r) E3 h g1 g2 g3 g4)
      ⟨rfl,LT1,aL b0 rfl,GT1,aL b0 rfl,SB,OF,LS,a_loop (by kernel_rfl) (.add (.add (.add (.add (.add (.add (.nil _) rfl) rfl) rfl) rfl) rfl) rfl) he3 hl,aL b1 rfl,SB,OF,LV _ hov,aL b1 rfl,SB,OF,LW,stat56_1,AG b1,AG b1,AG b2,AG b1,AG b2,AG b3,A76 b1,A76 b1,A76 b2,SJ,RF,A33 KG,A33 KG,A33 KG2,aN b1 (by simp) rfl,aL b1 rfl,SJ,OJ,LO KG,aN b1 (by simp) rfl,r2,AP,CT,r3,r4,ac_snA c3 zr (nmL_ones _) (by omega) (by omega),trivial⟩
    ·subst a2
     have hw4:=(Grow.trans (Grow.trans K2 K3) K4).get a3
     rw[lb] at a4
     refine⟨_,g4.set w .dead++[AObj.cells (nmL M++nmL r) true],?_,Grow.push (Grow.set KG4 (by omega) _) _,ac_ss (m:=m) gl4 a1 zr⟩
     exact pvF 0 Try.func56 (q14p.bw_ss (some ⟨o3,0,none⟩) t.tks.length 2 o t.tks.length o2 t.scs.length h.length (s*6) (y.ow*6) (sA (σ (.st s))) y.tks.length (sZ (σ (.st s)) 1) lo z.opn.length (p+1) w M.length g4.length xo (m+1) m ((s+1:Nat):Int) s y.ow ((y.ow+1:Nat):Int) p ((p+1:Nat):Int) (lkN (t.next s)) e .nilFunc .nilFunc (nmL M++nmL r) (nmL r) E3 h g1 g2 g3 g4)
      ⟨rfl,LT1,aL b0 rfl,GT1,aL b0 rfl,SB,OF,LS,a_loop (by kernel_rfl) (.add (.add (.add (.add (.add (.add (.nil _) rfl) rfl) rfl) rfl) rfl) rfl) he3 hl,aL b1 rfl,SB,OF,LV _ hov,aL b1 rfl,SB,OF,LW,stat56_1,AG b1,AG b1,AG b2,AG b1,AG b2,AG b3,A76 b1,A76 b1,A76 b2,SJ,RF,A33 KG,A33 KG,A33 KG2,aN b1 (by simp) rfl,aL b1 rfl,SJ,OJ,LO KG,aN b1 (by simp) rfl,r2,AP,CT,r3,r4,ac_ssA hw4 a1 c3 zr (nmL_ones _) (by omega) (by omega) (by omega),trivial⟩
theorem belowR_run(a:RAt h σ t)(ok:TOk c t)(hc:c<=1000)(W:WI none t)(J:WJ t)(n:Int) :
  ∃ v h',Run Try.prog 56 [.agg (rT σ t).toArray,iV n] h (.tuple #[v,iV (t.below n).2]) h'/\Grow h h'/\SlV h' h.length v (t.below n).1.length 1 (nmL (t.below n).1):=by
 have n200:=ok.n200
 by_cases h1:n<1
 ·have es:t.below n=([],6):=by simp only[TS.below,TS.scope,if_pos (Or.inl h1:n<1\/(t.scs.length:Int)<n)]
  rw[es]
  exact⟨_,_,below_no a n h1,boxT _ _,.inl ⟨rfl,rfl,rfl⟩⟩
 ·by_cases h2:(t.scs.length:Int)<n
  ·have es:t.below n=([],6):=by simp only[TS.below,TS.scope,if_pos (Or.inr h2:n<1\/(t.scs.length:Int)<n)]
   rw[es]
   exact⟨_,_,pvF 0 Try.func56 (q14p.bw_hi (sA (σ .ts)) (sA (σ .ss)) (sA (σ .lf)) t.tks.length t.scs.length t.tks.length (sZ (σ .ts) 6) (sZ (σ .ss) 6) (sZ (σ .lf) 2) h.length n h) ⟨rfl,ltF (by omega),aL (gW _ _) rfl,gtT (by simp only[Int.ofNat_eq_natCast];omega),trivial⟩,boxT _ _,.inl ⟨rfl,rfl,rfl⟩⟩
  ·obtain⟨k,y,rfl,hy⟩:=sc_at h1 h2
   have es:t.below ((k+1:Nat):Int)=(t.belowG t.scs.length k,0):=by simp only[TS.below,scope_at hy]
   rw[es]
   have hl:=below_len ok W J (gTq hy)
   exact belowR_go ok hc W J t.scs.length k (by omega) (gTq hy) (by omega) h σ a
end
end Go.Proofs.Ytahomnlkkafbjaa.rf
namespace Go.Proofs.Ytahomnlkkafbjaa.q18p
open Go Go.Ev
theorem a0_out(a2 a3:OA)(n2 n3 z2 z3:Nat)(oa ob:OA)(la lb za zb:Nat)(sc wk:Int)(en lv:Bool)(wt:ByteArray)(o n1 b r d q:Nat)(i i1 m1 j e e2 e3:Int)(v v2:V)(g g1 g2 g3 g4 g5:Hp) :
  let Z1:=pT b 0
  let Z2:=sL o n1 6
  cutP [5,3,0] (PC 151 false (loopN Try.f37 0) [(5,iV i),(3,Z1),(0,pT r 0)] g [.val Z2,.num m1,.bit false]) =
  some (.exit 0,[(5,iV i),(3,Z1),(0,pT r 0)],.is g,[],[.ld1 g b 0 Z2,.arith .add .i64 (Int.ofNat n1) 1 m1,.cmp .leq i m1 false]):=by intros;kernel_rfl
theorem a0_lo(a2 a3:OA)(n2 n3 z2 z3:Nat)(oa ob:OA)(la lb za zb:Nat)(sc wk:Int)(en lv:Bool)(wt:ByteArray)(o n1 b r d q:Nat)(i i1 m1 j e e2 e3:Int)(v v2:V)(g g1 g2 g3 g4 g5:Hp) :
  let Z1:=pT b 0
  let Z2:=pT r 0
  let Z3:=sL o n1 6
  let Z4:V:=.agg #[iV sc,.bool en,.bool lv,iV wk,.string wt,.slice oa la za]
  let Z5:LV:=[iV sc,.bool en,.bool lv,iV wk,.string wt,.slice oa la za]
  let Z6:V:=.tuple #[v,iV e2]
  let Z7:LV:=[Z3,.slice a2 n2 z2,.slice a3 n3 z3]
  let Z8:V:=.tuple #[v2,iV e3]
  let Z9:LV:=[iV 0,bF,bF,iV 0,.string eS,nS]
  let Z10:V:=.agg { toList:=Z9 }
  let Z11:V:=.agg #[Z3,.slice a2 n2 z2,.slice a3 n3 z3]
  let Z12:V:=.tuple #[Z4,iV e]
  let Z13:LV:=[Z2,iV i]
  let Z14:SH:=.push g1 (cS Z9)
  cutP [5,11,10,9,8,7,6,3,0] (PC 151 false (loopN Try.f37 0) [(5,iV i),(3,Z1),(0,Z2)] g [.val Z3,.num m1,.bit true,.ret (.tuple #[Z4,iV e]) g1,.idx d,.cells Z5,.ret Z6 g2,.cells Z7,.ret Z8 g3,.bit true,.bit false,.cells Z5,.ret bT g4,.bit false,.ret bT g5,.num i1]) =
  some (.normal,[(5,iV i1),(11,iV e3),(10,v2),(9,iV e2),(8,v),(7,iV e),(6,pT d 0),(3,Z1),(0,Z2)],.is g5,[],[.ld1 g b 0 Z3,.arith .add .i64 (Int.ofNat n1) 1 m1,.cmp .leq i m1 true,.call 13 Z13 g Z12 g1,.len g1 d,.st Z14 d 0 Z5 Z5,.call 19 Z13 (.set Z14 d (cS Z5)) Z6 g2,.ldn g2 b 0 3 Z7,.call 55 [Z11,iV i] g2 Z8 g3,.cmp .lss i 1 true,.cmp .neq e 6 false,.ldn g3 d 0 6 Z5,.call 34 [Z4,Z10] g3 bT g4,.cmp .neq e2 e3 false,.call 54 [v,v2] g4 bT g5,.arith .add .i64 i 1 i1]):=by intros;kernel_rfl
theorem a0_hi(a2 a3:OA)(n2 n3 z2 z3:Nat)(oa ob:OA)(la lb za zb:Nat)(sc wk:Int)(en lv:Bool)(wt:ByteArray)(o n1 b r d q:Nat)(i i1 m1 j e e2 e3:Int)(v v2:V)(g g1 g2 g3 g4 g5:Hp) :
  let Z1:=pT b 0
  let Z2:=pT r 0
  let Z3:=sL o n1 6
  let Z4:V:=.agg #[iV sc,.bool en,.bool lv,iV wk,.string wt,.slice oa la za]
  let Z5:LV:=[iV sc,.bool en,.bool lv,iV wk,.string wt,.slice oa la za]
  let Z6:V:=.tuple #[v,iV e2]
  let Z7:LV:=[Z3,.slice a2 n2 z2,.slice a3 n3 z3]
  let Z8:V:=.tuple #[v2,iV e3]
  let Z9:LV:=[iV 0,bF,bF,iV 0,.string eS,nS]
  let Z10:V:=.agg { toList:=Z9 }
  let Z11:V:=.agg #[Z3,.slice a2 n2 z2,.slice a3 n3 z3]
  let Z12:V:=.tuple #[Z4,iV e]
  let Z13:LV:=[Z2,iV i]
  let Z14:SH:=.push g1 (cS Z9)
  cutP [5,11,10,9,8,7,6,3,0] (PC 151 false (loopN Try.f37 0) [(5,iV i),(3,Z1),(0,Z2)] g [.val Z3,.num m1,.bit true,.ret (.tuple #[Z4,iV e]) g1,.idx d,.cells Z5,.ret Z6 g2,.cells Z7,.ret Z8 g3,.bit false,.val Z3,.bit true,.bit false,.cells Z5,.ret bT g4,.bit false,.ret bT g5,.num i1]) =
  some (.normal,[(5,iV i1),(11,iV e3),(10,v2),(9,iV e2),(8,v),(7,iV e),(6,pT d 0),(3,Z1),(0,Z2)],.is g5,[],[.ld1 g b 0 Z3,.arith .add .i64 (Int.ofNat n1) 1 m1,.cmp .leq i m1 true,.call 13 Z13 g Z12 g1,.len g1 d,.st Z14 d 0 Z5 Z5,.call 19 Z13 (.set Z14 d (cS Z5)) Z6 g2,.ldn g2 b 0 3 Z7,.call 55 [Z11,iV i] g2 Z8 g3,.cmp .lss i 1 false,.ld1 g3 b 0 Z3,.cmp .gtr i (Int.ofNat n1) true,.cmp .neq e 6 false,.ldn g3 d 0 6 Z5,.call 34 [Z4,Z10] g3 bT g4,.cmp .neq e2 e3 false,.call 54 [v,v2] g4 bT g5,.arith .add .i64 i 1 i1]):=by intros;kernel_rfl
theorem a0_in(a2 a3:OA)(n2 n3 z2 z3:Nat)(oa ob:OA)(la lb za zb:Nat)(sc wk:Int)(en lv:Bool)(wt:ByteArray)(o n1 b r d q:Nat)(i i1 m1 j e e2 e3:Int)(v v2:V)(g g1 g2 g3 g4 g5:Hp) :
  let Z1:=pT b 0
  let Z2:=pT r 0
  let Z3:=sL o n1 6
  let Z4:V:=.agg #[iV sc,.bool en,.bool lv,iV wk,.string wt,.slice oa la za]
  let Z5:LV:=[iV sc,.bool en,.bool lv,iV wk,.string wt,.slice oa la za]
  let Z6:V:=.tuple #[v,iV e2]
  let Z7:LV:=[Z3,.slice a2 n2 z2,.slice a3 n3 z3]
  let Z8:V:=.tuple #[v2,iV e3]
  let Z9:LV:=[iV sc,.bool en,.bool lv,iV wk,.string wt,.slice ob lb zb]
  let Z10:V:=.agg #[iV sc,.bool en,.bool lv,iV wk,.string wt,.slice ob lb zb]
  let Z11:V:=.agg #[Z3,.slice a2 n2 z2,.slice a3 n3 z3]
  let Z12:V:=.tuple #[Z4,iV e]
  let Z13:LV:=[Z2,iV i]
  let Z14:SH:=.push g1 (cS [iV 0,bF,bF,iV 0,.string eS,nS])
  cutP [5,11,10,9,8,7,6,3,0] (PC 151 false (loopN Try.f37 0) [(5,iV i),(3,Z1),(0,Z2)] g [.val Z3,.num m1,.bit true,.ret (.tuple #[Z4,iV e]) g1,.idx d,.cells Z5,.ret Z6 g2,.cells Z7,.ret Z8 g3,.bit false,.val Z3,.bit false,.bit false,.cells Z5,.val Z3,.num j,.offs q,.cells Z9,.ret bT g4,.bit false,.ret bT g5,.num i1]) =
  some (.normal,[(5,iV i1),(11,iV e3),(10,v2),(9,iV e2),(8,v),(7,iV e),(6,pT d 0),(3,Z1),(0,Z2)],.is g5,[],[.ld1 g b 0 Z3,.arith .add .i64 (Int.ofNat n1) 1 m1,.cmp .leq i m1 true,.call 13 Z13 g Z12 g1,.len g1 d,.st Z14 d 0 Z5 Z5,.call 19 Z13 (.set Z14 d (cS Z5)) Z6 g2,.ldn g2 b 0 3 Z7,.call 55 [Z11,iV i] g2 Z8 g3,.cmp .lss i 1 false,.ld1 g3 b 0 Z3,.cmp .gtr i (Int.ofNat n1) false,.stat (drawN Try.f37 0),.cmp .neq e 0 false,.ldn g3 d 0 6 Z5,.ld1 g3 b 0 Z3,.arith .sub .i64 i 1 j,.off q 0 j n1 6,.ldn g3 o q 6 Z9,.call 34 [Z4,Z10] g3 bT g4,.cmp .neq e2 e3 false,.call 54 [v,v2] g4 bT g5,.arith .add .i64 i 1 i1]):=by intros;kernel_rfl
theorem a1_out(a1 a2 a3:OA)(n1 n2 n3 z1 z2 z3:Nat)(oa ob:OA)(la lb za zb:Nat)(ow wk:Int)(su ov:Bool)(wt:ByteArray)(o2 m b r d q:Nat)(i i1 m1 j e e2 e3:Int)(v v2:V)(g g1 g2 g3 g4 g5:Hp) :
  cutP [12,3,0] (PC 151 false (loopN Try.f37 1) [(12,iV i),(3,pT b 0),(0,pT r 0)] g [.val (.slice a2 n2 z2),.num m1,.bit false]) =
  some (.exit 2,[(12,iV i),(3,pT b 0),(0,pT r 0)],.is g,[],[.ld1 g b 1 (.slice a2 n2 z2),.arith .add .i64 (Int.ofNat n2) 1 m1,.cmp .leq i m1 false]):=by intros;kernel_rfl
theorem a1_lo(a1 a2 a3:OA)(n1 n2 n3 z1 z2 z3:Nat)(oa ob:OA)(la lb za zb:Nat)(ow wk:Int)(su ov:Bool)(wt:ByteArray)(o2 m b r d q:Nat)(i i1 m1 j e e2 e3:Int)(v v2:V)(g g1 g2 g3 g4 g5:Hp) :
  let Z1:=pT r 0
  let Z2:V:=.agg #[iV ow,.bool su,.bool ov,.slice oa la za,iV wk,.string wt]
  let Z3:LV:=[iV ow,.bool su,.bool ov,.slice oa la za,iV wk,.string wt]
  let Z4:V:=.tuple #[v,iV e2]
  let Z5:LV:=[.slice a1 n1 z1,.slice a2 n2 z2,.slice a3 n3 z3]
  let Z6:V:=.tuple #[v2,iV e3]
  let Z7:LV:=[iV 0,bF,bF,nS,iV 0,.string eS]
  let Z8:V:=.agg { toList:=Z7 }
  let Z9:V:=.agg #[.slice a1 n1 z1,.slice a2 n2 z2,.slice a3 n3 z3]
  let Z10:V:=.tuple #[Z2,iV e]
  let Z11:LV:=[Z1,iV i]
  let Z12:SH:=.push g1 (cS Z7)
  cutP [12,18,17,16,15,14,13,3,0] (PC 151 false (loopN Try.f37 1) [(12,iV i),(3,pT b 0),(0,Z1)] g [.val (.slice a2 n2 z2),.num m1,.bit true,.ret (.tuple #[Z2,iV e]) g1,.idx d,.cells Z3,.ret Z4 g2,.cells Z5,.ret Z6 g3,.bit true,.bit false,.cells Z3,.ret bT g4,.bit false,.ret bT g5,.num i1]) =
  some (.normal,[(12,iV i1),(18,iV e3),(17,v2),(16,iV e2),(15,v),(14,iV e),(13,pT d 0),(3,pT b 0),(0,Z1)],.is g5,[],[.ld1 g b 1 (.slice a2 n2 z2),.arith .add .i64 (Int.ofNat n2) 1 m1,.cmp .leq i m1 true,.call 14 Z11 g Z10 g1,.len g1 d,.st Z12 d 0 Z3 Z3,.call 27 Z11 (.set Z12 d (cS Z3)) Z4 g2,.ldn g2 b 0 3 Z5,.call 56 [Z9,iV i] g2 Z6 g3,.cmp .lss i 1 true,.cmp .neq e 6 false,.ldn g3 d 0 6 Z3,.call 35 [Z2,Z8] g3 bT g4,.cmp .neq e2 e3 false,.call 57 [v,v2] g4 bT g5,.arith .add .i64 i 1 i1]):=by intros;kernel_rfl
theorem a1_hi(a1 a2 a3:OA)(n1 n2 n3 z1 z2 z3:Nat)(oa ob:OA)(la lb za zb:Nat)(ow wk:Int)(su ov:Bool)(wt:ByteArray)(o2 m b r d q:Nat)(i i1 m1 j e e2 e3:Int)(v v2:V)(g g1 g2 g3 g4 g5:Hp) :
  let Z1:=pT r 0
  let Z2:V:=.agg #[iV ow,.bool su,.bool ov,.slice oa la za,iV wk,.string wt]
  let Z3:LV:=[iV ow,.bool su,.bool ov,.slice oa la za,iV wk,.string wt]
  let Z4:V:=.tuple #[v,iV e2]
  let Z5:LV:=[.slice a1 n1 z1,.slice a2 n2 z2,.slice a3 n3 z3]
  let Z6:V:=.tuple #[v2,iV e3]
  let Z7:LV:=[iV 0,bF,bF,nS,iV 0,.string eS]
  let Z8:V:=.agg { toList:=Z7 }
  let Z9:=pT b 1
  let Z10:V:=.agg #[.slice a1 n1 z1,.slice a2 n2 z2,.slice a3 n3 z3]
  let Z11:V:=.tuple #[Z2,iV e]
  let Z12:LV:=[Z1,iV i]
  let Z13:SH:=.push g1 (cS Z7)
  cutP [12,18,17,16,15,14,13,3,0] (PC 151 false (loopN Try.f37 1) [(12,iV i),(3,pT b 0),(0,Z1)] g [.val (.slice a2 n2 z2),.num m1,.bit true,.ret (.tuple #[Z2,iV e]) g1,.idx d,.cells Z3,.ret Z4 g2,.cells Z5,.ret Z6 g3,.bit false,.val (.slice a2 n2 z2),.bit true,.bit false,.cells Z3,.ret bT g4,.bit false,.ret bT g5,.num i1]) =
  some (.normal,[(12,iV i1),(18,iV e3),(17,v2),(16,iV e2),(15,v),(14,iV e),(13,pT d 0),(3,pT b 0),(0,Z1)],.is g5,[],[.ld1 g b 1 (.slice a2 n2 z2),.arith .add .i64 (Int.ofNat n2) 1 m1,.cmp .leq i m1 true,.call 14 Z12 g Z11 g1,.len g1 d,.st Z13 d 0 Z3 Z3,.call 27 Z12 (.set Z13 d (cS Z3)) Z4 g2,.ldn g2 b 0 3 Z5,.call 56 [Z10,iV i] g2 Z6 g3,.cmp .lss i 1 false,.ld1 g3 b 1 (.slice a2 n2 z2),.cmp .gtr i (Int.ofNat n2) true,.cmp .neq e 6 false,.ldn g3 d 0 6 Z3,.call 35 [Z2,Z8] g3 bT g4,.cmp .neq e2 e3 false,.call 57 [v,v2] g4 bT g5,.arith .add .i64 i 1 i1]):=by intros;kernel_rfl
theorem a1_in(a1 a3:OA)(n1 n3 z1 z3:Nat)(oa ob:OA)(la lb za zb:Nat)(ow wk:Int)(su ov:Bool)(wt:ByteArray)(o2 m b r d q:Nat)(i i1 m1 j e e2 e3:Int)(v v2:V)(g g1 g2 g3 g4 g5:Hp) :
  let Z1:=pT r 0
  let Z2:=sL o2 m 6
  let Z3:V:=.agg #[iV ow,.bool su,.bool ov,.slice oa la za,iV wk,.string wt]
  let Z4:LV:=[iV ow,.bool su,.bool ov,.slice oa la za,iV wk,.string wt]
  let Z5:V:=.tuple #[v,iV e2]
  let Z6:LV:=[.slice a1 n1 z1,Z2,.slice a3 n3 z3]
  let Z7:V:=.tuple #[v2,iV e3]
  let Z8:LV:=[iV ow,.bool su,.bool ov,.slice ob lb zb,iV wk,.string wt]
  let Z9:V:=.agg #[iV ow,.bool su,.bool ov,.slice ob lb zb,iV wk,.string wt]
  let Z10:=pT b 1
  let Z11:V:=.agg #[.slice a1 n1 z1,Z2,.slice a3 n3 z3]
  let Z12:V:=.tuple #[Z3,iV e]
  let Z13:LV:=[Z1,iV i]
  let Z14:SH:=.push g1 (cS [iV 0,bF,bF,nS,iV 0,.string eS])
  cutP [12,18,17,16,15,14,13,3,0] (PC 151 false (loopN Try.f37 1) [(12,iV i),(3,pT b 0),(0,Z1)] g [.val Z2,.num m1,.bit true,.ret (.tuple #[Z3,iV e]) g1,.idx d,.cells Z4,.ret Z5 g2,.cells Z6,.ret Z7 g3,.bit false,.val Z2,.bit false,.bit false,.cells Z4,.val Z2,.num j,.offs q,.cells Z8,.ret bT g4,.bit false,.ret bT g5,.num i1]) =
  some (.normal,[(12,iV i1),(18,iV e3),(17,v2),(16,iV e2),(15,v),(14,iV e),(13,pT d 0),(3,pT b 0),(0,Z1)],.is g5,[],[.ld1 g b 1 Z2,.arith .add .i64 (Int.ofNat m) 1 m1,.cmp .leq i m1 true,.call 14 Z13 g Z12 g1,.len g1 d,.st Z14 d 0 Z4 Z4,.call 27 Z13 (.set Z14 d (cS Z4)) Z5 g2,.ldn g2 b 0 3 Z6,.call 56 [Z11,iV i] g2 Z7 g3,.cmp .lss i 1 false,.ld1 g3 b 1 Z2,.cmp .gtr i (Int.ofNat m) false,.stat (drawN Try.f37 1),.cmp .neq e 0 false,.ldn g3 d 0 6 Z4,.ld1 g3 b 1 Z2,.arith .sub .i64 i 1 j,.off q 0 j m 6,.ldn g3 o2 q 6 Z8,.call 35 [Z3,Z9] g3 bT g4,.cmp .neq e2 e3 false,.call 57 [v,v2] g4 bT g5,.arith .add .i64 i 1 i1]):=by intros;kernel_rfl
theorem agree(a1 a2 a3:OA)(n1 n2 n3 z1 z2 z3:Nat)(b r:Nat)(E1 E2:Env)(g g1 g2:Hp) :
  let Z1:=pT r 0
  let Z2:V:=.agg #[.slice a1 n1 z1,.slice a2 n2 z2,.slice a3 n3 z3]
  PF Try.f37 [Z1,Z2] g [.idx b,.loop (.exit 0) ((3,pT b 0)::(0,Z1)::E1) g1,.loop (.exit 2) E2 g2] =
  some (bT,.is g2,[],[.len g b,.loop 151 false (loopN Try.f37 0) [(5,iV 0),(20,bF),(19,Z1),(4,bF),(3,pT b 0),(0,Z1),(1,Z2)] (.push g (cS [.slice a1 n1 z1,.slice a2 n2 z2,.slice a3 n3 z3])) (.exit 0) ((3,pT b 0)::(0,Z1)::E1) g1,.loop 151 false (loopN Try.f37 1) ((12,iV 0)::(3,pT b 0)::(0,Z1)::E1) g1 (.exit 2) E2 g2]):=by intros;kernel_rfl
theorem eq_out(o o' n1 q:Nat)(i i1 w:Int)(oa ob:OA)(za zb:Nat)(g g1:Hp) :
  PC 26 false (loopN Try.f57 0) [(13,iV i),(12,iN n1)] g [.bit false] =
  some (.exit 0,[(14,bF),(13,iV i),(12,iN n1)],.is g,[],[.cmp .lss i (Int.ofNat n1) false]):=by intros;kernel_rfl
theorem eq_go(o o' n1 q:Nat)(i i1 w:Int)(oa ob:OA)(za zb:Nat)(g g1:Hp) :
  let Z1:=sL o' n1 1
  let Z2:=sL o n1 1
  cutP [13,5,12,1,0] (PC 26 false (loopN Try.f57 0) [(13,iV i),(12,iN n1),(1,Z1),(0,Z2)] g [.bit true,.offs q,.val (iV w),.offs q,.val (iV w),.bit false,.num i1]) =
  some (.normal,[(13,iV i1),(5,iV i),(12,iN n1),(1,Z1),(0,Z2)],.is g,[],[.cmp .lss i (Int.ofNat n1) true,.stat (drawN Try.f57 0),.off q 0 i n1 1,.ld1 g o q (iV w),.off q 0 i n1 1,.ld1 g o' q (iV w),.cmp .neq w w false,.arith .add .i64 i 1 i1]):=by intros;kernel_rfl
theorem eq(oa ob:OA)(n1 za zb:Nat)(E1:Env)(g g1:Hp) :
  PF Try.f57 [.slice oa n1 za,.slice ob n1 zb] g [.bit false,.loop (.exit 0) E1 g1] =
  some (bT,.is g1,[],[.cmp .neq (Int.ofNat n1) (Int.ofNat n1) false,.loop 26 false (loopN Try.f57 0) [(13,iV 0),(12,iN n1),(11,.slice oa n1 za),(10,bF),(9,iN n1),(8,.slice ob n1 zb),(7,iN n1),(6,.slice oa n1 za),(4,bF),(0,.slice oa n1 za),(1,.slice ob n1 zb)] g (.exit 0) E1 g1]):=by intros;kernel_rfl
theorem se_out(o o' n1 q d:Nat)(i i1 k n mm fk:Int)(ft:ByteArray)(g:Hp) :
  PC 26 false (loopN Try.f61 0) [(14,iV i),(13,iN n1)] g [.bit false] =
  some (.exit 0,[(15,bF),(14,iV i),(13,iN n1)],.is g,[],[.cmp .lss i (Int.ofNat n1) false]):=by intros;kernel_rfl
theorem se_go(o o' n1 q d:Nat)(i i1 k n mm fk:Int)(ft:ByteArray)(g:Hp) :
  let Z1:=sL o' n1 5
  let Z2:LV:=[iV k,iV n,iV mm,iV fk,.string ft]
  let Z3:V:=.agg #[iV k,iV n,iV mm,iV fk,.string ft]
  let Z4:SH:=.push g (cS [iV 0,iV 0,iV 0,iV 0,.string eS])
  let Z5:SH:=.set Z4 d (cS Z2)
  cutP [14,5,6,13,12,1] (PC 26 false (loopN Try.f61 0) [(14,iV i),(13,iN n1),(12,sL o n1 5),(1,Z1)] g [.bit true,.offs q,.cells Z2,.idx d,.cells Z2,.cells Z2,.offs q,.cells Z2,.bit false,.num i1]) =
  some (.normal,[(14,iV i1),(5,iV i),(6,pT d 0),(13,iN n1),(12,sL o n1 5),(1,Z1)],Z5,[],[.cmp .lss i (Int.ofNat n1) true,.off q 0 i n1 5,.ldn g o q 5 Z2,.len g d,.st Z4 d 0 Z2 Z2,.stat (drawN Try.f61 0),.ldn Z5 d 0 5 Z2,.off q 0 i n1 5,.ldn Z5 o' q 5 Z2,.aeq .neq 49 #[iV k,iV n,iV mm,iV fk,.string ft] #[iV k,iV n,iV mm,iV fk,.string ft] false,.arith .add .i64 i 1 i1]):=by intros;kernel_rfl
theorem se(oa ob:OA)(n1 za zb:Nat)(E1:Env)(g g1:Hp) :
  PF Try.f61 [.slice oa n1 za,.slice ob n1 zb] g [.bit false,.loop (.exit 0) E1 g1] =
  some (bT,.is g1,[],[.cmp .neq (Int.ofNat n1) (Int.ofNat n1) false,.loop 26 false (loopN Try.f61 0) [(14,iV 0),(13,iN n1),(12,.slice oa n1 za),(11,bF),(10,iN n1),(9,.slice ob n1 zb),(8,iN n1),(7,.slice oa n1 za),(4,bF),(0,.slice oa n1 za),(1,.slice ob n1 zb)] g (.exit 0) E1 g1]):=by intros;kernel_rfl
theorem nw_lo(b:Nat)(n:Int)(v v2:V)(c c2:LV)(g:Hp) :
  let Z1:LV:=[nS,nS,nS]
  let Z2:AObj:=cS Z1
  let Z3:SH:=.push g Z2
  let Z4:SH:=.set Z3 b Z2
  PF Try.f36 [iV n] g [.idx b,.bit true,.cells Z1,.cells Z1] =
  some (.tuple { toList:=[.agg #[nS,nS,nS],iV 2] },Z4,[],[.len g b,.cmp .lss n 1 true,.st Z3 b 0 Z1 Z1,.ldn Z4 b 0 3 Z1]):=by intros;kernel_rfl
theorem nw_hi(b:Nat)(n:Int)(v v2:V)(c c2:LV)(g:Hp) :
  let Z1:LV:=[nS,nS,nS]
  let Z2:AObj:=cS Z1
  let Z3:SH:=.push g Z2
  let Z4:SH:=.set Z3 b Z2
  PF Try.f36 [iV n] g [.idx b,.bit false,.bit true,.cells Z1,.cells Z1] =
  some (.tuple { toList:=[.agg #[nS,nS,nS],iV 2] },Z4,[],[.len g b,.cmp .lss n 1 false,.cmp .gtr n 64 true,.st Z3 b 0 Z1 Z1,.ldn Z4 b 0 3 Z1]):=by intros;kernel_rfl
theorem nw_go(b o l k:Nat)(n:Int)(c c2:LV)(g:Hp) :
  let Z1:=sL o k 6
  let Z2:=sL l k 2
  let Z3:LV:=[Z1,nS,Z2]
  let Z4:SH:=.push g (cS [nS,nS,nS])
  let Z5:SH:=.push Z4 (cS c)
  let Z6:SH:=.push Z5 (cS c2)
  let Z7:SH:=.set Z6 b (cS Z3)
  PF Try.f36 [iV n] g [.idx b,.bit false,.bit false,.mk Z1 c,.mk Z2 c2,.cells Z3,.cells Z3] =
  some (.tuple { toList:=[.agg #[Z1,nS,Z2],iV 0] },Z7,[],[.len g b,.cmp .lss n 1 false,.cmp .gtr n 64 false,.stat (drawN Try.f36 0),.mks Z4 76 n n Z1 c,.mks Z5 28 n n Z2 c2,.st Z6 b 0 Z3 Z3,.ldn Z7 b 0 3 Z3]):=by intros;kernel_rfl
end Go.Proofs.Ytahomnlkkafbjaa.q18p
