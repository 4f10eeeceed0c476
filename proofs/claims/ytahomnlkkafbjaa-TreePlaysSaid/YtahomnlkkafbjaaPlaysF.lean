import Derived.Test.YtahomnlkkafbjaaPlaysE
import Derived.Test.YtahomnlkkafbjaaProg
import Derived.KernelRfl
set_option linter.constructorNameAsVariable false
set_option linter.unusedVariables false
set_option maxRecDepth 100000
namespace Go.Proofs.Ytahomnlkkafbjaa.q2p
open Go Go.Ev
theorem cp(a1 a2 p1 p2:OA)(n1 n2 z1 z2 l1 l2 y1 y2:Nat)(o n3 b c d w k3:Nat)(cs news:LV)(g g1 g2:Hp) :
  let Z1:=sL o n3 2
  let Z2:V:=.agg #[.slice a1 n1 z1,.slice a2 n2 z2,Z1]
  let Z3:=pT b 0
  let Z4:Env:=[(3,pT d 0),(2,pT c 0),(1,Z3)]
  let Z5:=sL w n3 2
  let Z6:LV:=[.slice p1 l1 y1,.slice p2 l2 y2,Z5]
  let Z7:SH:=.push g2 (cS news)
  let Z8:AObj:=cS Z6
  let Z9:SH:=.set Z7 d Z8
  let Z10:SH:=.set Z9 c Z8
  let Z11:SH:=.push g (cS [.slice a1 n1 z1,.slice a2 n2 z2,Z1])
  let Z12:AObj:=cS [nS,nS,nS]
  let Z13:SH:=.push Z11 Z12
  let Z14:SH:=.push Z13 Z12
  PF Try.f79 [Z2] g [.idx b,.idx c,.idx d,.val (.slice a1 n1 z1),.loop (.exit 0) Z4 g1,.val (.slice a2 n2 z2),.loop (.exit 2) Z4 g2,.val (nS),.val Z1,.app cs news k3 w,.cells Z6,.cells Z6,.cells Z6,.cells Z6] =
  some (.agg #[.slice p1 l1 y1,.slice p2 l2 y2,Z5],Z10,[],[.len g b,.len Z11 c,.len Z13 d,.ld1 Z14 b 0 (.slice a1 n1 z1),.loop 57 false (loopN Try.f79 0) [(13,iV 0),(12,iN n1),(11,.slice a1 n1 z1),(10,Z3),(3,pT d 0),(2,pT c 0),(1,Z3),(0,Z2)] Z14 (.exit 0) Z4 g1,.ld1 g1 b 1 (.slice a2 n2 z2),.loop 57 false (loopN Try.f79 1) [(33,iV 0),(32,iN n2),(31,.slice a2 n2 z2),(30,pT b 1),(3,pT d 0),(2,pT c 0),(1,Z3)] g1 (.exit 2) Z4 g2,.ld1 g2 d 2 (nS),.ld1 g2 b 2 Z1,.appNil g2 o 0 n3 k3 2 24 news w,.st Z7 d 2 [Z5] Z6,.ldn Z9 d 0 3 Z6,.st Z9 c 0 Z6 Z6,.ldn Z10 c 0 3 Z6]):=by intros;kernel_rfl
theorem c0_out(b c d n z:Nat)(a:OA)(i:Int)(g:Hp) :
  PC 57 false (loopN Try.f79 0) [(13,iV i),(12,iN n),(11,.slice a n z),(3,pT d 0),(2,pT c 0),(1,pT b 0)] g [.bit false] =
  some (.exit 0,[(14,bF),(13,iV i),(12,iN n),(11,.slice a n z),(3,pT d 0),(2,pT c 0),(1,pT b 0)],.is g,[],[.cmp .lss i (Int.ofNat n) false]):=by intros;kernel_rfl
theorem c0_nn(sc fk:Int)(en lv:Bool)(ft:ByteArray)(b c d o n q p m y x e z w l:Nat)(i i1:Int)(cs cs1 news news1 c2:LV)(g:Hp) :
  let Z1:=pT d 0
  let Z2:LV:=[iV sc,.bool en,.bool lv,iV fk,.string ft,nS]
  let Z3:=sL z 1 6
  let Z4:V:=.agg #[iV sc,.bool en,.bool lv,iV fk,.string ft,nS]
  let Z5:=pT x 5
  let Z6:SH:=.push g (cS [iV 0,bF,bF,iV 0,.string eS,nS])
  let Z7:AObj:=cS Z2
  let Z8:SH:=.set Z6 x Z7
  let Z9:SH:=.set Z8 x Z7
  let Z10:SH:=.push Z9 Z7
  let Z11:SH:=.push Z10 (cS news)
  cutP [13,6,5,12,11,3,2,1] (PC 57 false (loopN Try.f79 0) [(13,iV i),(12,iN n),(11,sL o n 6),(3,Z1),(2,pT c 0),(1,pT b 0)] g [.bit true,.offs q,.cells Z2,.idx x,.cells Z2,.val (nS),.app0,.cells Z2,.val (nS),.cells Z2,.idx e,.app cs news 0 z,.cells c2,.num i1]) =
  some (.normal,[(13,iV i1),(6,nS),(5,pT x 0),(12,iN n),(11,sL o n 6),(3,Z1),(2,pT c 0),(1,pT b 0)],.set Z11 d (cS c2),[],[.cmp .lss i (Int.ofNat n) true,.off q 0 i n 6,.ldn g o q 6 Z2,.len g x,.st Z6 x 0 Z2 Z2,.ld1 Z8 x 5 (nS),.st Z8 x 5 [nS] Z2,.ld1 Z9 d 0 (nS),.ldn Z9 x 0 6 Z2,.len Z9 e,.appNil Z10 e 0 1 0 6 64 news z,.st Z11 d 0 [Z3] c2,.arith .add .i64 i 1 i1]):=by intros;kernel_rfl
theorem c0_ns(sc fk:Int)(en lv:Bool)(ft:ByteArray)(b c d o n q p m y x e z w l:Nat)(i i1:Int)(cs cs1 news news1 c2:LV)(g:Hp) :
  let Z1:=pT d 0
  let Z2:LV:=[iV sc,.bool en,.bool lv,iV fk,.string ft,nS]
  let Z3:=sL w l 6
  let Z4:=sL z (Nat.succ l) 6
  let Z5:V:=.agg #[iV sc,.bool en,.bool lv,iV fk,.string ft,nS]
  let Z6:=pT x 5
  let Z7:SH:=.push g (cS [iV 0,bF,bF,iV 0,.string eS,nS])
  let Z8:AObj:=cS Z2
  let Z9:SH:=.set Z7 x Z8
  let Z10:SH:=.set Z9 x Z8
  let Z11:SH:=.push Z10 Z8
  let Z12:SH:=.push (.set Z11 w .dead) (cS cs)
  cutP [13,6,5,12,11,3,2,1] (PC 57 false (loopN Try.f79 0) [(13,iV i),(12,iN n),(11,sL o n 6),(3,Z1),(2,pT c 0),(1,pT b 0)] g [.bit true,.offs q,.cells Z2,.idx x,.cells Z2,.val (nS),.app0,.cells Z2,.val Z3,.cells Z2,.idx e,.app cs news 0 z,.cells c2,.num i1]) =
  some (.normal,[(13,iV i1),(6,nS),(5,pT x 0),(12,iN n),(11,sL o n 6),(3,Z1),(2,pT c 0),(1,pT b 0)],.set Z12 d (cS c2),[],[.cmp .lss i (Int.ofNat n) true,.off q 0 i n 6,.ldn g o q 6 Z2,.len g x,.st Z7 x 0 Z2 Z2,.ld1 Z9 x 5 (nS),.st Z9 x 5 [nS] Z2,.ld1 Z10 d 0 Z3,.ldn Z10 x 0 6 Z2,.len Z10 e,.app Z11 w 0 l e 0 1 0 6 64 cs news z,.st Z12 d 0 [Z4] c2,.arith .add .i64 i 1 i1]):=by intros;kernel_rfl
theorem c0_zn(sc fk:Int)(en lv:Bool)(ft:ByteArray)(b c d o n q p m y x e z w l:Nat)(i i1:Int)(cs cs1 news news1 c2:LV)(g:Hp) :
  let Z1:=pT d 0
  let Z2:=sL p 0 2
  let Z3:LV:=[iV sc,.bool en,.bool lv,iV fk,.string ft,Z2]
  let Z4:LV:=[iV sc,.bool en,.bool lv,iV fk,.string ft,nS]
  let Z5:=sL z 1 6
  let Z6:=pT x 5
  let Z7:SH:=.push g (cS [iV 0,bF,bF,iV 0,.string eS,nS])
  let Z8:SH:=.set Z7 x (cS Z3)
  let Z9:AObj:=cS Z4
  let Z10:SH:=.set Z8 x Z9
  let Z11:SH:=.push Z10 Z9
  let Z12:SH:=.push Z11 (cS news)
  cutP [13,6,5,12,11,3,2,1] (PC 57 false (loopN Try.f79 0) [(13,iV i),(12,iN n),(11,sL o n 6),(3,Z1),(2,pT c 0),(1,pT b 0)] g [.bit true,.offs q,.cells Z3,.idx x,.cells Z3,.val Z2,.app0,.cells Z4,.val (nS),.cells Z4,.idx e,.app cs news 0 z,.cells c2,.num i1]) =
  some (.normal,[(13,iV i1),(6,nS),(5,pT x 0),(12,iN n),(11,sL o n 6),(3,Z1),(2,pT c 0),(1,pT b 0)],.set Z12 d (cS c2),[],[.cmp .lss i (Int.ofNat n) true,.off q 0 i n 6,.ldn g o q 6 Z3,.len g x,.st Z7 x 0 Z3 Z3,.ld1 Z8 x 5 Z2,.app0 Z8 p 0 0,.st Z8 x 5 [nS] Z4,.ld1 Z10 d 0 (nS),.ldn Z10 x 0 6 Z4,.len Z10 e,.appNil Z11 e 0 1 0 6 64 news z,.st Z12 d 0 [Z5] c2,.arith .add .i64 i 1 i1]):=by intros;kernel_rfl
theorem c0_zs(sc fk:Int)(en lv:Bool)(ft:ByteArray)(b c d o n q p m y x e z w l:Nat)(i i1:Int)(cs cs1 news news1 c2:LV)(g:Hp) :
  let Z1:=pT d 0
  let Z2:=sL p 0 2
  let Z3:LV:=[iV sc,.bool en,.bool lv,iV fk,.string ft,Z2]
  let Z4:LV:=[iV sc,.bool en,.bool lv,iV fk,.string ft,nS]
  let Z5:=sL w l 6
  let Z6:=sL z (Nat.succ l) 6
  let Z7:=pT x 5
  let Z8:SH:=.push g (cS [iV 0,bF,bF,iV 0,.string eS,nS])
  let Z9:SH:=.set Z8 x (cS Z3)
  let Z10:AObj:=cS Z4
  let Z11:SH:=.set Z9 x Z10
  let Z12:SH:=.push Z11 Z10
  let Z13:SH:=.push (.set Z12 w .dead) (cS cs)
  cutP [13,6,5,12,11,3,2,1] (PC 57 false (loopN Try.f79 0) [(13,iV i),(12,iN n),(11,sL o n 6),(3,Z1),(2,pT c 0),(1,pT b 0)] g [.bit true,.offs q,.cells Z3,.idx x,.cells Z3,.val Z2,.app0,.cells Z4,.val Z5,.cells Z4,.idx e,.app cs news 0 z,.cells c2,.num i1]) =
  some (.normal,[(13,iV i1),(6,nS),(5,pT x 0),(12,iN n),(11,sL o n 6),(3,Z1),(2,pT c 0),(1,pT b 0)],.set Z13 d (cS c2),[],[.cmp .lss i (Int.ofNat n) true,.off q 0 i n 6,.ldn g o q 6 Z3,.len g x,.st Z8 x 0 Z3 Z3,.ld1 Z9 x 5 Z2,.app0 Z9 p 0 0,.st Z9 x 5 [nS] Z4,.ld1 Z11 d 0 Z5,.ldn Z11 x 0 6 Z4,.len Z11 e,.app Z12 w 0 l e 0 1 0 6 64 cs news z,.st Z13 d 0 [Z6] c2,.arith .add .i64 i 1 i1]):=by intros;kernel_rfl
theorem c0_sn(sc fk:Int)(en lv:Bool)(ft:ByteArray)(b c d o n q p m y x e z w l:Nat)(i i1:Int)(cs cs1 news news1 c2:LV)(g:Hp) :
  let Z1:=pT d 0
  let Z2:=sL p (m+1) 2
  let Z3:=sL z 1 6
  let Z4:=sL y (Nat.succ m) 2
  let Z5:=pT x 5
  let Z6:=sL p (Nat.succ m) 2
  let Z7:SH:=.push g (cS [iV 0,bF,bF,iV 0,.string eS,nS])
  let Z8:LV:=[iV sc,.bool en,.bool lv,iV fk,.string ft,Z6]
  let Z9:SH:=.set Z7 x (cS Z8)
  let Z10:SH:=.push Z9 (cS news1)
  let Z11:LV:=[iV sc,.bool en,.bool lv,iV fk,.string ft,Z4]
  let Z12:AObj:=cS Z11
  let Z13:SH:=.set Z10 x Z12
  let Z14:SH:=.push Z13 Z12
  let Z15:SH:=.push Z14 (cS news)
  cutP [13,6,5,12,11,3,2,1] (PC 57 false (loopN Try.f79 0) [(13,iV i),(12,iN n),(11,sL o n 6),(3,Z1),(2,pT c 0),(1,pT b 0)] g [.bit true,.offs q,.cells [iV sc,.bool en,.bool lv,iV fk,.string ft,Z2],.idx x,.cells [iV sc,.bool en,.bool lv,iV fk,.string ft,Z2],.val Z2,.app cs1 news1 m y,.cells [iV sc,.bool en,.bool lv,iV fk,.string ft,sL y (m+1) 2],.val (nS),.cells [iV sc,.bool en,.bool lv,iV fk,.string ft,sL y (m+1) 2],.idx e,.app cs news 0 z,.cells c2,.num i1]) =
  some (.normal,[(13,iV i1),(6,Z4),(5,pT x 0),(12,iN n),(11,sL o n 6),(3,Z1),(2,pT c 0),(1,pT b 0)],.set Z15 d (cS c2),[],[.cmp .lss i (Int.ofNat n) true,.off q 0 i n 6,.ldn g o q 6 Z8,.len g x,.st Z7 x 0 Z8 Z8,.ld1 Z9 x 5 Z6,.appNil Z9 p 0 (Nat.succ m) m 2 16 news1 y,.st Z10 x 5 [Z4] Z11,.ld1 Z13 d 0 (nS),.ldn Z13 x 0 6 Z11,.len Z13 e,.appNil Z14 e 0 1 0 6 64 news z,.st Z15 d 0 [Z3] c2,.arith .add .i64 i 1 i1]):=by intros;kernel_rfl
theorem c0_ss(sc fk:Int)(en lv:Bool)(ft:ByteArray)(b c d o n q p m y x e z w l:Nat)(i i1:Int)(cs cs1 news news1 c2:LV)(g:Hp) :
  let Z1:=pT d 0
  let Z2:=sL p (m+1) 2
  let Z3:=sL w l 6
  let Z4:=sL z (Nat.succ l) 6
  let Z5:=sL y (Nat.succ m) 2
  let Z6:=pT x 5
  let Z7:=sL p (Nat.succ m) 2
  let Z8:SH:=.push g (cS [iV 0,bF,bF,iV 0,.string eS,nS])
  let Z9:LV:=[iV sc,.bool en,.bool lv,iV fk,.string ft,Z7]
  let Z10:SH:=.set Z8 x (cS Z9)
  let Z11:SH:=.push Z10 (cS news1)
  let Z12:LV:=[iV sc,.bool en,.bool lv,iV fk,.string ft,Z5]
  let Z13:AObj:=cS Z12
  let Z14:SH:=.set Z11 x Z13
  let Z15:SH:=.push Z14 Z13
  let Z16:SH:=.push (.set Z15 w .dead) (cS cs)
  cutP [13,6,5,12,11,3,2,1] (PC 57 false (loopN Try.f79 0) [(13,iV i),(12,iN n),(11,sL o n 6),(3,Z1),(2,pT c 0),(1,pT b 0)] g [.bit true,.offs q,.cells [iV sc,.bool en,.bool lv,iV fk,.string ft,Z2],.idx x,.cells [iV sc,.bool en,.bool lv,iV fk,.string ft,Z2],.val Z2,.app cs1 news1 m y,.cells [iV sc,.bool en,.bool lv,iV fk,.string ft,sL y (m+1) 2],.val Z3,.cells [iV sc,.bool en,.bool lv,iV fk,.string ft,sL y (m+1) 2],.idx e,.app cs news 0 z,.cells c2,.num i1]) =
  some (.normal,[(13,iV i1),(6,Z5),(5,pT x 0),(12,iN n),(11,sL o n 6),(3,Z1),(2,pT c 0),(1,pT b 0)],.set Z16 d (cS c2),[],[.cmp .lss i (Int.ofNat n) true,.off q 0 i n 6,.ldn g o q 6 Z9,.len g x,.st Z8 x 0 Z9 Z9,.ld1 Z10 x 5 Z7,.appNil Z10 p 0 (Nat.succ m) m 2 16 news1 y,.st Z11 x 5 [Z5] Z12,.ld1 Z14 d 0 Z3,.ldn Z14 x 0 6 Z12,.len Z14 e,.app Z15 w 0 l e 0 1 0 6 64 cs news z,.st Z16 d 0 [Z4] c2,.arith .add .i64 i 1 i1]):=by intros;kernel_rfl
theorem c1_out(b c d n z:Nat)(a:OA)(i:Int)(g:Hp) :
  PC 57 false (loopN Try.f79 1) [(33,iV i),(32,iN n),(31,.slice a n z),(3,pT d 0),(2,pT c 0),(1,pT b 0)] g [.bit false] =
  some (.exit 2,[(34,bF),(33,iV i),(32,iN n),(31,.slice a n z),(3,pT d 0),(2,pT c 0),(1,pT b 0)],.is g,[],[.cmp .lss i (Int.ofNat n) false]):=by intros;kernel_rfl
theorem c1_nn(ow fk:Int)(su ov:Bool)(ft:ByteArray)(b c d o n q p m y x e z w l:Nat)(i i1:Int)(cs cs1 news news1 c2:LV)(g:Hp) :
  let Z1:LV:=[iV ow,.bool su,.bool ov,nS,iV fk,.string ft]
  let Z2:=pT d 1
  let Z3:=sL z 1 6
  let Z4:V:=.agg #[iV ow,.bool su,.bool ov,nS,iV fk,.string ft]
  let Z5:=pT x 3
  let Z6:SH:=.push g (cS [iV 0,bF,bF,nS,iV 0,.string eS])
  let Z7:AObj:=cS Z1
  let Z8:SH:=.set Z6 x Z7
  let Z9:SH:=.set Z8 x Z7
  let Z10:SH:=.push Z9 Z7
  let Z11:SH:=.push Z10 (cS news)
  cutP [33,9,8,32,31,3,2,1] (PC 57 false (loopN Try.f79 1) [(33,iV i),(32,iN n),(31,sL o n 6),(3,pT d 0),(2,pT c 0),(1,pT b 0)] g [.bit true,.offs q,.cells Z1,.idx x,.cells Z1,.val (nS),.app0,.cells Z1,.val (nS),.cells Z1,.idx e,.app cs news 0 z,.cells c2,.num i1]) =
  some (.normal,[(33,iV i1),(9,nS),(8,pT x 0),(32,iN n),(31,sL o n 6),(3,pT d 0),(2,pT c 0),(1,pT b 0)],.set Z11 d (cS c2),[],[.cmp .lss i (Int.ofNat n) true,.off q 0 i n 6,.ldn g o q 6 Z1,.len g x,.st Z6 x 0 Z1 Z1,.ld1 Z8 x 3 (nS),.st Z8 x 3 [nS] Z1,.ld1 Z9 d 1 (nS),.ldn Z9 x 0 6 Z1,.len Z9 e,.appNil Z10 e 0 1 0 6 64 news z,.st Z11 d 1 [Z3] c2,.arith .add .i64 i 1 i1]):=by intros;kernel_rfl
theorem c1_ns(ow fk:Int)(su ov:Bool)(ft:ByteArray)(b c d o n q p m y x e z w l:Nat)(i i1:Int)(cs cs1 news news1 c2:LV)(g:Hp) :
  let Z1:LV:=[iV ow,.bool su,.bool ov,nS,iV fk,.string ft]
  let Z2:=sL w l 6
  let Z3:=pT d 1
  let Z4:=sL z (Nat.succ l) 6
  let Z5:V:=.agg #[iV ow,.bool su,.bool ov,nS,iV fk,.string ft]
  let Z6:=pT x 3
  let Z7:SH:=.push g (cS [iV 0,bF,bF,nS,iV 0,.string eS])
  let Z8:AObj:=cS Z1
  let Z9:SH:=.set Z7 x Z8
  let Z10:SH:=.set Z9 x Z8
  let Z11:SH:=.push Z10 Z8
  let Z12:SH:=.push (.set Z11 w .dead) (cS cs)
  cutP [33,9,8,32,31,3,2,1] (PC 57 false (loopN Try.f79 1) [(33,iV i),(32,iN n),(31,sL o n 6),(3,pT d 0),(2,pT c 0),(1,pT b 0)] g [.bit true,.offs q,.cells Z1,.idx x,.cells Z1,.val (nS),.app0,.cells Z1,.val Z2,.cells Z1,.idx e,.app cs news 0 z,.cells c2,.num i1]) =
  some (.normal,[(33,iV i1),(9,nS),(8,pT x 0),(32,iN n),(31,sL o n 6),(3,pT d 0),(2,pT c 0),(1,pT b 0)],.set Z12 d (cS c2),[],[.cmp .lss i (Int.ofNat n) true,.off q 0 i n 6,.ldn g o q 6 Z1,.len g x,.st Z7 x 0 Z1 Z1,.ld1 Z9 x 3 (nS),.st Z9 x 3 [nS] Z1,.ld1 Z10 d 1 Z2,.ldn Z10 x 0 6 Z1,.len Z10 e,.app Z11 w 0 l e 0 1 0 6 64 cs news z,.st Z12 d 1 [Z4] c2,.arith .add .i64 i 1 i1]):=by intros;kernel_rfl
theorem c1_zn(ow fk:Int)(su ov:Bool)(ft:ByteArray)(b c d o n q p m y x e z w l:Nat)(i i1:Int)(cs cs1 news news1 c2:LV)(g:Hp) :
  let Z1:=sL p 0 1
  let Z2:LV:=[iV ow,.bool su,.bool ov,Z1,iV fk,.string ft]
  let Z3:LV:=[iV ow,.bool su,.bool ov,nS,iV fk,.string ft]
  let Z4:=pT d 1
  let Z5:=sL z 1 6
  let Z6:=pT x 3
  let Z7:SH:=.push g (cS [iV 0,bF,bF,nS,iV 0,.string eS])
  let Z8:SH:=.set Z7 x (cS Z2)
  let Z9:AObj:=cS Z3
  let Z10:SH:=.set Z8 x Z9
  let Z11:SH:=.push Z10 Z9
  let Z12:SH:=.push Z11 (cS news)
  cutP [33,9,8,32,31,3,2,1] (PC 57 false (loopN Try.f79 1) [(33,iV i),(32,iN n),(31,sL o n 6),(3,pT d 0),(2,pT c 0),(1,pT b 0)] g [.bit true,.offs q,.cells Z2,.idx x,.cells Z2,.val Z1,.app0,.cells Z3,.val (nS),.cells Z3,.idx e,.app cs news 0 z,.cells c2,.num i1]) =
  some (.normal,[(33,iV i1),(9,nS),(8,pT x 0),(32,iN n),(31,sL o n 6),(3,pT d 0),(2,pT c 0),(1,pT b 0)],.set Z12 d (cS c2),[],[.cmp .lss i (Int.ofNat n) true,.off q 0 i n 6,.ldn g o q 6 Z2,.len g x,.st Z7 x 0 Z2 Z2,.ld1 Z8 x 3 Z1,.app0 Z8 p 0 0,.st Z8 x 3 [nS] Z3,.ld1 Z10 d 1 (nS),.ldn Z10 x 0 6 Z3,.len Z10 e,.appNil Z11 e 0 1 0 6 64 news z,.st Z12 d 1 [Z5] c2,.arith .add .i64 i 1 i1]):=by intros;kernel_rfl
theorem c1_zs(ow fk:Int)(su ov:Bool)(ft:ByteArray)(b c d o n q p m y x e z w l:Nat)(i i1:Int)(cs cs1 news news1 c2:LV)(g:Hp) :
  let Z1:=sL p 0 1
  let Z2:LV:=[iV ow,.bool su,.bool ov,Z1,iV fk,.string ft]
  let Z3:LV:=[iV ow,.bool su,.bool ov,nS,iV fk,.string ft]
  let Z4:=sL w l 6
  let Z5:=pT d 1
  let Z6:=sL z (Nat.succ l) 6
  let Z7:=pT x 3
  let Z8:SH:=.push g (cS [iV 0,bF,bF,nS,iV 0,.string eS])
  let Z9:SH:=.set Z8 x (cS Z2)
  let Z10:AObj:=cS Z3
  let Z11:SH:=.set Z9 x Z10
  let Z12:SH:=.push Z11 Z10
  let Z13:SH:=.push (.set Z12 w .dead) (cS cs)
  cutP [33,9,8,32,31,3,2,1] (PC 57 false (loopN Try.f79 1) [(33,iV i),(32,iN n),(31,sL o n 6),(3,pT d 0),(2,pT c 0),(1,pT b 0)] g [.bit true,.offs q,.cells Z2,.idx x,.cells Z2,.val Z1,.app0,.cells Z3,.val Z4,.cells Z3,.idx e,.app cs news 0 z,.cells c2,.num i1]) =
  some (.normal,[(33,iV i1),(9,nS),(8,pT x 0),(32,iN n),(31,sL o n 6),(3,pT d 0),(2,pT c 0),(1,pT b 0)],.set Z13 d (cS c2),[],[.cmp .lss i (Int.ofNat n) true,.off q 0 i n 6,.ldn g o q 6 Z2,.len g x,.st Z8 x 0 Z2 Z2,.ld1 Z9 x 3 Z1,.app0 Z9 p 0 0,.st Z9 x 3 [nS] Z3,.ld1 Z11 d 1 Z4,.ldn Z11 x 0 6 Z3,.len Z11 e,.app Z12 w 0 l e 0 1 0 6 64 cs news z,.st Z13 d 1 [Z6] c2,.arith .add .i64 i 1 i1]):=by intros;kernel_rfl
theorem c1_sn(ow fk:Int)(su ov:Bool)(ft:ByteArray)(b c d o n q p m y x e z w l:Nat)(i i1:Int)(cs cs1 news news1 c2:LV)(g:Hp) :
  let Z1:=sL p (m+1) 1
  let Z2:=pT d 1
  let Z3:=sL z 1 6
  let Z4:=sL y (Nat.succ m) 1
  let Z5:=pT x 3
  let Z6:=sL p (Nat.succ m) 1
  let Z7:SH:=.push g (cS [iV 0,bF,bF,nS,iV 0,.string eS])
  let Z8:LV:=[iV ow,.bool su,.bool ov,Z6,iV fk,.string ft]
  let Z9:SH:=.set Z7 x (cS Z8)
  let Z10:SH:=.push Z9 (cS news1)
  let Z11:LV:=[iV ow,.bool su,.bool ov,Z4,iV fk,.string ft]
  let Z12:AObj:=cS Z11
  let Z13:SH:=.set Z10 x Z12
  let Z14:SH:=.push Z13 Z12
  let Z15:SH:=.push Z14 (cS news)
  cutP [33,9,8,32,31,3,2,1] (PC 57 false (loopN Try.f79 1) [(33,iV i),(32,iN n),(31,sL o n 6),(3,pT d 0),(2,pT c 0),(1,pT b 0)] g [.bit true,.offs q,.cells [iV ow,.bool su,.bool ov,Z1,iV fk,.string ft],.idx x,.cells [iV ow,.bool su,.bool ov,Z1,iV fk,.string ft],.val Z1,.app cs1 news1 m y,.cells [iV ow,.bool su,.bool ov,sL y (m+1) 1,iV fk,.string ft],.val (nS),.cells [iV ow,.bool su,.bool ov,sL y (m+1) 1,iV fk,.string ft],.idx e,.app cs news 0 z,.cells c2,.num i1]) =
  some (.normal,[(33,iV i1),(9,Z4),(8,pT x 0),(32,iN n),(31,sL o n 6),(3,pT d 0),(2,pT c 0),(1,pT b 0)],.set Z15 d (cS c2),[],[.cmp .lss i (Int.ofNat n) true,.off q 0 i n 6,.ldn g o q 6 Z8,.len g x,.st Z7 x 0 Z8 Z8,.ld1 Z9 x 3 Z6,.appNil Z9 p 0 (Nat.succ m) m 1 8 news1 y,.st Z10 x 3 [Z4] Z11,.ld1 Z13 d 1 (nS),.ldn Z13 x 0 6 Z11,.len Z13 e,.appNil Z14 e 0 1 0 6 64 news z,.st Z15 d 1 [Z3] c2,.arith .add .i64 i 1 i1]):=by intros;kernel_rfl
theorem c1_ss(ow fk:Int)(su ov:Bool)(ft:ByteArray)(b c d o n q p m y x e z w l:Nat)(i i1:Int)(cs cs1 news news1 c2:LV)(g:Hp) :
  let Z1:=sL p (m+1) 1
  let Z2:=sL w l 6
  let Z3:=pT d 1
  let Z4:=sL z (Nat.succ l) 6
  let Z5:=sL y (Nat.succ m) 1
  let Z6:=pT x 3
  let Z7:=sL p (Nat.succ m) 1
  let Z8:SH:=.push g (cS [iV 0,bF,bF,nS,iV 0,.string eS])
  let Z9:LV:=[iV ow,.bool su,.bool ov,Z7,iV fk,.string ft]
  let Z10:SH:=.set Z8 x (cS Z9)
  let Z11:SH:=.push Z10 (cS news1)
  let Z12:LV:=[iV ow,.bool su,.bool ov,Z5,iV fk,.string ft]
  let Z13:AObj:=cS Z12
  let Z14:SH:=.set Z11 x Z13
  let Z15:SH:=.push Z14 Z13
  let Z16:SH:=.push (.set Z15 w .dead) (cS cs)
  cutP [33,9,8,32,31,3,2,1] (PC 57 false (loopN Try.f79 1) [(33,iV i),(32,iN n),(31,sL o n 6),(3,pT d 0),(2,pT c 0),(1,pT b 0)] g [.bit true,.offs q,.cells [iV ow,.bool su,.bool ov,Z1,iV fk,.string ft],.idx x,.cells [iV ow,.bool su,.bool ov,Z1,iV fk,.string ft],.val Z1,.app cs1 news1 m y,.cells [iV ow,.bool su,.bool ov,sL y (m+1) 1,iV fk,.string ft],.val Z2,.cells [iV ow,.bool su,.bool ov,sL y (m+1) 1,iV fk,.string ft],.idx e,.app cs news 0 z,.cells c2,.num i1]) =
  some (.normal,[(33,iV i1),(9,Z5),(8,pT x 0),(32,iN n),(31,sL o n 6),(3,pT d 0),(2,pT c 0),(1,pT b 0)],.set Z16 d (cS c2),[],[.cmp .lss i (Int.ofNat n) true,.off q 0 i n 6,.ldn g o q 6 Z9,.len g x,.st Z8 x 0 Z9 Z9,.ld1 Z10 x 3 Z7,.appNil Z10 p 0 (Nat.succ m) m 1 8 news1 y,.st Z11 x 3 [Z5] Z12,.ld1 Z14 d 1 Z2,.ldn Z14 x 0 6 Z12,.len Z14 e,.app Z15 w 0 l e 0 1 0 6 64 cs news z,.st Z16 d 1 [Z4] c2,.arith .add .i64 i 1 i1]):=by intros;kernel_rfl
theorem li_n(a1 a2 a3:OA)(n1 n2 n3 z1 z2 z3:Nat)(a2x a3x:OA)(n2x n3x z2x z3x:Nat)(o m b b2 b3 e p l z y:Nat)(n j k kn:Int)(cs news c1:LV)(g g1:Hp) :
  let Z1:V:=.agg #[.slice a1 n1 z1,.slice a2 n2 z2,.slice a3 n3 z3]
  let Z2:LV:=[.slice a1 n1 z1,.slice a2 n2 z2,.slice a3 n3 z3]
  let Z3:=sL o m 6
  let Z4:V:=.agg #[Z3,.slice a2x n2x z2x,.slice a3x n3x z3x]
  let Z5:LV:=[Z3,.slice a2x n2x z2x,.slice a3x n3x z3x]
  let Z6:LV:=[iV k,iV kn]
  let Z7:AObj:=cS Z5
  let Z8:SH:=.set g1 b Z7
  let Z9:AObj:=cS Z6
  let Z10:SH:=.push Z8 Z9
  let Z11:SH:=.push Z10 (cS news)
  let Z12:SH:=.set Z11 o (cS c1)
  let Z13:SH:=.set Z12 b3 Z7
  let Z14:SH:=.push g (cS Z2)
  let Z15:SH:=.push Z14 Z9
  let Z16:SH:=.push Z15 (cS [nS,nS,nS])
  let Z17:=pT b 0
  PF Try.f76 [Z1,iV n,.agg #[iV k,iV kn]] g [.idx b,.idx b2,.idx b3,.cells Z2,.ret Z4 g1,.cells Z5,.val Z3,.num j,.val Z3,.num j,.offs e,.val (nS),.cells Z6,.idx z,.app cs news 0 y,.offs e,.cells c1,.cells Z5,.cells Z5,.cells Z5] =
  some (Z4,Z13,[],[.len g b,.len Z14 b2,.len Z15 b3,.ldn Z16 b 0 3 Z2,.call 79 [Z1] Z16 Z4 g1,.st g1 b 0 Z5 Z5,.stat (drawN Try.f76 0),.again Z8 76 Z17 Z3,.again Z10 76 Z17 Z3,.again Z11 76 Z17 Z3,.arith .sub .i64 n 1 j,.refl (iV j),.ld1 Z8 b 0 Z3,.arith .sub .i64 n 1 j,.ld1 Z8 b 0 Z3,.arith .sub .i64 n 1 j,.off e 0 j m 6,.ld1 Z8 o (Nat.succ (Nat.succ (Nat.succ (Nat.succ (Nat.succ e))))) (nS),.ldn Z8 b2 0 2 Z6,.len Z8 z,.appNil Z10 z 0 1 0 2 16 news y,.off e 0 j m 6,.st Z11 o (Nat.succ (Nat.succ (Nat.succ (Nat.succ (Nat.succ e))))) [sL y 1 2] c1,.ldn Z12 b 0 3 Z5,.st Z12 b3 0 Z5 Z5,.ldn Z13 b3 0 3 Z5]):=by intros;kernel_rfl
theorem li_s(a1 a2 a3:OA)(n1 n2 n3 z1 z2 z3:Nat)(a2x a3x:OA)(n2x n3x z2x z3x:Nat)(o m b b2 b3 e p l z y:Nat)(n j k kn:Int)(cs news c1:LV)(g g1:Hp) :
  let Z1:V:=.agg #[.slice a1 n1 z1,.slice a2 n2 z2,.slice a3 n3 z3]
  let Z2:LV:=[.slice a1 n1 z1,.slice a2 n2 z2,.slice a3 n3 z3]
  let Z3:=sL o m 6
  let Z4:V:=.agg #[Z3,.slice a2x n2x z2x,.slice a3x n3x z3x]
  let Z5:LV:=[Z3,.slice a2x n2x z2x,.slice a3x n3x z3x]
  let Z6:=sL p l 2
  let Z7:LV:=[iV k,iV kn]
  let Z8:AObj:=cS Z5
  let Z9:SH:=.set g1 b Z8
  let Z10:AObj:=cS Z7
  let Z11:SH:=.push Z9 Z10
  let Z12:SH:=.push (.set Z11 p .dead) (cS cs)
  let Z13:SH:=.set Z12 o (cS c1)
  let Z14:SH:=.set Z13 b3 Z8
  let Z15:SH:=.push g (cS Z2)
  let Z16:SH:=.push Z15 Z10
  let Z17:SH:=.push Z16 (cS [nS,nS,nS])
  let Z18:=pT b 0
  PF Try.f76 [Z1,iV n,.agg #[iV k,iV kn]] g [.idx b,.idx b2,.idx b3,.cells Z2,.ret Z4 g1,.cells Z5,.val Z3,.num j,.val Z3,.num j,.offs e,.val Z6,.cells Z7,.idx z,.app cs news 0 y,.offs e,.cells c1,.cells Z5,.cells Z5,.cells Z5] =
  some (Z4,Z14,[],[.len g b,.len Z15 b2,.len Z16 b3,.ldn Z17 b 0 3 Z2,.call 79 [Z1] Z17 Z4 g1,.st g1 b 0 Z5 Z5,.stat (drawN Try.f76 0),.again Z9 76 Z18 Z3,.again Z11 76 Z18 Z3,.again Z12 76 Z18 Z3,.arith .sub .i64 n 1 j,.refl (iV j),.ld1 Z9 b 0 Z3,.arith .sub .i64 n 1 j,.ld1 Z9 b 0 Z3,.arith .sub .i64 n 1 j,.off e 0 j m 6,.ld1 Z9 o (Nat.succ (Nat.succ (Nat.succ (Nat.succ (Nat.succ e))))) Z6,.ldn Z9 b2 0 2 Z7,.len Z9 z,.app Z11 p 0 l z 0 1 0 2 16 cs news y,.off e 0 j m 6,.st Z12 o (Nat.succ (Nat.succ (Nat.succ (Nat.succ (Nat.succ e))))) [sL y (Nat.succ l) 2] c1,.ldn Z13 b 0 3 Z5,.st Z13 b3 0 Z5 Z5,.ldn Z14 b3 0 3 Z5]):=by intros;kernel_rfl
theorem ul(a1 a2 a3:OA)(n1 n2 n3 z1 z2 z3:Nat)(a2x a3x:OA)(n2x n3x z2x z3x:Nat)(o m b c e p l l':Nat)(n j j2:Int)(c1:LV)(g g1:Hp) :
  let Z1:V:=.agg #[.slice a1 n1 z1,.slice a2 n2 z2,.slice a3 n3 z3]
  let Z2:LV:=[.slice a1 n1 z1,.slice a2 n2 z2,.slice a3 n3 z3]
  let Z3:=sL o m 6
  let Z4:V:=.agg #[Z3,.slice a2x n2x z2x,.slice a3x n3x z3x]
  let Z5:LV:=[Z3,.slice a2x n2x z2x,.slice a3x n3x z3x]
  let Z6:=sL p l 2
  let Z7:AObj:=cS Z5
  let Z8:SH:=.set g1 b Z7
  let Z9:SH:=.set Z8 o (cS c1)
  let Z10:SH:=.set Z9 c Z7
  let Z11:SH:=.push g (cS Z2)
  let Z12:SH:=.push Z11 (cS [nS,nS,nS])
  PF Try.f83 [Z1,iV n] g [.idx b,.idx c,.cells Z2,.ret Z4 g1,.cells Z5,.val Z3,.num j,.offs e,.val Z6,.val Z3,.num j,.num j2,.cut 0 l',.offs e,.cells c1,.cells Z5,.cells Z5,.cells Z5] =
  some (Z4,Z10,[],[.len g b,.len Z11 c,.ldn Z12 b 0 3 Z2,.call 79 [Z1] Z12 Z4 g1,.st g1 b 0 Z5 Z5,.ld1 Z8 b 0 Z3,.arith .sub .i64 n 1 j,.off e 0 j m 6,.ld1 Z8 o (Nat.succ (Nat.succ (Nat.succ (Nat.succ (Nat.succ e))))) Z6,.stat (drawN Try.f83 0),.ld1 Z8 b 0 Z3,.arith .sub .i64 n 1 j,.arith .sub .i64 (Int.ofNat l) 1 j2,.cut none (some (iV j2)) l 0 l',.off e 0 j m 6,.st Z8 o (Nat.succ (Nat.succ (Nat.succ (Nat.succ (Nat.succ e))))) [sL p l' 2] c1,.ldn Z9 b 0 3 Z5,.st Z9 c 0 Z5 Z5,.ldn Z10 c 0 3 Z5]):=by intros;kernel_rfl
theorem ta_full(a1 a2 a3:OA)(n1 n2 n3 z1 z2 z3:Nat)(b c:Nat)(n:Int)(g:Hp) :
  let Z1:V:=.agg #[.slice a1 n1 z1,.slice a2 n2 z2,.slice a3 n3 z3]
  let Z2:LV:=[.slice a1 n1 z1,.slice a2 n2 z2,.slice a3 n3 z3]
  let Z3:AObj:=cS Z2
  let Z4:SH:=.push g Z3
  let Z5:SH:=.push Z4 (cS [nS,nS,nS])
  let Z6:SH:=.set Z5 c Z3
  PF Try.f77 [Z1,iV n] g [.idx b,.idx c,.val (.slice a1 n1 z1),.bit true,.cells Z2,.cells Z2,.cells Z2] =
  some (.tuple #[Z1,iV 0,iV 5],Z6,[],[.len g b,.len Z4 c,.ld1 Z5 b 0 (.slice a1 n1 z1),.cmp .geq (Int.ofNat n1) 64 true,.ldn Z5 b 0 3 Z2,.st Z5 c 0 Z2 Z2,.ldn Z6 c 0 3 Z2]):=by intros;kernel_rfl
theorem ta_root(a1 a2 a3:OA)(n1 n2 n3 z1 z2 z3:Nat)(a2x:OA)(n2x z2x:Nat)(b c o m ol ml os ns z w y1 y2 y3 e p l w3:Nat)(n j:Int)(cs news cs2 news2 cs3 news3 c1:LV)(g g1:Hp) :
  let Z1:V:=.agg #[.slice a1 n1 z1,.slice a2 n2 z2,.slice a3 n3 z3]
  let Z2:LV:=[.slice a1 n1 z1,.slice a2 n2 z2,.slice a3 n3 z3]
  let Z3:=sL o m 6
  let Z4:=sL ol ml 2
  let Z5:V:=.agg #[Z3,.slice a2x n2x z2x,Z4]
  let Z6:LV:=[Z3,.slice a2x n2x z2x,Z4]
  let Z7:=sL y1 (m+1) 6
  let Z8:=sL y1 (Nat.succ m) 6
  let Z9:=sL y2 (Nat.succ ml) 2
  let Z10:SH:=.set g1 b (cS Z6)
  let Z11:SH:=.push Z10 (cS [iV n,bF,bF,iV 0,.string eS,nS])
  let Z12:SH:=.push (.set Z11 o .dead) (cS cs)
  let Z13:LV:=[Z8,.slice a2x n2x z2x,Z4]
  let Z14:SH:=.set Z12 b (cS Z13)
  let Z15:SH:=.push Z14 (cS [iV 0,.string eS])
  let Z16:SH:=.push (.set Z15 ol .dead) (cS cs2)
  let Z17:LV:=[Z8,.slice a2x n2x z2x,Z9]
  let Z18:AObj:=cS Z17
  let Z19:SH:=.set Z16 b Z18
  let Z20:SH:=.set Z19 c Z18
  let Z21:SH:=.push g (cS Z2)
  let Z22:SH:=.push Z21 (cS [nS,nS,nS])
  let Z23:=pT b 0
  PF Try.f77 [Z1,iV n] g [.idx b,.idx c,.val (.slice a1 n1 z1),.bit false,.cells Z2,.ret Z5 g1,.cells Z6,.val Z3,.idx z,.app cs news 0 y1,.cells [Z7,.slice a2x n2x z2x,Z4],.val Z4,.idx w,.app cs2 news2 0 y2,.cells [Z7,.slice a2x n2x z2x,sL y2 (ml+1) 2],.bit false,.cells [Z7,.slice a2x n2x z2x,sL y2 (ml+1) 2],.val Z7,.cells [Z7,.slice a2x n2x z2x,sL y2 (ml+1) 2],.cells [Z7,.slice a2x n2x z2x,sL y2 (ml+1) 2]] =
  some (.tuple { toList:=[.agg #[Z8,.slice a2x n2x z2x,Z9],iN (Nat.succ m),iV 0] },Z20,[],[.len g b,.len Z21 c,.ld1 Z22 b 0 (.slice a1 n1 z1),.cmp .geq (Int.ofNat n1) 64 false,.ldn Z22 b 0 3 Z2,.call 79 [Z1] Z22 Z5 g1,.st g1 b 0 Z6 Z6,.ld1 Z10 b 0 Z3,.len Z10 z,.app Z11 o 0 m z 0 1 0 6 64 cs news y1,.st Z12 b 0 [Z8] Z13,.ld1 Z14 b 2 Z4,.len Z14 w,.app Z15 ol 0 ml w 0 1 0 2 24 cs2 news2 y2,.st Z16 b 2 [Z9] Z17,.cmp .gtr n 0 false,.stat (drawN Try.f77 1),.again Z19 76 Z23 Z8,.again Z19 76 Z23 Z8,.again Z20 76 Z23 Z8,.ldn Z19 b 0 3 Z17,.ld1 Z19 b 0 Z8,.st Z19 c 0 Z17 Z17,.ldn Z20 c 0 3 Z17]):=by intros;kernel_rfl
theorem ta_n(a1 a2 a3:OA)(n1 n2 n3 z1 z2 z3:Nat)(a2x:OA)(n2x z2x:Nat)(b c o m ol ml os ns z w y1 y2 y3 e p l w3:Nat)(n j:Int)(cs news cs2 news2 cs3 news3 c1:LV)(g g1:Hp) :
  let Z1:V:=.agg #[.slice a1 n1 z1,.slice a2 n2 z2,.slice a3 n3 z3]
  let Z2:LV:=[.slice a1 n1 z1,.slice a2 n2 z2,.slice a3 n3 z3]
  let Z3:=sL o m 6
  let Z4:=sL os ns 6
  let Z5:=sL ol ml 2
  let Z6:V:=.agg #[Z3,Z4,Z5]
  let Z7:LV:=[Z3,Z4,Z5]
  let Z8:=sL y1 (m+1) 6
  let Z9:=sL y1 (Nat.succ m) 6
  let Z10:=sL y2 (Nat.succ ml) 2
  let Z11:SH:=.set g1 b (cS Z7)
  let Z12:SH:=.push Z11 (cS [iV n,bF,bF,iV 0,.string eS,nS])
  let Z13:SH:=.push (.set Z12 o .dead) (cS cs)
  let Z14:LV:=[Z9,Z4,Z5]
  let Z15:SH:=.set Z13 b (cS Z14)
  let Z16:SH:=.push Z15 (cS [iV 0,.string eS])
  let Z17:SH:=.push (.set Z16 ol .dead) (cS cs2)
  let Z18:LV:=[Z9,Z4,Z10]
  let Z19:AObj:=cS Z18
  let Z20:SH:=.set Z17 b Z19
  let Z21:SH:=.push Z20 (cS [iN (Nat.succ m)])
  let Z22:SH:=.push Z21 (cS news3)
  let Z23:SH:=.set Z22 os (cS c1)
  let Z24:SH:=.set Z23 c Z19
  let Z25:SH:=.push g (cS Z2)
  let Z26:SH:=.push Z25 (cS [nS,nS,nS])
  let Z27:=pT b 1
  let Z28:=pT b 0
  PF Try.f77 [Z1,iV n] g [.idx b,.idx c,.val (.slice a1 n1 z1),.bit false,.cells Z2,.ret Z6 g1,.cells Z7,.val Z3,.idx z,.app cs news 0 y1,.cells [Z8,Z4,Z5],.val Z5,.idx w,.app cs2 news2 0 y2,.cells [Z8,Z4,sL y2 (ml+1) 2],.bit true,.val Z4,.num j,.val Z4,.num j,.offs e,.val (nS),.val Z8,.idx w3,.app cs3 news3 0 y3,.offs e,.cells c1,.cells [Z8,Z4,sL y2 (ml+1) 2],.val Z8,.cells [Z8,Z4,sL y2 (ml+1) 2],.cells [Z8,Z4,sL y2 (ml+1) 2]] =
  some (.tuple { toList:=[.agg #[Z9,Z4,Z10],iN (Nat.succ m),iV 0] },Z24,[],[.len g b,.len Z25 c,.ld1 Z26 b 0 (.slice a1 n1 z1),.cmp .geq (Int.ofNat n1) 64 false,.ldn Z26 b 0 3 Z2,.call 79 [Z1] Z26 Z6 g1,.st g1 b 0 Z7 Z7,.ld1 Z11 b 0 Z3,.len Z11 z,.app Z12 o 0 m z 0 1 0 6 64 cs news y1,.st Z13 b 0 [Z9] Z14,.ld1 Z15 b 2 Z5,.len Z15 w,.app Z16 ol 0 ml w 0 1 0 2 24 cs2 news2 y2,.st Z17 b 2 [Z10] Z18,.cmp .gtr n 0 true,.stat (drawN Try.f77 0),.again Z20 77 Z27 Z4,.again Z21 77 Z27 Z4,.again Z22 77 Z27 Z4,.arith .sub .i64 n 1 j,.refl (iV j),.ld1 Z20 b 1 Z4,.arith .sub .i64 n 1 j,.ld1 Z20 b 1 Z4,.arith .sub .i64 n 1 j,.off e 0 j ns 6,.ld1 Z20 os (Nat.succ (Nat.succ (Nat.succ e))) (nS),.ld1 Z20 b 0 Z9,.len Z20 w3,.appNil Z21 w3 0 1 0 1 8 news3 y3,.off e 0 j ns 6,.st Z22 os (Nat.succ (Nat.succ (Nat.succ e))) [sL y3 1 1] c1,.stat (drawN Try.f77 1),.again Z23 76 Z28 Z9,.again Z23 76 Z28 Z9,.again Z24 76 Z28 Z9,.ldn Z23 b 0 3 Z18,.ld1 Z23 b 0 Z9,.st Z23 c 0 Z18 Z18,.ldn Z24 c 0 3 Z18]):=by intros;kernel_rfl
theorem ta_s(a1 a2 a3:OA)(n1 n2 n3 z1 z2 z3:Nat)(a2x:OA)(n2x z2x:Nat)(b c o m ol ml os ns z w y1 y2 y3 e p l w3:Nat)(n j:Int)(cs news cs2 news2 cs3 news3 c1:LV)(g g1:Hp) :
  let Z1:V:=.agg #[.slice a1 n1 z1,.slice a2 n2 z2,.slice a3 n3 z3]
  let Z2:LV:=[.slice a1 n1 z1,.slice a2 n2 z2,.slice a3 n3 z3]
  let Z3:=sL o m 6
  let Z4:=sL os ns 6
  let Z5:=sL ol ml 2
  let Z6:V:=.agg #[Z3,Z4,Z5]
  let Z7:LV:=[Z3,Z4,Z5]
  let Z8:=sL y1 (m+1) 6
  let Z9:=sL p l 1
  let Z10:=sL y1 (Nat.succ m) 6
  let Z11:=sL y2 (Nat.succ ml) 2
  let Z12:SH:=.set g1 b (cS Z7)
  let Z13:SH:=.push Z12 (cS [iV n,bF,bF,iV 0,.string eS,nS])
  let Z14:SH:=.push (.set Z13 o .dead) (cS cs)
  let Z15:LV:=[Z10,Z4,Z5]
  let Z16:SH:=.set Z14 b (cS Z15)
  let Z17:SH:=.push Z16 (cS [iV 0,.string eS])
  let Z18:SH:=.push (.set Z17 ol .dead) (cS cs2)
  let Z19:LV:=[Z10,Z4,Z11]
  let Z20:AObj:=cS Z19
  let Z21:SH:=.set Z18 b Z20
  let Z22:SH:=.push Z21 (cS [iN (Nat.succ m)])
  let Z23:SH:=.push (.set Z22 p .dead) (cS cs3)
  let Z24:SH:=.set Z23 os (cS c1)
  let Z25:SH:=.set Z24 c Z20
  let Z26:SH:=.push g (cS Z2)
  let Z27:SH:=.push Z26 (cS [nS,nS,nS])
  let Z28:=pT b 1
  let Z29:=pT b 0
  PF Try.f77 [Z1,iV n] g [.idx b,.idx c,.val (.slice a1 n1 z1),.bit false,.cells Z2,.ret Z6 g1,.cells Z7,.val Z3,.idx z,.app cs news 0 y1,.cells [Z8,Z4,Z5],.val Z5,.idx w,.app cs2 news2 0 y2,.cells [Z8,Z4,sL y2 (ml+1) 2],.bit true,.val Z4,.num j,.val Z4,.num j,.offs e,.val Z9,.val Z8,.idx w3,.app cs3 news3 0 y3,.offs e,.cells c1,.cells [Z8,Z4,sL y2 (ml+1) 2],.val Z8,.cells [Z8,Z4,sL y2 (ml+1) 2],.cells [Z8,Z4,sL y2 (ml+1) 2]] =
  some (.tuple { toList:=[.agg #[Z10,Z4,Z11],iN (Nat.succ m),iV 0] },Z25,[],[.len g b,.len Z26 c,.ld1 Z27 b 0 (.slice a1 n1 z1),.cmp .geq (Int.ofNat n1) 64 false,.ldn Z27 b 0 3 Z2,.call 79 [Z1] Z27 Z6 g1,.st g1 b 0 Z7 Z7,.ld1 Z12 b 0 Z3,.len Z12 z,.app Z13 o 0 m z 0 1 0 6 64 cs news y1,.st Z14 b 0 [Z10] Z15,.ld1 Z16 b 2 Z5,.len Z16 w,.app Z17 ol 0 ml w 0 1 0 2 24 cs2 news2 y2,.st Z18 b 2 [Z11] Z19,.cmp .gtr n 0 true,.stat (drawN Try.f77 0),.again Z21 77 Z28 Z4,.again Z22 77 Z28 Z4,.again Z23 77 Z28 Z4,.arith .sub .i64 n 1 j,.refl (iV j),.ld1 Z21 b 1 Z4,.arith .sub .i64 n 1 j,.ld1 Z21 b 1 Z4,.arith .sub .i64 n 1 j,.off e 0 j ns 6,.ld1 Z21 os (Nat.succ (Nat.succ (Nat.succ e))) Z9,.ld1 Z21 b 0 Z10,.len Z21 w3,.app Z22 p 0 l w3 0 1 0 1 8 cs3 news3 y3,.off e 0 j ns 6,.st Z23 os (Nat.succ (Nat.succ (Nat.succ e))) [sL y3 (Nat.succ l) 1] c1,.stat (drawN Try.f77 1),.again Z24 76 Z29 Z10,.again Z24 76 Z29 Z10,.again Z25 76 Z29 Z10,.ldn Z24 b 0 3 Z19,.ld1 Z24 b 0 Z10,.st Z24 c 0 Z19 Z19,.ldn Z25 c 0 3 Z19]):=by intros;kernel_rfl
end Go.Proofs.Ytahomnlkkafbjaa.q2p
namespace Go.Proofs.Ytahomnlkkafbjaa.rf
open Go Go.Ev Go.Proofs.Ytahomnlkkafbjaa.tr
def putO(σ:RLay)(r:RR)(q:Option Nat):RLay:=fun r'=>if r'=r then q else σ r'
theorem putO_1{σ:RLay}{r:RR}{q:Option Nat}:putO σ r q r=q:=by simp[putO]
theorem pO{σ:RLay}{r r':RR}{q:Option Nat}(h:r'≠r):putO σ r q r'=σ r':=by simp[putO,h]
section
variable {h h' g:Hp} {σ σ':RLay} {tks tks':List Tk} {scs scs':List Sc} {lfs lfs':List Tk} {k:Nat}
theorem RAtL.upd{fp:Nat->Prop}(a:RAtL h σ tks scs lfs)(D:RR->Prop)(K:Keep fp h h')(hfp:∀ r q,σ r=some q->fp q->D r)(sh:RShL σ' tks' scs' lfs')
  (same:∀ r,¬ D r->σ' r=σ r/\(σ r≠none->∃ j1,∀ junk,rcontL σ tks scs lfs r++junk=rcontL σ' tks' scs' lfs' r++(j1++junk)))
  (new:∀ r i,D r->σ' r=some i->(∃ junk,h'[i]?=some (.cells (rcontL σ' tks' scs' lfs' r++junk) true))/\∀ r',σ' r'=some i->r'=r):RAtL h' σ' tks' scs' lfs':=by
 refine⟨sh,fun r r' i e e'=>?_,fun r i e=>?_⟩
 ·by_cases d:D r
  ·exact ((new r i d e).2 r' e').symm
  ·by_cases d':D r'
   ·exact (new r' i d' e').2 r e
   ·rw[(same r d).1] at e
    rw[(same r' d').1] at e'
    exact a.inj r r' i e e'
 ·by_cases d:D r
  ·exact (new r i d e).1
  ·obtain⟨s1,s2⟩:=same r d
   rw[s1] at e
   obtain⟨junk,hj⟩:=a.obj r i e
   obtain⟨j1,hj1⟩:=s2 (by rw[e];simp)
   exact⟨j1++junk,by rw[<- hj1];exact K.2 _ _ hj fun f=>d (hfp r i e f)⟩
theorem RAtL.set1(a:RAtL h σ tks scs lfs){r:RR}{i:Nat}{c:List Value}(hr:σ r=some i)(sh:RShL σ tks' scs' lfs')(hc:∃ junk,c=rcontL σ tks' scs' lfs' r++junk)
  (same:∀ r',r'≠r->∃ j1,∀ junk,rcontL σ tks scs lfs r'++junk=rcontL σ tks' scs' lfs' r'++(j1++junk)):RAtL (h.set i (.cells c true)) σ tks' scs' lfs':=by
 obtain⟨_,hj⟩:=a.obj r i hr
 refine a.upd (fun r'=>r'=r) (Keep.set (fp:=fun q=>q=i) rfl _) (fun r' q e f=>by subst f;exact a.inj r' r q e hr) sh (fun r' d=>⟨rfl,fun _=>same r' d⟩) (fun r' j d e=>?_)
 subst d
 rw[hr] at e
 cases e
 obtain⟨junk,rfl⟩:=hc
 exact⟨⟨junk,gE hj⟩,fun r' e'=>a.inj r' _ _ e' hr⟩
theorem set_get{α:Type}{l:List α}{k j:Nat}{x y:α}(h:(l.set k x)[j]?=some y):(j=k/\y=x)\/(j≠k/\l[j]?=some y):=by
 rw[List.getElem?_set] at h
 split at h
 ·rename_i e;subst e
  split at h
  ·cases h;exact .inl ⟨rfl,rfl⟩
  ·cases h
 ·rename_i e;exact .inr ⟨fun e'=>e e'.symm,h⟩
theorem rcont_same_op{x x':Tk}(hx:tks[k]?=some x)(hp:∃ y,x.opn=x'.opn++y)(j:Nat):∃ j1,∀ junk,rcontL σ tks scs lfs (.op j)++junk=rcontL σ' (tks.set k x') scs' lfs' (.op j)++(j1++junk):=by
 obtain⟨y,hy⟩:=hp
 by_cases e:j=k
 ·subst e
  have h1:rcontL σ tks scs lfs (.op j)=lkL x.opn:=by simp only[rcontL,hx]
  have h2:rcontL σ' (tks.set j x') scs' lfs' (.op j)=lkL x'.opn:=by simp only[rcontL];rw[List.getElem?_set_self (gTq hx)]
  rw[h1,h2,hy,lkL_app]
  exact⟨lkL y,fun junk=>by simp⟩
 ·refine⟨[],fun junk=>?_⟩
  simp only[rcontL]
  rw[List.getElem?_set_ne (Ne.symm e)]
  rfl
theorem RAtL.wT(a:RAtL h σ tks scs lfs){o d:Nat}{x x':Tk}{l:List Value}(ho:σ .ts=some o)(hx:tks[k]?=some x)(hd:d+l.length<=6)
  (he:rk σ k x'=(rk σ k x).take d++l++(rk σ k x).drop (d+l.length)) (hp:∃ y,x.opn=x'.opn++y) :
  ∃ c,(∀ (P:Program) (s:SH),s.den=h->(Asm.st s o (k*6+d) l c).holds P)/\RAtL (h.set o (.cells c true)) σ (tks.set k x') scs lfs:=by
 obtain⟨junk,hj⟩:=a.obj _ _ ho
 have hput:=fl_put (f:=rk σ) (f':=rk σ) (i:=0) (rk_len σ) hx hd (by simpa using he) (fun _ _ _ _=>rfl) junk
 refine⟨fl (rk σ) 0 (tks.set k x')++junk,fun P s e=>?_,?_⟩
 ·rw[<- e] at hj
  have:=fl_room (f:=rk σ) (i:=0) (rk_len σ) hx junk
  exact a_st hj (by simp only[rcontL];omega) hput
 ·refine a.set1 ho ⟨fun e=>(by rw[e] at ho;cases ho),a.sh.ss,a.sh.lf,fun j z hz e=>?_,a.sh.st,by rw[List.length_set];exact a.sh.otk,a.sh.osc⟩ ⟨junk,rfl⟩ fun r hr=>?_
  ·rcases set_get hz with⟨rfl,rfl⟩ | ⟨_,hz⟩
   ·have:=a.sh.op _ x hx e
    obtain⟨y,hy⟩:=hp
    rw[this] at hy
    exact (List.append_eq_nil_iff.1 hy.symm).1
   ·exact a.sh.op j z hz e
  ·cases r with
   | ts=>exact absurd rfl hr
   | ss=>exact⟨[],fun _=>rfl⟩
   | lf=>exact⟨[],fun _=>rfl⟩
   | st j=>exact⟨[],fun _=>rfl⟩
   | op j=>exact rcont_same_op hx hp j
theorem RAtL.wS(a:RAtL h σ tks scs lfs){o d:Nat}{y y':Sc}{l:List Value}(ho:σ .ss=some o)(hy:scs[k]?=some y)(hd:d+l.length<=6)
  (he:rs σ k y'=(rs σ k y).take d++l++(rs σ k y).drop (d+l.length)) (hp:y'.tks=y.tks) :
  ∃ c,(∀ (P:Program) (s:SH),s.den=h->(Asm.st s o (k*6+d) l c).holds P)/\RAtL (h.set o (.cells c true)) σ tks (scs.set k y') lfs:=by
 obtain⟨junk,hj⟩:=a.obj _ _ ho
 have hput:=fl_put (f:=rs σ) (f':=rs σ) (i:=0) (rs_len σ) hy hd (by simpa using he) (fun _ _ _ _=>rfl) junk
 refine⟨fl (rs σ) 0 (scs.set k y')++junk,fun P s e=>?_,?_⟩
 ·rw[<- e] at hj
  have:=fl_room (f:=rs σ) (i:=0) (rs_len σ) hy junk
  exact a_st hj (by simp only[rcontL];omega) hput
 ·refine a.set1 ho ⟨a.sh.ts,fun e=>(by rw[e] at ho;cases ho),a.sh.lf,a.sh.op,fun j z hz e=>?_,a.sh.otk,by rw[List.length_set];exact a.sh.osc⟩ ⟨junk,rfl⟩ fun r hr=>?_
  ·rcases set_get hz with⟨rfl,rfl⟩ | ⟨_,hz⟩
   ·rw[hp];exact a.sh.st _ y hy e
   ·exact a.sh.st j z hz e
  ·cases r with
   | ss=>exact absurd rfl hr
   | ts=>exact⟨[],fun _=>rfl⟩
   | lf=>exact⟨[],fun _=>rfl⟩
   | op j=>exact⟨[],fun _=>rfl⟩
   | st j =>
    refine⟨[],fun junk=>?_⟩
    by_cases e:j=k
    ·subst e
     simp only[rcontL]
     rw[List.getElem?_set_self (gTq hy),hy]
     simp only[hp]
     rfl
    ·simp only[rcontL]
     rw[List.getElem?_set_ne (Ne.symm e)]
     rfl
theorem RAtL.wL(a:RAtL h σ tks scs lfs){o d:Nat}{x x':Tk}{l:List Value}(ho:σ .lf=some o)(hx:lfs[k]?=some x)(hd:d+l.length<=2)
  (he:rl k x'=(rl k x).take d++l++(rl k x).drop (d+l.length)) :
  ∃ c,(∀ (P:Program) (s:SH),s.den=h->(Asm.st s o (k*2+d) l c).holds P)/\RAtL (h.set o (.cells c true)) σ tks scs (lfs.set k x'):=by
 obtain⟨junk,hj⟩:=a.obj _ _ ho
 have hput:=fl_put (f:=rl) (f':=rl) (i:=0) rl_len hx hd (by simpa using he) (fun _ _ _ _=>rfl) junk
 refine⟨fl (rl) 0 (lfs.set k x')++junk,fun P s e=>?_,?_⟩
 ·rw[<- e] at hj
  have:=fl_room (f:=rl) (i:=0) rl_len hx junk
  exact a_st hj (by simp only[rcontL];omega) hput
 ·refine a.set1 ho ⟨a.sh.ts,a.sh.ss,fun e=>(by rw[e] at ho;cases ho),a.sh.op,a.sh.st,a.sh.otk,a.sh.osc⟩ ⟨junk,rfl⟩ fun r hr=>?_
  cases r with
  | lf=>exact absurd rfl hr
  | _=>exact⟨[],fun _=>rfl⟩
theorem RAtL.sayL(a:RAtL h σ tks scs lfs)(hl:lfs'.length=lfs.length)(he:∀ (j:Nat) x x',lfs[j]?=some x->lfs'[j]?=some x'->rl j x'=rl j x):RAtL h σ tks scs lfs':=by
 have e:fl rl 0 lfs'=fl rl 0 lfs:=by
  have:∀ (l l':List Tk) (i:Nat),l'.length=l.length->(∀ (j:Nat) x x',l[j]?=some x->l'[j]?=some x'->rl j x'=rl j x)->fl rl i l'=fl rl i l:=by
   intro l
   induction l with
   | nil=>intro l' i hl _;have:=List.length_eq_zero_iff.1 hl;subst this;rfl
   | cons x l ih =>
    intro l' i hl he
    cases l' with
    | nil=>simp at hl
    | cons x' l' =>
     have h0:=he 0 x x' rfl rfl
     rw[fl,fl,ih l' (i+1) (by simpa using hl) fun j y y' hy hy'=>he (j+1) y y' (by simpa using hy) (by simpa using hy')]
     have:rl i x'=rl i x:=h0
     rw[this]
  exact this lfs lfs' 0 hl he
 refine⟨⟨a.sh.ts,a.sh.ss,fun e2=>by have:=a.sh.lf e2;rw[this] at hl;exact List.length_eq_zero_iff.1 hl,a.sh.op,a.sh.st,a.sh.otk,a.sh.osc⟩,a.inj,fun r i hr=>?_⟩
 obtain⟨junk,hj⟩:=a.obj r i hr
 cases r with
 | lf=>exact⟨junk,by simp only[rcontL] at hj ⊢;rw[e];exact hj⟩
 | _=>exact⟨junk,hj⟩
theorem gApp_keep{g:Hp}{o:Option Nat}{cs:List Value}:Keep (fun q=>o=some q) g (gApp g o cs) :=
 ⟨by rw[gApp_len];omega,fun q x hq hn=>gApp_get hq hn⟩
theorem RAtL.app(a:RAtL h σ tks scs lfs){r:RR}{rn:RR}{q:Option Nat}{cs:List Value}{z:Nat}(hz:h.length=z)(hne:rn≠r)
  (hq:∀ p,q=some p->¬ fpR σ p/\h[p]?=some (.cells (rcontL (putO (putO σ rn q) r (some z)) tks' scs' lfs' rn) true))
  (hc:cs=rcontL (putO (putO σ rn q) r (some z)) tks' scs' lfs' r) (sh:RShL (putO (putO σ rn q) r (some z)) tks' scs' lfs')
  (same:∀ r',r'≠r->r'≠rn->σ r'≠none->rcontL (putO (putO σ rn q) r (some z)) tks' scs' lfs' r'=rcontL σ tks scs lfs r') :
  RAtL (gApp h (σ r) cs) (putO (putO σ rn q) r (some z)) tks' scs' lfs':=by
 have hot:∀ r',r'≠r->r'≠rn->putO (putO σ rn q) r (some z) r'=σ r':=fun r' n1 n2=>by rw[pO n1,pO n2]
 refine a.upd (fp:=fun p=>σ r=some p) (fun r'=>r'=r\/r'=rn) gApp_keep (fun r' p e f=>.inl (a.inj _ _ _ e f)) sh (fun r' n=>?_) fun r' i d e=>?_
 ·simp only[not_or] at n
  exact⟨hot r' n.1 n.2,fun e=>⟨[],fun junk=>by rw[same r' n.1 n.2 e];rfl⟩⟩
 ·have old:∀ r'',r''≠r->r''≠rn->putO (putO σ rn q) r (some z) r''=some i->fpR σ i:=fun r'' n1 n2 e'=>by
   rw[hot r'' n1 n2] at e'
   exact⟨r'',e'⟩
  have lt:fpR σ i->i<z:=fun⟨_,e'⟩=>by rw[<- hz];exact a.lt e'
  have hrn:putO (putO σ rn q) r (some z) rn=q:=by rw[pO hne,putO_1]
  have hr:putO (putO σ rn q) r (some z) r=some z:=putO_1
  rcases d with rfl | rfl
  ·rw[hr] at e;cases e
   refine⟨⟨[],by rw[List.append_nil,hc,<- hz];exact gApp_new⟩,fun r'' e'=>?_⟩
   by_cases n1:r''=r'
   ·exact n1
   ·by_cases n2:r''=rn
    ·subst n2;rw[hrn] at e'
     have:=get_lt (hq _ e').2
     omega
    ·have:=lt (old r'' n1 n2 e');omega
  ·rw[hrn] at e
   obtain⟨q1,q3⟩:=hq i e
   refine⟨⟨[],by
    rw[List.append_nil]
    exact gApp_get q3 fun e'=>q1 ⟨r,e'⟩⟩,fun r'' e'=>?_⟩
   by_cases n2:r''=r'
   ·exact n2
   ·by_cases n1:r''=r
    ·subst n1;rw[hr] at e';cases e'
     have:=get_lt q3
     omega
    ·exact absurd (old r'' n1 n2 e') q1
def New(n:Nat)(σ:RLay):Prop:=∀ r i,σ r=some i->n<=i
theorem New.put{n:Nat}{r:RR}{q:Option Nat}(N:New n σ)(hq:∀ p,q=some p->n<=p):New n (putO σ r q):=fun r' i e=>by
 by_cases n1:r'=r
 ·subst n1;rw[putO_1] at e;exact hq i e
 ·rw[pO n1] at e;exact N r' i e
theorem New.mono{n m:Nat}(N:New n σ)(h:m<=n):New m σ:=fun r i e=>Nat.le_trans h (N r i e)
theorem New.out{n q:Nat}(N:New n σ)(h:q<n):¬ fpR σ q:=fun⟨r,e⟩=>by have:=N r q e;omega
theorem snoc_get{α:Type}{l:List α}{x y:α}{j:Nat}(h:(l++[x])[j]?=some y):l[j]?=some y\/(j=l.length/\y=x):=by
 rw[List.getElem?_append] at h
 split at h
 ·exact .inl h
 ·have:=gTq h
  simp at this
  have e:j=l.length:=by omega
  subst e
  simp at h
  exact .inr ⟨rfl,h.symm⟩
theorem RAtL.rowT(a:RAtL h σ tks scs lfs){G:Hp}(K:Grow h G)(x:Tk)(q:Option Nat)(hq0:q=none->x.opn=[])(hq:∀ p,q=some p->h.length<=p/\G[p]?=some (.cells (lkL x.opn) true)) :
  RAtL (gApp G (σ .ts) (fl (rk σ) 0 tks++(tkV x).C (slz q x.opn.length 2))) (putO (putO σ (.op tks.length) q) .ts (some G.length)) (tks++[x]) scs lfs:=by
 have e1:∀ j,j<tks.length->putO (putO σ (.op tks.length) q) .ts (some G.length) (.op j)=σ (.op j):=fun j hj=>by rw[pO (by simp),pO (by simp;omega)]
 have e2:putO (putO σ (.op tks.length) q) .ts (some G.length) (.op tks.length)=q:=by rw[pO (by simp),putO_1]
 refine (a.grow K).app rfl (by simp) (fun p e=>?_) ?_ ⟨fun e=>(by rw[putO_1] at e;cases e),fun e=>a.sh.ss (by rwa [pO (by simp),pO (by simp)] at e),fun e=>a.sh.lf (by rwa [pO (by simp),pO (by simp)] at e),
  fun k y hy e=>?_,fun k y hy e=>a.sh.st k y hy (by rwa [pO (by simp),pO (by simp)] at e),fun k hk=>?_,fun k hk=>by rw[pO (by simp),pO (by simp)];exact a.sh.osc k hk⟩ fun r' n1 n2 e=>?_
 ·obtain⟨h1,h2⟩:=hq p e
  refine⟨fun⟨r,e'⟩=>by have:=a.lt e';omega,?_⟩
  rw[rcont_op (x:=x) (by simp)]
  exact h2
 ·simp only[rcontL]
  rw[fl_app,fl_congr (f':=rk (putO (putO σ (.op tks.length) q) .ts (some G.length))) (f:=rk σ) fun j y hy=>by
   simp only[rk,Nat.zero_add];rw[e1 j (gTq hy)]]
  simp only[fl,List.append_nil,Nat.zero_add,rk]
  rw[e2]
 ·rcases snoc_get hy with hy | ⟨rfl,rfl⟩
  ·rw[e1 k (gTq hy)] at e;exact a.sh.op k y hy e
  ·rw[e2] at e;exact hq0 e
 ·rw[List.length_append,List.length_singleton] at hk
  rw[pO (by simp),pO (by simp;omega)]
  exact a.sh.otk k (by omega)
 ·cases r' with
  | ts=>exact absurd rfl n1
  | ss =>
   simp only[rcontL]
   exact fl_congr fun j y hy=>by simp only[rs];rw[pO (by simp),pO (by simp)]
  | lf=>rfl
  | st j=>rfl
  | op j =>
   have:j<tks.length:=by
    rcases Nat.lt_or_ge j tks.length with h | h
    ·exact h
    ·exact absurd (a.sh.otk j h) e
   simp only[rcontL]
   rw[List.getElem?_append_left this]
theorem RAtL.rowS(a:RAtL h σ tks scs lfs){G:Hp}(K:Grow h G)(y:Sc)(q:Option Nat)(hq0:q=none->y.tks=[])(hq:∀ p,q=some p->h.length<=p/\G[p]?=some (.cells (nmL y.tks) true)) :
  RAtL (gApp G (σ .ss) (fl (rs σ) 0 scs++(scV y).C (slz q y.tks.length 1))) (putO (putO σ (.st scs.length) q) .ss (some G.length)) tks (scs++[y]) lfs:=by
 have e1:∀ j,j<scs.length->putO (putO σ (.st scs.length) q) .ss (some G.length) (.st j)=σ (.st j):=fun j hj=>by rw[pO (by simp),pO (by simp;omega)]
 have e2:putO (putO σ (.st scs.length) q) .ss (some G.length) (.st scs.length)=q:=by rw[pO (by simp),putO_1]
 refine (a.grow K).app rfl (by simp) (fun p e=>?_) ?_ ⟨fun e=>a.sh.ts (by rwa [pO (by simp),pO (by simp)] at e),fun e=>(by rw[putO_1] at e;cases e),fun e=>a.sh.lf (by rwa [pO (by simp),pO (by simp)] at e),
  fun k x hx e=>a.sh.op k x hx (by rwa [pO (by simp),pO (by simp)] at e),fun k z hz e=>?_,fun k hk=>by rw[pO (by simp),pO (by simp)];exact a.sh.otk k hk,fun k hk=>?_⟩ fun r' n1 n2 e=>?_
 ·obtain⟨h1,h2⟩:=hq p e
  refine⟨fun⟨r,e'⟩=>by have:=a.lt e';omega,?_⟩
  rw[rcont_st (y:=y) (by simp)]
  exact h2
 ·simp only[rcontL]
  rw[fl_app,fl_congr (f':=rs (putO (putO σ (.st scs.length) q) .ss (some G.length))) (f:=rs σ) fun j z hz=>by
   simp only[rs,Nat.zero_add];rw[e1 j (gTq hz)]]
  simp only[fl,List.append_nil,Nat.zero_add,rs]
  rw[e2]
 ·rcases snoc_get hz with hz | ⟨rfl,rfl⟩
  ·rw[e1 k (gTq hz)] at e;exact a.sh.st k z hz e
  ·rw[e2] at e;exact hq0 e
 ·rw[List.length_append,List.length_singleton] at hk
  rw[pO (by simp),pO (by simp;omega)]
  exact a.sh.osc k (by omega)
 ·cases r' with
  | ss=>exact absurd rfl n1
  | ts =>
   simp only[rcontL]
   exact fl_congr fun j z hz=>by simp only[rk];rw[pO (by simp),pO (by simp)]
  | lf=>rfl
  | op j=>rfl
  | st j =>
   have:j<scs.length:=by
    rcases Nat.lt_or_ge j scs.length with h | h
    ·exact h
    ·exact absurd (a.sh.osc j h) e
   simp only[rcontL]
   rw[List.getElem?_append_left this]
theorem RAtL.rowL(a:RAtL h σ tks scs lfs){G:Hp}(K:Grow h G){cs:List Value}(hc:cs=fl rl 0 lfs'):RAtL (gApp G (σ .lf) cs) (putO σ .lf (some G.length)) tks scs lfs':=by
 have a':=a.grow K
 refine a'.upd (fp:=fun p=>σ .lf=some p) (fun r'=>r'=.lf) gApp_keep (fun r' p e f=>a.inj _ _ _ e f) ⟨fun e=>a.sh.ts (by rwa [pO (by simp)] at e),fun e=>a.sh.ss (by rwa [pO (by simp)] at e),fun e=>(by rw[putO_1] at e;cases e),
  fun k x hx e=>a.sh.op k x hx (by rwa [pO (by simp)] at e),fun k y hy e=>a.sh.st k y hy (by rwa [pO (by simp)] at e),fun k hk=>by rw[pO (by simp)];exact a.sh.otk k hk,fun k hk=>by rw[pO (by simp)];exact a.sh.osc k hk⟩ (fun r' n=>⟨pO n,fun _=>⟨[],fun junk=>?_⟩⟩) fun r' i d e=>?_
 ·cases r' with
  | lf=>exact absurd rfl n
  | ts =>
   simp only[rcontL]
   rw[fl_congr (f':=rk (putO σ .lf (some G.length))) (f:=rk σ) fun j y hy=>by simp only[rk];rw[pO (by simp)]]
   rfl
  | ss =>
   simp only[rcontL]
   rw[fl_congr (f':=rs (putO σ .lf (some G.length))) (f:=rs σ) fun j y hy=>by simp only[rs];rw[pO (by simp)]]
   rfl
  | op j=>rfl
  | st j=>rfl
 ·subst d
  rw[putO_1] at e;cases e
  refine⟨⟨[],by rw[List.append_nil,hc];exact gApp_new⟩,fun r'' e'=>?_⟩
  by_cases n1:r''=.lf
  ·exact n1
  ·rw[pO n1] at e'
   have:=a'.lt e';omega
theorem RAtL.growOp(a:RAtL h σ tks scs lfs){o:Nat}{x:Tk}(ho:σ .ts=some o)(hx:tks[k]?=some x)(v:Option Nat){cs:List Value}(hcs:cs=lkL (x.opn++[v])) :
  ∃ c,(∀ (P:Program) (s:SH),s.den=gApp h (σ (.op k)) cs->(Asm.st s o (k*6+5) [.slice (some ⟨h.length,0,none⟩) (x.opn.length+1) 2] c).holds P) /\
   RAtL ((gApp h (σ (.op k)) cs).set o (.cells c true)) (putO σ (.op k) (some h.length)) (tks.set k { x with opn:=x.opn++[v] }) scs lfs:=by
 obtain⟨junk,hj⟩:=a.obj _ _ ho
 have hol:=a.lt ho
 have hno:σ (.op k)≠some o:=fun e=>by cases a.inj _ _ _ ho e
 have hg:(gApp h (σ (.op k)) cs)[o]?=some (.cells (rcontL σ tks scs lfs .ts++junk) true):=gApp_get hj hno
 have hput:=fl_put (f:=rk σ) (f':=rk (putO σ (.op k) (some h.length))) (i:=0) (d:=5) (vs:=[.slice (some ⟨h.length,0,none⟩) (x.opn.length+1) 2]) (x':={ x with opn:=x.opn++[v] }) (rk_len σ) hx (by simp)
  (by simp[rk,putO_1,tkV,TkV.C,sA,sZ]) (fun j y hj hy=>by simp only[rk,Nat.zero_add];rw[pO (by simp;exact hj)]) junk
 refine⟨fl (rk (putO σ (.op k) (some h.length))) 0 (tks.set k { x with opn:=x.opn++[v] })++junk,fun P s e=>?_,?_⟩
 ·rw[<- e] at hg
  have:=fl_room (f:=rk σ) (i:=0) (rk_len σ) hx junk
  exact a_st hg (by simp only[rcontL,List.length_singleton];omega) hput
 ·have e1:∀ r,r≠.op k->putO σ (.op k) (some h.length) r=σ r:=fun r n=>pO n
  refine a.upd (fp:=fun q=>q=o\/σ (.op k)=some q) (fun r=>r=.ts\/r=.op k) (((gApp_keep (g:=h) (o:=σ (.op k)) (cs:=cs)).mono fun _ _ e=>.inr e).trans (Keep.set (.inl rfl) _)) (fun r q e f=>?_)
   ⟨fun e=>(by rw[e1 _ (by simp),ho] at e;cases e),fun e=>a.sh.ss (by rwa [e1 _ (by simp)] at e),fun e=>a.sh.lf (by rwa [e1 _ (by simp)] at e),fun j z hz e=>?_,
    fun j y hy e=>a.sh.st j y hy (by rwa [e1 _ (by simp)] at e),fun j hj=>?_,fun j hj=>by rw[e1 _ (by simp)];exact a.sh.osc j hj⟩ (fun r n=>?_) fun r i d e=>?_
  ·rcases f with f | f
   ·subst f;exact .inl (a.inj _ _ _ e ho)
   ·exact .inr (a.inj _ _ _ e f)
  ·rcases set_get hz with⟨rfl,rfl⟩ | ⟨n,hz⟩
   ·rw[putO_1] at e;cases e
   ·rw[e1 _ (by simp;exact n)] at e;exact a.sh.op j z hz e
  ·rw[List.length_set] at hj
   have:=gTq hx
   rw[e1 _ (by simp;omega)]
   exact a.sh.otk j hj
  ·simp only[not_or] at n
   refine⟨e1 r n.2,fun _=>⟨[],fun junk=>?_⟩⟩
   cases r with
   | ts=>exact absurd rfl n.1
   | ss =>
    simp only[rcontL]
    rw[fl_congr (f':=rs (putO σ (.op k) (some h.length))) (f:=rs σ) fun j y hy=>by simp only[rs];rw[pO (by simp)]]
    rfl
   | lf=>rfl
   | st j=>rfl
   | op j =>
    have:j≠k:=fun e=>n.2 (by rw[e])
    simp only[rcontL]
    rw[List.getElem?_set_ne (Ne.symm this)]
    rfl
  ·rcases d with rfl | rfl
   ·rw[e1 _ (by simp),ho] at e;cases e
    refine⟨⟨junk,gE hg⟩,fun r' e'=>?_⟩
    by_cases n:r'=.op k
    ·subst n;rw[putO_1] at e';cases e';omega
    ·rw[e1 _ n] at e';exact a.inj _ _ _ e' ho
   ·rw[putO_1] at e;cases e
    refine⟨⟨[],by
     rw[List.append_nil,rcont_op (x:={ x with opn:=x.opn++[v] }) (by rw[List.getElem?_set_self (gTq hx)]),<- hcs]
     exact gNq gApp_new (by omega)⟩,fun r' e'=>?_⟩
    by_cases n:r'=.op k
    ·exact n
    ·rw[e1 _ n] at e'
     have:=a.lt e';omega
theorem RAtL.growSt(a:RAtL h σ tks scs lfs){o:Nat}{y:Sc}(ho:σ .ss=some o)(hy:scs[k]?=some y)(v:Nat){cs:List Value}(hcs:cs=nmL (y.tks++[v]))(lv:Int) :
  ∃ c,(∀ (P:Program) (s:SH),s.den=gApp h (σ (.st k)) cs->(Asm.st s o (k*6+3) [.slice (some ⟨h.length,0,none⟩) (y.tks.length+1) 1] c).holds P) /\
   RAtL ((gApp h (σ (.st k)) cs).set o (.cells c true)) (putO σ (.st k) (some h.length)) tks (scs.set k { y with tks:=y.tks++[v],live:=lv }) lfs:=by
 obtain⟨junk,hj⟩:=a.obj _ _ ho
 have hol:=a.lt ho
 have hno:σ (.st k)≠some o:=fun e=>by cases a.inj _ _ _ ho e
 have hg:(gApp h (σ (.st k)) cs)[o]?=some (.cells (rcontL σ tks scs lfs .ss++junk) true):=gApp_get hj hno
 have hput:=fl_put (f:=rs σ) (f':=rs (putO σ (.st k) (some h.length))) (i:=0) (d:=3) (vs:=[.slice (some ⟨h.length,0,none⟩) (y.tks.length+1) 1]) (x':={ y with tks:=y.tks++[v],live:=lv }) (rs_len σ) hy (by simp)
  (by simp[rs,putO_1,scV,ScV.C,sA,sZ]) (fun j z hj hz=>by simp only[rs,Nat.zero_add];rw[pO (by simp;exact hj)]) junk
 refine⟨fl (rs (putO σ (.st k) (some h.length))) 0 (scs.set k { y with tks:=y.tks++[v],live:=lv })++junk,fun P s e=>?_,?_⟩
 ·rw[<- e] at hg
  have:=fl_room (f:=rs σ) (i:=0) (rs_len σ) hy junk
  exact a_st hg (by simp only[rcontL,List.length_singleton];omega) hput
 ·have e1:∀ r,r≠.st k->putO σ (.st k) (some h.length) r=σ r:=fun r n=>pO n
  refine a.upd (fp:=fun q=>q=o\/σ (.st k)=some q) (fun r=>r=.ss\/r=.st k) (((gApp_keep (g:=h) (o:=σ (.st k)) (cs:=cs)).mono fun _ _ e=>.inr e).trans (Keep.set (.inl rfl) _)) (fun r q e f=>?_)
   ⟨fun e=>a.sh.ts (by rwa [e1 _ (by simp)] at e),fun e=>(by rw[e1 _ (by simp),ho] at e;cases e),fun e=>a.sh.lf (by rwa [e1 _ (by simp)] at e),fun j x hx e=>a.sh.op j x hx (by rwa [e1 _ (by simp)] at e),
    fun j z hz e=>?_,fun j hj=>by rw[e1 _ (by simp)];exact a.sh.otk j hj,fun j hj=>?_⟩ (fun r n=>?_) fun r i d e=>?_
  ·rcases f with f | f
   ·subst f;exact .inl (a.inj _ _ _ e ho)
   ·exact .inr (a.inj _ _ _ e f)
  ·rcases set_get hz with⟨rfl,rfl⟩ | ⟨n,hz⟩
   ·rw[putO_1] at e;cases e
   ·rw[e1 _ (by simp;exact n)] at e;exact a.sh.st j z hz e
  ·rw[List.length_set] at hj
   have:=gTq hy
   rw[e1 _ (by simp;omega)]
   exact a.sh.osc j hj
  ·simp only[not_or] at n
   refine⟨e1 r n.2,fun _=>⟨[],fun junk=>?_⟩⟩
   cases r with
   | ss=>exact absurd rfl n.1
   | ts =>
    simp only[rcontL]
    rw[fl_congr (f':=rk (putO σ (.st k) (some h.length))) (f:=rk σ) fun j y hy=>by simp only[rk];rw[pO (by simp)]]
    rfl
   | lf=>rfl
   | op j=>rfl
   | st j =>
    have:j≠k:=fun e=>n.2 (by rw[e])
    simp only[rcontL]
    rw[List.getElem?_set_ne (Ne.symm this)]
    rfl
  ·rcases d with rfl | rfl
   ·rw[e1 _ (by simp),ho] at e;cases e
    refine⟨⟨junk,gE hg⟩,fun r' e'=>?_⟩
    by_cases n:r'=.st k
    ·subst n;rw[putO_1] at e';cases e';omega
    ·rw[e1 _ n] at e';exact a.inj _ _ _ e' ho
   ·rw[putO_1] at e;cases e
    refine⟨⟨[],by
     rw[List.append_nil,rcont_st (y:={ y with tks:=y.tks++[v],live:=lv }) (by rw[List.getElem?_set_self (gTq hy)]),<- hcs]
     exact gNq gApp_new (by omega)⟩,fun r' e'=>?_⟩
    by_cases n:r'=.st k
    ·exact n
    ·rw[e1 _ n] at e'
     have:=a.lt e';omega
end
end Go.Proofs.Ytahomnlkkafbjaa.rf
namespace Go.Proofs.Ytahomnlkkafbjaa.rf
open Go Go.Ev Go.Proofs.Ytahomnlkkafbjaa.tr
section
variable {h h' g G:Hp} {σ σ':RLay} {tks tks':List Tk} {scs scs':List Sc} {lfs lfs':List Tk} {t:TS} {c k:Nat}
theorem RAtL.tsR(a:RAtL h σ tks scs lfs){o:Nat}(ho:σ .ts=some o){x:Tk}(hx:tks[k]?=some x){P:Program}{s:SH}(hs:Grow h s.den):(Asm.ldn s o (k*6) 6 (rk σ k x)).holds P:=by
 obtain⟨junk,hj⟩:=a.obj _ _ ho
 have:=fl_chunk (f:=rk σ) (i:=0) (rk_len σ) hx junk
 rw[Nat.zero_add] at this
 exact aN (hs.get hj) (fl_room (f:=rk σ) (i:=0) (rk_len σ) hx junk) this
theorem RAtL.ssR(a:RAtL h σ tks scs lfs){o:Nat}(ho:σ .ss=some o){y:Sc}(hy:scs[k]?=some y){P:Program}{s:SH}(hs:Grow h s.den):(Asm.ldn s o (k*6) 6 (rs σ k y)).holds P:=by
 obtain⟨junk,hj⟩:=a.obj _ _ ho
 have:=fl_chunk (f:=rs σ) (i:=0) (rs_len σ) hy junk
 rw[Nat.zero_add] at this
 exact aN (hs.get hj) (fl_room (f:=rs σ) (i:=0) (rs_len σ) hy junk) this
theorem Grow.gApp{o:Option Nat}{cs:List Value}(K:Grow h G)(ho:∀ w,o=some w->h.length<=w):Grow h (gApp G o cs):=by
 cases o with
 | none=>exact K.push _
 | some w=>exact (K.set (ho w rfl) _).push _
theorem lkL_ones:∀ l:List (Option Nat),(lkL l).all Value.oneCell'=true
 | []=>rfl
 | v::l=>by rw[lkL,List.all_append,lkC_ones,lkL_ones];rfl
theorem nmL_ones(l:List Nat):(nmL l).all Value.oneCell'=true:=by
 simp[nmL,List.all_map]
 intro x _
 rfl
theorem rows_ones{α:Type}{f:Nat->α->List Value}(hf:∀ i x,(f i x).all Value.oneCell'=true):∀ {i:Nat} {l:List α},(fl f i l).all Value.oneCell'=true
 | _,[]=>rfl
 | i,x::l=>by rw[fl,List.all_append,hf,rows_ones hf];rfl
abbrev zz:List Value:=[.slice none 0 0,.slice none 0 0,.slice none 0 0]
structure CpI(h:Hp)(l:List Value)(b:Nat)(g:Hp)(σ:RLay)(tks:List Tk)(scs:List Sc)(hd:List Value):Prop where
 kp:Grow h g
 gb:g[b]?=some (.cells l true)
 gc:g[b+1]?=some (.cells zz true)
 gd:g[b+2]?=some (.cells hd true)
 at_:RAtL g σ tks scs []
 new:New (b+3) σ
 lfn:σ .lf=none
theorem CpI.after{l hd hd':List Value}{b:Nat}{r:RR}{cs:List Value}(hb:h.length=b)(I:CpI h l b g σ tks scs hd)(K:Grow g G)(a':RAtL (gApp G (σ r) cs) σ' tks' scs' [])(N:New (b+3) σ')(hl:σ' .lf=none) :
  CpI h l b ((gApp G (σ r) cs).set (b+2) (.cells hd' true)) σ' tks' scs' hd':=by
 have nw:∀ w,σ r=some w->b+3<=w:=fun w e=>I.new _ _ e
 have gt:∀ {q:Nat} {x:AObj},q<b+3->g[q]?=some x->(gApp G (σ r) cs)[q]?=some x:=fun hq hx=>gApp_get (K.get hx) fun e=>by have:=nw _ e;omega
 refine⟨Grow.set (Grow.gApp (Grow.trans I.kp K) fun w e=>by have:=nw w e;omega) (by omega) _,gNq (gt (by omega) I.gb) (by omega),gNq (gt (by omega) I.gc) (by omega),gE (gt (by omega) I.gd),?_,N,hl⟩
 exact a'.keep (Keep.set (fp:=fun q=>q=b+2) rfl _) fun q e=>by subst e;exact N.out (by omega)
theorem CpI.nextT{l hd hd':List Value}{b:Nat}(hb:h.length=b)(I:CpI h l b g σ tks scs hd)(K:Grow g G)(x:Tk)(q:Option Nat)(hq0:q=none->x.opn=[])(hq:∀ p,q=some p->g.length<=p/\G[p]?=some (.cells (lkL x.opn) true)) :
  CpI h l b ((gApp G (σ .ts) (fl (rk σ) 0 tks++(tkV x).C (slz q x.opn.length 2))).set (b+2) (.cells hd' true)) (putO (putO σ (.op tks.length) q) .ts (some G.length)) (tks++[x]) scs hd':=by
 have hg:=get_lt I.gd
 have hG:=K.1
 refine I.after hb K (I.at_.rowT K x q hq0 hq) ((I.new.put fun p e=>?_).put fun p e=>?_) (by rw[pO (by simp),pO (by simp)];exact I.lfn)
 ·have:=(hq p e).1;omega
 ·cases e;omega
theorem CpI.nextS{l hd hd':List Value}{b:Nat}(hb:h.length=b)(I:CpI h l b g σ tks scs hd)(K:Grow g G)(y:Sc)(q:Option Nat)(hq0:q=none->y.tks=[])(hq:∀ p,q=some p->g.length<=p/\G[p]?=some (.cells (nmL y.tks) true)) :
  CpI h l b ((gApp G (σ .ss) (fl (rs σ) 0 scs++(scV y).C (slz q y.tks.length 1))).set (b+2) (.cells hd' true)) (putO (putO σ (.st scs.length) q) .ss (some G.length)) tks (scs++[y]) hd':=by
 have hg:=get_lt I.gd
 have hG:=K.1
 refine I.after hb K (I.at_.rowS K y q hq0 hq) ((I.new.put fun p e=>?_).put fun p e=>?_) (by rw[pO (by simp),pO (by simp)];exact I.lfn)
 ·have:=(hq p e).1;omega
 ·cases e;omega
def cpG1(g:Hp)(z r0 r1:List Value):Hp:=((g++[AObj.cells z true]).set g.length (.cells r0 true)).set g.length (.cells r1 true)++[.cells r1 true]
def cpG2(g:Hp)(z r0 nw r1:List Value):Hp:=(((g++[AObj.cells z true]).set g.length (.cells r0 true))++[AObj.cells nw true]).set g.length (.cells r1 true)++[.cells r1 true]
theorem cpG1_len{z r0 r1:List Value}:(cpG1 g z r0 r1).length=g.length+2:=by simp[cpG1]
theorem cpG2_len{z r0 nw r1:List Value}:(cpG2 g z r0 nw r1).length=g.length+3:=by simp[cpG2]
theorem cpG1_grow(g:Hp)(z r0 r1:List Value):Grow g (cpG1 g z r0 r1):=Grow.push (Grow.set (Grow.set (Grow.push (Grow.refl g) _) (Nat.le_refl _) _) (Nat.le_refl _) _) _
theorem cpG2_grow(g:Hp)(z r0 nw r1:List Value):Grow g (cpG2 g z r0 nw r1):=Grow.push (Grow.set (Grow.push (Grow.set (Grow.push (Grow.refl g) _) (Nat.le_refl _) _) _) (Nat.le_refl _) _) _
theorem cp_loop0(a:RAt h σ t)(ok:TOk c t)(hc:c<=1000000){l:List Value}{b:Nat}(hb:h.length=b){E:Env}{σ0:RLay}
  (hE:EnvLe [(13,iV ((0:Nat):Int)),(12,iV (Int.ofNat t.tks.length)),(11,slz (σ .ts) t.tks.length 6),(3,ptr (b+2)),(2,ptr (b+1)),(1,ptr b)] E) (I:CpI h l b g σ0 [] [] zz) (h0:σ0 .ts=none) :
  ∃ E1 g1,(∃ σ1,EnvLe [(3,ptr (b+2)),(2,ptr (b+1)),(1,ptr b)] E1/\CpI h l b g1 σ1 t.tks [] [slz (σ1 .ts) t.tks.length 6,.slice none 0 0,.slice none 0 0]/\σ1 .ss=σ0 .ss)/\LRun Try.prog 57 false (loopN Try.f79 0) E g (.exit 0) E1 g1:=by
 have n64:=ok.n64
 have n200:=ok.n200
 refine for_loop (by simp) (len:=t.tks.length) (fun i E g=>∃ σi,EnvLe [(13,iV (i:Int)),(12,iV (Int.ofNat t.tks.length)),(11,slz (σ .ts) t.tks.length 6),(3,ptr (b+2)),(2,ptr (b+1)),(1,ptr b)] E/\CpI h l b g σi (t.tks.take i) [] [slz (σi .ts) i 6,.slice none 0 0,.slice none 0 0]/\σi .ss=σ0 .ss)
  (fun i E g hi ⟨σi,hE,I,hk⟩=>?_) (fun E g ⟨σi,hE,I,hk⟩=>?_) E g ⟨σ0,hE,?_,rfl⟩
 ·obtain⟨x,hx⟩:∃ x,t.tks[i]?=some x:=⟨_,List.getElem?_eq_getElem hi⟩
  obtain⟨o,ho⟩:=a.tsO hx
  have hln:=ok.len i x hx
  have tl:(t.tks.take i).length=i:=by simp;omega
  have gd:=I.gd
  have hgd:=get_lt gd
  simp only[ho,sA,sZ] at hE
  have A1:(Asm.cmp .lss (i:Int) (Int.ofNat t.tks.length) true).holds Try.prog:=ltT (by simp;omega)
  have A2:(Asm.off (i*6) 0 (i:Int) t.tks.length 6).holds Try.prog:=offI (q:=i) rfl hi (by omega)
  have A9:(Asm.arith .add .i64 (i:Int) 1 ((i+1:Nat):Int)).holds Try.prog:=addI rfl (by omega) (by omega)
  have fin:∀ {E2:Env} {G:Hp} {q:Option Nat} {F:Hp},Grow g G->(q=none->x.opn=[])->(∀ p,q=some p->g.length<=p/\G[p]?=some (.cells (lkL x.opn) true)) ->
    F=(gApp G (σi .ts) (fl (rk σi) 0 (t.tks.take i)++(tkV x).C (slz q x.opn.length 2))).set (b+2) (.cells [.slice (some ⟨G.length,0,none⟩) (i+1) 6,.slice none 0 0,.slice none 0 0] true) ->
    EnvLe [(13,iV ((i+1:Nat):Int)),(12,iV (Int.ofNat t.tks.length)),(11,.slice (some ⟨o,0,none⟩) t.tks.length 6),(3,ptr (b+2)),(2,ptr (b+1)),(1,ptr b)] E2->CRun Try.prog 57 false (loopN Try.f79 0) E g .normal E2 F ->
    ∃ E1 g1,(∃ σi,EnvLe [(13,iV ((i+1:Nat):Int)),(12,iV (Int.ofNat t.tks.length)),(11,slz (σ .ts) t.tks.length 6),(3,ptr (b+2)),(2,ptr (b+1)),(1,ptr b)] E1/\CpI h l b g1 σi (t.tks.take (i+1)) [] [slz (σi .ts) (i+1) 6,.slice none 0 0,.slice none 0 0]/\σi .ss=σ0 .ss)/\CRun Try.prog 57 false (loopN Try.f79 0) E g .normal E1 g1:=by
   intro E2 G q F K hq0 hq hF hE2 q2
   subst hF
   refine⟨E2,_,⟨putO (putO σi (.op (t.tks.take i).length) q) .ts (some G.length),by simp only[ho,sA,sZ];exact hE2,?_,by rw[pO (by simp),pO (by simp)];exact hk⟩,q2⟩
   have:=I.nextT (hd':=[.slice (some ⟨G.length,0,none⟩) (i+1) 6,.slice none 0 0,.slice none 0 0]) hb K x q hq0 hq
   rw[take_one hx]
   rw[putO_1]
   exact this
  have R:=a.tsR ho hx (P:=Try.prog) (s:=.is g) I.kp
  have gN:∀ r0 r1:List Value,((g++[AObj.cells r0 true]).set g.length (.cells r1 true))[g.length]?=some (.cells r1 true):=fun r0 r1=>gE (gW g _)
  have gD:∀ r0 r1:List Value,∀ {v:AObj},g[b+2]?=some v->((g++[AObj.cells r0 true]).set g.length (.cells r1 true))[b+2]?=some v:=fun r0 r1 v hv=>gNq (gP hv) (by omega)
  cases hop:σ (.op i) with
  | none =>
   have e0:=a.sh.op i x hx hop
   have hrow:rk σ i x=[iV (tkV x).sc,.bool (tkV x).en,.bool (tkV x).lv,iV (tkV x).fk,.string (tkV x).ft,.slice none 0 0]:=by simp[rk,TkV.C,hop,sA,sZ,e0]
   rw[hrow] at R
   cases hts:σi .ts with
   | none =>
    rw[hts] at gd
    have hi0:i=0:=by have:=I.at_.sh.ts hts;rw[List.take_eq_nil_iff] at this;rcases this with h | h;exact h;rw[h] at hi;simp at hi
    subst hi0
    obtain⟨E2,q1,q2⟩:=pvK 0 hE (q2p.c0_nn (tkV x).sc (tkV x).fk (tkV x).en (tkV x).lv (tkV x).ft b (b+1) (b+2) o t.tks.length (0*6) 0 0 0 g.length (g.length+1) (g.length+2) 0 0 (0:Nat) ((0+1:Nat):Int) [] [] (fl (rk σi) 0 (t.tks.take 0)++[iV (tkV x).sc,.bool (tkV x).en,.bool (tkV x).lv,iV (tkV x).fk,.string (tkV x).ft,.slice none 0 0]) [] [.slice (some ⟨g.length+2,0,none⟩) (0+1) 6,.slice none 0 0,.slice none 0 0] g)
     ⟨A1,A2,R,rfl,a_st (gW g _) (by simp) rfl,aL (gN _ _) rfl,a_st (gN _ _) (by simp) rfl,aL (gNq (gD _ _ gd) (by omega)) rfl,aN (gE (gN _ _)) (by simp) rfl,by simp[Asm.holds,SH.den],a_appGN rfl rfl (by omega) (gV _ (by simp[SH.den])) (by simp[SH.den]),a_st (gP (gP (gNq (gD _ _ gd) (by omega)))) (by simp) rfl,A9,trivial⟩
    refine fin (q:=none) (G:=cpG1 g [iV 0,.bool false,.bool false,iV 0,.string ⟨#[]⟩,.slice none 0 0] [iV (tkV x).sc,.bool (tkV x).en,.bool (tkV x).lv,iV (tkV x).fk,.string (tkV x).ft,.slice none 0 0] [iV (tkV x).sc,.bool (tkV x).en,.bool (tkV x).lv,iV (tkV x).fk,.string (tkV x).ft,.slice none 0 0]) (cpG1_grow g _ _ _) (fun _=>e0) (fun p e=>by cases e) ?_ ?_ q2
    ·rw[hts,cpG1_len,e0];rfl
    ·exact tR q1
   | some w =>
    rw[hts] at gd
    have hw3:=I.new _ _ hts
    obtain⟨jw,hwo⟩:=I.at_.obj _ _ hts
    have hwl:=get_lt hwo
    obtain⟨E2,q1,q2⟩:=pvK 0 hE (q2p.c0_ns (tkV x).sc (tkV x).fk (tkV x).en (tkV x).lv (tkV x).ft b (b+1) (b+2) o t.tks.length (i*6) 0 0 0 g.length (g.length+1) (g.length+2) w i (i:Nat) ((i+1:Nat):Int) (fl (rk σi) 0 (t.tks.take i)++[iV (tkV x).sc,.bool (tkV x).en,.bool (tkV x).lv,iV (tkV x).fk,.string (tkV x).ft,.slice none 0 0]) [] [iV (tkV x).sc,.bool (tkV x).en,.bool (tkV x).lv,iV (tkV x).fk,.string (tkV x).ft,.slice none 0 0] [] [.slice (some ⟨g.length+2,0,none⟩) (i+1) 6,.slice none 0 0,.slice none 0 0] g)
     ⟨A1,A2,R,rfl,a_st (gW g _) (by simp) rfl,aL (gN _ _) rfl,a_st (gN _ _) (by simp) rfl,aL (gNq (gD _ _ gd) (by omega)) rfl,aN (gE (gN _ _)) (by simp) rfl,by simp[Asm.holds,SH.den],a_appSJ (m:=0) (junk2:=[]) (gP (gNq (gNq (gP hwo) (by omega)) (by omega))) (by rw[fl_len (rk_len σi),tl]) (gV _ (by simp[SH.den])) rfl rfl (by omega) (by omega) (by omega) (by simp[SH.den]),a_st (gP (gNq (gP (gNq (gD _ _ gd) (by omega))) (by omega))) (by simp) rfl,A9,trivial⟩
    refine fin (q:=none) (G:=cpG1 g [iV 0,.bool false,.bool false,iV 0,.string ⟨#[]⟩,.slice none 0 0] [iV (tkV x).sc,.bool (tkV x).en,.bool (tkV x).lv,iV (tkV x).fk,.string (tkV x).ft,.slice none 0 0] [iV (tkV x).sc,.bool (tkV x).en,.bool (tkV x).lv,iV (tkV x).fk,.string (tkV x).ft,.slice none 0 0]) (cpG1_grow g _ _ _) (fun _=>e0) (fun p e=>by cases e) ?_ ?_ q2
    ·rw[hts,cpG1_len,e0];rfl
    ·exact tR q1
  | some p =>
   obtain⟨jp,hpo0⟩:=a.obj _ _ hop
   have hpo:=I.kp.get hpo0
   rw[rcont_op hx] at hpo
   have hpl:=get_lt hpo
   rcases Nat.eq_zero_or_pos x.opn.length with e | e
   ·have e0:x.opn=[]:=List.length_eq_zero_iff.1 e
    have hrow:rk σ i x=[iV (tkV x).sc,.bool (tkV x).en,.bool (tkV x).lv,iV (tkV x).fk,.string (tkV x).ft,.slice (some ⟨p,0,none⟩) 0 2]:=by simp[rk,TkV.C,hop,sA,sZ,e0]
    rw[hrow] at R
    cases hts:σi .ts with
    | none =>
     rw[hts] at gd
     have hi0:i=0:=by have:=I.at_.sh.ts hts;rw[List.take_eq_nil_iff] at this;rcases this with h | h;exact h;rw[h] at hi;simp at hi
     subst hi0
     obtain⟨E2,q1,q2⟩:=pvK 0 hE (q2p.c0_zn (tkV x).sc (tkV x).fk (tkV x).en (tkV x).lv (tkV x).ft b (b+1) (b+2) o t.tks.length (0*6) p 0 0 g.length (g.length+1) (g.length+2) 0 0 (0:Nat) ((0+1:Nat):Int) [] [] (fl (rk σi) 0 (t.tks.take 0)++[iV (tkV x).sc,.bool (tkV x).en,.bool (tkV x).lv,iV (tkV x).fk,.string (tkV x).ft,.slice none 0 0]) [] [.slice (some ⟨g.length+2,0,none⟩) (0+1) 6,.slice none 0 0,.slice none 0 0] g)
      ⟨A1,A2,R,rfl,a_st (gW g _) (by simp) rfl,aL (gN _ _) rfl,⟨rfl,_,cells_of (gNq (gP hpo) (by omega)),Nat.zero_le _⟩,a_st (gN _ _) (by simp) rfl,aL (gNq (gD _ _ gd) (by omega)) rfl,aN (gE (gN _ _)) (by simp) rfl,by simp[Asm.holds,SH.den],a_appGN rfl rfl (by omega) (gV _ (by simp[SH.den])) (by simp[SH.den]),a_st (gP (gP (gNq (gD _ _ gd) (by omega)))) (by simp) rfl,A9,trivial⟩
     refine fin (q:=none) (G:=cpG1 g [iV 0,.bool false,.bool false,iV 0,.string ⟨#[]⟩,.slice none 0 0] [iV (tkV x).sc,.bool (tkV x).en,.bool (tkV x).lv,iV (tkV x).fk,.string (tkV x).ft,.slice (some ⟨p,0,none⟩) 0 2] [iV (tkV x).sc,.bool (tkV x).en,.bool (tkV x).lv,iV (tkV x).fk,.string (tkV x).ft,.slice none 0 0]) (cpG1_grow g _ _ _) (fun _=>e0) (fun p e=>by cases e) ?_ ?_ q2
     ·rw[hts,cpG1_len,e0];rfl
     ·exact tR q1
    | some w =>
     rw[hts] at gd
     have hw3:=I.new _ _ hts
     obtain⟨jw,hwo⟩:=I.at_.obj _ _ hts
     have hwl:=get_lt hwo
     obtain⟨E2,q1,q2⟩:=pvK 0 hE (q2p.c0_zs (tkV x).sc (tkV x).fk (tkV x).en (tkV x).lv (tkV x).ft b (b+1) (b+2) o t.tks.length (i*6) p 0 0 g.length (g.length+1) (g.length+2) w i (i:Nat) ((i+1:Nat):Int) (fl (rk σi) 0 (t.tks.take i)++[iV (tkV x).sc,.bool (tkV x).en,.bool (tkV x).lv,iV (tkV x).fk,.string (tkV x).ft,.slice none 0 0]) [] [iV (tkV x).sc,.bool (tkV x).en,.bool (tkV x).lv,iV (tkV x).fk,.string (tkV x).ft,.slice none 0 0] [] [.slice (some ⟨g.length+2,0,none⟩) (i+1) 6,.slice none 0 0,.slice none 0 0] g)
      ⟨A1,A2,R,rfl,a_st (gW g _) (by simp) rfl,aL (gN _ _) rfl,⟨rfl,_,cells_of (gNq (gP hpo) (by omega)),Nat.zero_le _⟩,a_st (gN _ _) (by simp) rfl,aL (gNq (gD _ _ gd) (by omega)) rfl,aN (gE (gN _ _)) (by simp) rfl,by simp[Asm.holds,SH.den],a_appSJ (m:=0) (junk2:=[]) (gP (gNq (gNq (gP hwo) (by omega)) (by omega))) (by rw[fl_len (rk_len σi),tl]) (gV _ (by simp[SH.den])) rfl rfl (by omega) (by omega) (by omega) (by simp[SH.den]),a_st (gP (gNq (gP (gNq (gD _ _ gd) (by omega))) (by omega))) (by simp) rfl,A9,trivial⟩
     refine fin (q:=none) (G:=cpG1 g [iV 0,.bool false,.bool false,iV 0,.string ⟨#[]⟩,.slice none 0 0] [iV (tkV x).sc,.bool (tkV x).en,.bool (tkV x).lv,iV (tkV x).fk,.string (tkV x).ft,.slice (some ⟨p,0,none⟩) 0 2] [iV (tkV x).sc,.bool (tkV x).en,.bool (tkV x).lv,iV (tkV x).fk,.string (tkV x).ft,.slice none 0 0]) (cpG1_grow g _ _ _) (fun _=>e0) (fun p e=>by cases e) ?_ ?_ q2
     ·rw[hts,cpG1_len,e0];rfl
     ·exact tR q1
   ·obtain⟨m,hm⟩:∃ m,x.opn.length=m+1:=⟨x.opn.length-1,by omega⟩
    have hrow:rk σ i x=[iV (tkV x).sc,.bool (tkV x).en,.bool (tkV x).lv,iV (tkV x).fk,.string (tkV x).ft,.slice (some ⟨p,0,none⟩) (m+1) 2]:=by simp[rk,TkV.C,hop,sA,sZ,hm]
    rw[hrow] at R
    cases hts:σi .ts with
    | none =>
     rw[hts] at gd
     have hi0:i=0:=by have:=I.at_.sh.ts hts;rw[List.take_eq_nil_iff] at this;rcases this with h | h;exact h;rw[h] at hi;simp at hi
     subst hi0
     obtain⟨E2,q1,q2⟩:=pvK 0 hE (q2p.c0_sn (tkV x).sc (tkV x).fk (tkV x).en (tkV x).lv (tkV x).ft b (b+1) (b+2) o t.tks.length (0*6) p m (g.length+1) g.length (g.length+2) (g.length+3) 0 0 (0:Nat) ((0+1:Nat):Int) [] [] (fl (rk σi) 0 (t.tks.take 0)++[iV (tkV x).sc,.bool (tkV x).en,.bool (tkV x).lv,iV (tkV x).fk,.string (tkV x).ft,.slice (some ⟨g.length+1,0,none⟩) (m+1) 2]) (lkL x.opn) [.slice (some ⟨g.length+3,0,none⟩) (0+1) 6,.slice none 0 0,.slice none 0 0] g)
      ⟨A1,A2,R,rfl,a_st (gW g _) (by simp) rfl,aL (gN _ _) rfl,a_appNJ (gNq (gP hpo) (by omega)) (by simp[lkL_len,hm]) (lkL_ones _) (by omega) (by omega) (by simp[SH.den]),a_st (gP (gN _ _)) (by simp) rfl,aL (gNq (gP (gD _ _ gd)) (by omega)) rfl,aN (gE (gP (gN _ _))) (by simp) rfl,by simp[Asm.holds,SH.den],a_appGN rfl rfl (by omega) (gV _ (by simp[SH.den])) (by simp[SH.den]),a_st (gP (gP (gNq (gP (gD _ _ gd)) (by omega)))) (by simp) rfl,A9,trivial⟩
     refine fin (q:=(some (g.length+1))) (G:=cpG2 g [iV 0,.bool false,.bool false,iV 0,.string ⟨#[]⟩,.slice none 0 0] [iV (tkV x).sc,.bool (tkV x).en,.bool (tkV x).lv,iV (tkV x).fk,.string (tkV x).ft,.slice (some ⟨p,0,none⟩) (m+1) 2] (lkL x.opn) [iV (tkV x).sc,.bool (tkV x).en,.bool (tkV x).lv,iV (tkV x).fk,.string (tkV x).ft,.slice (some ⟨g.length+1,0,none⟩) (m+1) 2]) (cpG2_grow g _ _ _ _) (fun e=>by cases e) (fun p' e=>by cases e;exact⟨by omega,gP (gNq (gV _ (by rw[sN,pL])) (by omega))⟩) ?_ ?_ q2
     ·rw[hts,cpG2_len,hm];rfl
     ·exact tR q1
    | some w =>
     rw[hts] at gd
     have hw3:=I.new _ _ hts
     obtain⟨jw,hwo⟩:=I.at_.obj _ _ hts
     have hwl:=get_lt hwo
     obtain⟨E2,q1,q2⟩:=pvK 0 hE (q2p.c0_ss (tkV x).sc (tkV x).fk (tkV x).en (tkV x).lv (tkV x).ft b (b+1) (b+2) o t.tks.length (i*6) p m (g.length+1) g.length (g.length+2) (g.length+3) w i (i:Nat) ((i+1:Nat):Int) (fl (rk σi) 0 (t.tks.take i)++[iV (tkV x).sc,.bool (tkV x).en,.bool (tkV x).lv,iV (tkV x).fk,.string (tkV x).ft,.slice (some ⟨g.length+1,0,none⟩) (m+1) 2]) [] [iV (tkV x).sc,.bool (tkV x).en,.bool (tkV x).lv,iV (tkV x).fk,.string (tkV x).ft,.slice (some ⟨g.length+1,0,none⟩) (m+1) 2] (lkL x.opn) [.slice (some ⟨g.length+3,0,none⟩) (i+1) 6,.slice none 0 0,.slice none 0 0] g)
      ⟨A1,A2,R,rfl,a_st (gW g _) (by simp) rfl,aL (gN _ _) rfl,a_appNJ (gNq (gP hpo) (by omega)) (by simp[lkL_len,hm]) (lkL_ones _) (by omega) (by omega) (by simp[SH.den]),a_st (gP (gN _ _)) (by simp) rfl,aL (gNq (gP (gD _ _ gd)) (by omega)) rfl,aN (gE (gP (gN _ _))) (by simp) rfl,by simp[Asm.holds,SH.den],a_appSJ (m:=0) (junk2:=[]) (gP (gNq (gP (gNq (gP hwo) (by omega))) (by omega))) (by rw[fl_len (rk_len σi),tl]) (gV _ (by simp[SH.den])) rfl rfl (by omega) (by omega) (by omega) (by simp[SH.den]),a_st (gP (gNq (gP (gNq (gP (gD _ _ gd)) (by omega))) (by omega))) (by simp) rfl,A9,trivial⟩
     refine fin (q:=(some (g.length+1))) (G:=cpG2 g [iV 0,.bool false,.bool false,iV 0,.string ⟨#[]⟩,.slice none 0 0] [iV (tkV x).sc,.bool (tkV x).en,.bool (tkV x).lv,iV (tkV x).fk,.string (tkV x).ft,.slice (some ⟨p,0,none⟩) (m+1) 2] (lkL x.opn) [iV (tkV x).sc,.bool (tkV x).en,.bool (tkV x).lv,iV (tkV x).fk,.string (tkV x).ft,.slice (some ⟨g.length+1,0,none⟩) (m+1) 2]) (cpG2_grow g _ _ _ _) (fun e=>by cases e) (fun p' e=>by cases e;exact⟨by omega,gP (gNq (gV _ (by rw[sN,pL])) (by omega))⟩) ?_ ?_ q2
     ·rw[hts,cpG2_len,hm];rfl
     ·exact tR q1
 ·obtain⟨E2,q1,q2⟩:=pvC 0 hE (q2p.c0_out b (b+1) (b+2) t.tks.length _ _ t.tks.length g) ⟨ltF (by simp),trivial⟩
  rw[List.take_length] at I
  exact⟨E2,_,⟨σi,tR q1,I,hk⟩,q2⟩
 ·rw[h0];exact I
theorem cp_loop1(a:RAt h σ t)(ok:TOk c t)(hc:c<=1000000){l:List Value}{b:Nat}{hd0:Value}(hb:h.length=b){E:Env}{σ0:RLay}
  (hE:EnvLe [(33,iV ((0:Nat):Int)),(32,iV (Int.ofNat t.scs.length)),(31,slz (σ .ss) t.scs.length 6),(3,ptr (b+2)),(2,ptr (b+1)),(1,ptr b)] E) (I:CpI h l b g σ0 t.tks [] [hd0,.slice none 0 0,.slice none 0 0]) (h0:σ0 .ss=none) :
  ∃ E1 g1,(∃ σ1,EnvLe [(3,ptr (b+2)),(2,ptr (b+1)),(1,ptr b)] E1/\CpI h l b g1 σ1 t.tks t.scs [hd0,slz (σ1 .ss) t.scs.length 6,.slice none 0 0]/\σ1 .ts=σ0 .ts)/\LRun Try.prog 57 false (loopN Try.f79 1) E g (.exit 2) E1 g1:=by
 have n64:=ok.n64
 have n200:=ok.n200
 refine for_loop (by simp) (len:=t.scs.length) (fun i E g=>∃ σi,EnvLe [(33,iV (i:Int)),(32,iV (Int.ofNat t.scs.length)),(31,slz (σ .ss) t.scs.length 6),(3,ptr (b+2)),(2,ptr (b+1)),(1,ptr b)] E/\CpI h l b g σi t.tks (t.scs.take i) [hd0,slz (σi .ss) i 6,.slice none 0 0]/\σi .ts=σ0 .ts)
  (fun i E g hi ⟨σi,hE,I,hk⟩=>?_) (fun E g ⟨σi,hE,I,hk⟩=>?_) E g ⟨σ0,hE,?_,rfl⟩
 ·obtain⟨y,hx⟩:∃ y,t.scs[i]?=some y:=⟨_,List.getElem?_eq_getElem hi⟩
  obtain⟨o,ho⟩:=a.ssO hx
  have hln:=ok.mlen i y hx
  have tl:(t.scs.take i).length=i:=by simp;omega
  have gd:=I.gd
  have hgd:=get_lt gd
  simp only[ho,sA,sZ] at hE
  have A1:(Asm.cmp .lss (i:Int) (Int.ofNat t.scs.length) true).holds Try.prog:=ltT (by simp;omega)
  have A2:(Asm.off (i*6) 0 (i:Int) t.scs.length 6).holds Try.prog:=offI (q:=i) rfl hi (by omega)
  have A9:(Asm.arith .add .i64 (i:Int) 1 ((i+1:Nat):Int)).holds Try.prog:=addI rfl (by omega) (by omega)
  have fin:∀ {E2:Env} {G:Hp} {q:Option Nat} {F:Hp},Grow g G->(q=none->y.tks=[])->(∀ p,q=some p->g.length<=p/\G[p]?=some (.cells (nmL y.tks) true)) ->
    F=(gApp G (σi .ss) (fl (rs σi) 0 (t.scs.take i)++(scV y).C (slz q y.tks.length 1))).set (b+2) (.cells [hd0,.slice (some ⟨G.length,0,none⟩) (i+1) 6,.slice none 0 0] true) ->
    EnvLe [(33,iV ((i+1:Nat):Int)),(32,iV (Int.ofNat t.scs.length)),(31,.slice (some ⟨o,0,none⟩) t.scs.length 6),(3,ptr (b+2)),(2,ptr (b+1)),(1,ptr b)] E2->CRun Try.prog 57 false (loopN Try.f79 1) E g .normal E2 F ->
    ∃ E1 g1,(∃ σi,EnvLe [(33,iV ((i+1:Nat):Int)),(32,iV (Int.ofNat t.scs.length)),(31,slz (σ .ss) t.scs.length 6),(3,ptr (b+2)),(2,ptr (b+1)),(1,ptr b)] E1/\CpI h l b g1 σi t.tks (t.scs.take (i+1)) [hd0,slz (σi .ss) (i+1) 6,.slice none 0 0]/\σi .ts=σ0 .ts)/\CRun Try.prog 57 false (loopN Try.f79 1) E g .normal E1 g1:=by
   intro E2 G q F K hq0 hq hF hE2 q2
   subst hF
   refine⟨E2,_,⟨putO (putO σi (.st (t.scs.take i).length) q) .ss (some G.length),by simp only[ho,sA,sZ];exact hE2,?_,by rw[pO (by simp),pO (by simp)];exact hk⟩,q2⟩
   have:=I.nextS (hd':=[hd0,.slice (some ⟨G.length,0,none⟩) (i+1) 6,.slice none 0 0]) hb K y q hq0 hq
   rw[take_one hx]
   rw[putO_1]
   exact this
  have R:=a.ssR ho hx (P:=Try.prog) (s:=.is g) I.kp
  have gN:∀ r0 r1:List Value,((g++[AObj.cells r0 true]).set g.length (.cells r1 true))[g.length]?=some (.cells r1 true):=fun r0 r1=>gE (gW g _)
  have gD:∀ r0 r1:List Value,∀ {v:AObj},g[b+2]?=some v->((g++[AObj.cells r0 true]).set g.length (.cells r1 true))[b+2]?=some v:=fun r0 r1 v hv=>gNq (gP hv) (by omega)
  cases hop:σ (.st i) with
  | none =>
   have e0:=a.sh.st i y hx hop
   have hrow:rs σ i y=[iV (scV y).ow,.bool (scV y).su,.bool (scV y).ov,.slice none 0 0,iV (scV y).fk,.string (scV y).ft]:=by simp[rs,ScV.C,hop,sA,sZ,e0]
   rw[hrow] at R
   cases hts:σi .ss with
   | none =>
    rw[hts] at gd
    have hi0:i=0:=by have:=I.at_.sh.ss hts;rw[List.take_eq_nil_iff] at this;rcases this with h | h;exact h;rw[h] at hi;simp at hi
    subst hi0
    obtain⟨E2,q1,q2⟩:=pvK 0 hE (q2p.c1_nn (scV y).ow (scV y).fk (scV y).su (scV y).ov (scV y).ft b (b+1) (b+2) o t.scs.length (0*6) 0 0 0 g.length (g.length+1) (g.length+2) 0 0 (0:Nat) ((0+1:Nat):Int) [] [] (fl (rs σi) 0 (t.scs.take 0)++[iV (scV y).ow,.bool (scV y).su,.bool (scV y).ov,.slice none 0 0,iV (scV y).fk,.string (scV y).ft]) [] [hd0,.slice (some ⟨g.length+2,0,none⟩) (0+1) 6,.slice none 0 0] g)
     ⟨A1,A2,R,rfl,a_st (gW g _) (by simp) rfl,aL (gN _ _) rfl,a_st (gN _ _) (by simp) rfl,aL (gNq (gD _ _ gd) (by omega)) rfl,aN (gE (gN _ _)) (by simp) rfl,by simp[Asm.holds,SH.den],a_appGN rfl rfl (by omega) (gV _ (by simp[SH.den])) (by simp[SH.den]),a_st (gP (gP (gNq (gD _ _ gd) (by omega)))) (by simp) rfl,A9,trivial⟩
    refine fin (q:=none) (G:=cpG1 g [iV 0,.bool false,.bool false,.slice none 0 0,iV 0,.string ⟨#[]⟩] [iV (scV y).ow,.bool (scV y).su,.bool (scV y).ov,.slice none 0 0,iV (scV y).fk,.string (scV y).ft] [iV (scV y).ow,.bool (scV y).su,.bool (scV y).ov,.slice none 0 0,iV (scV y).fk,.string (scV y).ft]) (cpG1_grow g _ _ _) (fun _=>e0) (fun p e=>by cases e) ?_ ?_ q2
    ·rw[hts,cpG1_len,e0];rfl
    ·exact tR q1
   | some w =>
    rw[hts] at gd
    have hw3:=I.new _ _ hts
    obtain⟨jw,hwo⟩:=I.at_.obj _ _ hts
    have hwl:=get_lt hwo
    obtain⟨E2,q1,q2⟩:=pvK 0 hE (q2p.c1_ns (scV y).ow (scV y).fk (scV y).su (scV y).ov (scV y).ft b (b+1) (b+2) o t.scs.length (i*6) 0 0 0 g.length (g.length+1) (g.length+2) w i (i:Nat) ((i+1:Nat):Int) (fl (rs σi) 0 (t.scs.take i)++[iV (scV y).ow,.bool (scV y).su,.bool (scV y).ov,.slice none 0 0,iV (scV y).fk,.string (scV y).ft]) [] [iV (scV y).ow,.bool (scV y).su,.bool (scV y).ov,.slice none 0 0,iV (scV y).fk,.string (scV y).ft] [] [hd0,.slice (some ⟨g.length+2,0,none⟩) (i+1) 6,.slice none 0 0] g)
     ⟨A1,A2,R,rfl,a_st (gW g _) (by simp) rfl,aL (gN _ _) rfl,a_st (gN _ _) (by simp) rfl,aL (gNq (gD _ _ gd) (by omega)) rfl,aN (gE (gN _ _)) (by simp) rfl,by simp[Asm.holds,SH.den],a_appSJ (m:=0) (junk2:=[]) (gP (gNq (gNq (gP hwo) (by omega)) (by omega))) (by rw[fl_len (rs_len σi),tl]) (gV _ (by simp[SH.den])) rfl rfl (by omega) (by omega) (by omega) (by simp[SH.den]),a_st (gP (gNq (gP (gNq (gD _ _ gd) (by omega))) (by omega))) (by simp) rfl,A9,trivial⟩
    refine fin (q:=none) (G:=cpG1 g [iV 0,.bool false,.bool false,.slice none 0 0,iV 0,.string ⟨#[]⟩] [iV (scV y).ow,.bool (scV y).su,.bool (scV y).ov,.slice none 0 0,iV (scV y).fk,.string (scV y).ft] [iV (scV y).ow,.bool (scV y).su,.bool (scV y).ov,.slice none 0 0,iV (scV y).fk,.string (scV y).ft]) (cpG1_grow g _ _ _) (fun _=>e0) (fun p e=>by cases e) ?_ ?_ q2
    ·rw[hts,cpG1_len,e0];rfl
    ·exact tR q1
  | some p =>
   obtain⟨jp,hpo0⟩:=a.obj _ _ hop
   have hpo:=I.kp.get hpo0
   rw[rcont_st hx] at hpo
   have hpl:=get_lt hpo
   rcases Nat.eq_zero_or_pos y.tks.length with e | e
   ·have e0:y.tks=[]:=List.length_eq_zero_iff.1 e
    have hrow:rs σ i y=[iV (scV y).ow,.bool (scV y).su,.bool (scV y).ov,.slice (some ⟨p,0,none⟩) 0 1,iV (scV y).fk,.string (scV y).ft]:=by simp[rs,ScV.C,hop,sA,sZ,e0]
    rw[hrow] at R
    cases hts:σi .ss with
    | none =>
     rw[hts] at gd
     have hi0:i=0:=by have:=I.at_.sh.ss hts;rw[List.take_eq_nil_iff] at this;rcases this with h | h;exact h;rw[h] at hi;simp at hi
     subst hi0
     obtain⟨E2,q1,q2⟩:=pvK 0 hE (q2p.c1_zn (scV y).ow (scV y).fk (scV y).su (scV y).ov (scV y).ft b (b+1) (b+2) o t.scs.length (0*6) p 0 0 g.length (g.length+1) (g.length+2) 0 0 (0:Nat) ((0+1:Nat):Int) [] [] (fl (rs σi) 0 (t.scs.take 0)++[iV (scV y).ow,.bool (scV y).su,.bool (scV y).ov,.slice none 0 0,iV (scV y).fk,.string (scV y).ft]) [] [hd0,.slice (some ⟨g.length+2,0,none⟩) (0+1) 6,.slice none 0 0] g)
      ⟨A1,A2,R,rfl,a_st (gW g _) (by simp) rfl,aL (gN _ _) rfl,⟨rfl,_,cells_of (gNq (gP hpo) (by omega)),Nat.zero_le _⟩,a_st (gN _ _) (by simp) rfl,aL (gNq (gD _ _ gd) (by omega)) rfl,aN (gE (gN _ _)) (by simp) rfl,by simp[Asm.holds,SH.den],a_appGN rfl rfl (by omega) (gV _ (by simp[SH.den])) (by simp[SH.den]),a_st (gP (gP (gNq (gD _ _ gd) (by omega)))) (by simp) rfl,A9,trivial⟩
     refine fin (q:=none) (G:=cpG1 g [iV 0,.bool false,.bool false,.slice none 0 0,iV 0,.string ⟨#[]⟩] [iV (scV y).ow,.bool (scV y).su,.bool (scV y).ov,.slice (some ⟨p,0,none⟩) 0 1,iV (scV y).fk,.string (scV y).ft] [iV (scV y).ow,.bool (scV y).su,.bool (scV y).ov,.slice none 0 0,iV (scV y).fk,.string (scV y).ft]) (cpG1_grow g _ _ _) (fun _=>e0) (fun p e=>by cases e) ?_ ?_ q2
     ·rw[hts,cpG1_len,e0];rfl
     ·exact tR q1
    | some w =>
     rw[hts] at gd
     have hw3:=I.new _ _ hts
     obtain⟨jw,hwo⟩:=I.at_.obj _ _ hts
     have hwl:=get_lt hwo
     obtain⟨E2,q1,q2⟩:=pvK 0 hE (q2p.c1_zs (scV y).ow (scV y).fk (scV y).su (scV y).ov (scV y).ft b (b+1) (b+2) o t.scs.length (i*6) p 0 0 g.length (g.length+1) (g.length+2) w i (i:Nat) ((i+1:Nat):Int) (fl (rs σi) 0 (t.scs.take i)++[iV (scV y).ow,.bool (scV y).su,.bool (scV y).ov,.slice none 0 0,iV (scV y).fk,.string (scV y).ft]) [] [iV (scV y).ow,.bool (scV y).su,.bool (scV y).ov,.slice none 0 0,iV (scV y).fk,.string (scV y).ft] [] [hd0,.slice (some ⟨g.length+2,0,none⟩) (i+1) 6,.slice none 0 0] g)
      ⟨A1,A2,R,rfl,a_st (gW g _) (by simp) rfl,aL (gN _ _) rfl,⟨rfl,_,cells_of (gNq (gP hpo) (by omega)),Nat.zero_le _⟩,a_st (gN _ _) (by simp) rfl,aL (gNq (gD _ _ gd) (by omega)) rfl,aN (gE (gN _ _)) (by simp) rfl,by simp[Asm.holds,SH.den],a_appSJ (m:=0) (junk2:=[]) (gP (gNq (gNq (gP hwo) (by omega)) (by omega))) (by rw[fl_len (rs_len σi),tl]) (gV _ (by simp[SH.den])) rfl rfl (by omega) (by omega) (by omega) (by simp[SH.den]),a_st (gP (gNq (gP (gNq (gD _ _ gd) (by omega))) (by omega))) (by simp) rfl,A9,trivial⟩
     refine fin (q:=none) (G:=cpG1 g [iV 0,.bool false,.bool false,.slice none 0 0,iV 0,.string ⟨#[]⟩] [iV (scV y).ow,.bool (scV y).su,.bool (scV y).ov,.slice (some ⟨p,0,none⟩) 0 1,iV (scV y).fk,.string (scV y).ft] [iV (scV y).ow,.bool (scV y).su,.bool (scV y).ov,.slice none 0 0,iV (scV y).fk,.string (scV y).ft]) (cpG1_grow g _ _ _) (fun _=>e0) (fun p e=>by cases e) ?_ ?_ q2
     ·rw[hts,cpG1_len,e0];rfl
     ·exact tR q1
   ·obtain⟨m,hm⟩:∃ m,y.tks.length=m+1:=⟨y.tks.length-1,by omega⟩
    have hrow:rs σ i y=[iV (scV y).ow,.bool (scV y).su,.bool (scV y).ov,.slice (some ⟨p,0,none⟩) (m+1) 1,iV (scV y).fk,.string (scV y).ft]:=by simp[rs,ScV.C,hop,sA,sZ,hm]
    rw[hrow] at R
    cases hts:σi .ss with
    | none =>
     rw[hts] at gd
     have hi0:i=0:=by have:=I.at_.sh.ss hts;rw[List.take_eq_nil_iff] at this;rcases this with h | h;exact h;rw[h] at hi;simp at hi
     subst hi0
     obtain⟨E2,q1,q2⟩:=pvK 0 hE (q2p.c1_sn (scV y).ow (scV y).fk (scV y).su (scV y).ov (scV y).ft b (b+1) (b+2) o t.scs.length (0*6) p m (g.length+1) g.length (g.length+2) (g.length+3) 0 0 (0:Nat) ((0+1:Nat):Int) [] [] (fl (rs σi) 0 (t.scs.take 0)++[iV (scV y).ow,.bool (scV y).su,.bool (scV y).ov,.slice (some ⟨g.length+1,0,none⟩) (m+1) 1,iV (scV y).fk,.string (scV y).ft]) (nmL y.tks) [hd0,.slice (some ⟨g.length+3,0,none⟩) (0+1) 6,.slice none 0 0] g)
      ⟨A1,A2,R,rfl,a_st (gW g _) (by simp) rfl,aL (gN _ _) rfl,a_appNJ (gNq (gP hpo) (by omega)) (by simp[nmL_len,hm]) (nmL_ones _) (by omega) (by omega) (by simp[SH.den]),a_st (gP (gN _ _)) (by simp) rfl,aL (gNq (gP (gD _ _ gd)) (by omega)) rfl,aN (gE (gP (gN _ _))) (by simp) rfl,by simp[Asm.holds,SH.den],a_appGN rfl rfl (by omega) (gV _ (by simp[SH.den])) (by simp[SH.den]),a_st (gP (gP (gNq (gP (gD _ _ gd)) (by omega)))) (by simp) rfl,A9,trivial⟩
     refine fin (q:=(some (g.length+1))) (G:=cpG2 g [iV 0,.bool false,.bool false,.slice none 0 0,iV 0,.string ⟨#[]⟩] [iV (scV y).ow,.bool (scV y).su,.bool (scV y).ov,.slice (some ⟨p,0,none⟩) (m+1) 1,iV (scV y).fk,.string (scV y).ft] (nmL y.tks) [iV (scV y).ow,.bool (scV y).su,.bool (scV y).ov,.slice (some ⟨g.length+1,0,none⟩) (m+1) 1,iV (scV y).fk,.string (scV y).ft]) (cpG2_grow g _ _ _ _) (fun e=>by cases e) (fun p' e=>by cases e;exact⟨by omega,gP (gNq (gV _ (by rw[sN,pL])) (by omega))⟩) ?_ ?_ q2
     ·rw[hts,cpG2_len,hm];rfl
     ·exact tR q1
    | some w =>
     rw[hts] at gd
     have hw3:=I.new _ _ hts
     obtain⟨jw,hwo⟩:=I.at_.obj _ _ hts
     have hwl:=get_lt hwo
     obtain⟨E2,q1,q2⟩:=pvK 0 hE (q2p.c1_ss (scV y).ow (scV y).fk (scV y).su (scV y).ov (scV y).ft b (b+1) (b+2) o t.scs.length (i*6) p m (g.length+1) g.length (g.length+2) (g.length+3) w i (i:Nat) ((i+1:Nat):Int) (fl (rs σi) 0 (t.scs.take i)++[iV (scV y).ow,.bool (scV y).su,.bool (scV y).ov,.slice (some ⟨g.length+1,0,none⟩) (m+1) 1,iV (scV y).fk,.string (scV y).ft]) [] [iV (scV y).ow,.bool (scV y).su,.bool (scV y).ov,.slice (some ⟨g.length+1,0,none⟩) (m+1) 1,iV (scV y).fk,.string (scV y).ft] (nmL y.tks) [hd0,.slice (some ⟨g.length+3,0,none⟩) (i+1) 6,.slice none 0 0] g)
      ⟨A1,A2,R,rfl,a_st (gW g _) (by simp) rfl,aL (gN _ _) rfl,a_appNJ (gNq (gP hpo) (by omega)) (by simp[nmL_len,hm]) (nmL_ones _) (by omega) (by omega) (by simp[SH.den]),a_st (gP (gN _ _)) (by simp) rfl,aL (gNq (gP (gD _ _ gd)) (by omega)) rfl,aN (gE (gP (gN _ _))) (by simp) rfl,by simp[Asm.holds,SH.den],a_appSJ (m:=0) (junk2:=[]) (gP (gNq (gP (gNq (gP hwo) (by omega))) (by omega))) (by rw[fl_len (rs_len σi),tl]) (gV _ (by simp[SH.den])) rfl rfl (by omega) (by omega) (by omega) (by simp[SH.den]),a_st (gP (gNq (gP (gNq (gP (gD _ _ gd)) (by omega))) (by omega))) (by simp) rfl,A9,trivial⟩
     refine fin (q:=(some (g.length+1))) (G:=cpG2 g [iV 0,.bool false,.bool false,.slice none 0 0,iV 0,.string ⟨#[]⟩] [iV (scV y).ow,.bool (scV y).su,.bool (scV y).ov,.slice (some ⟨p,0,none⟩) (m+1) 1,iV (scV y).fk,.string (scV y).ft] (nmL y.tks) [iV (scV y).ow,.bool (scV y).su,.bool (scV y).ov,.slice (some ⟨g.length+1,0,none⟩) (m+1) 1,iV (scV y).fk,.string (scV y).ft]) (cpG2_grow g _ _ _ _) (fun e=>by cases e) (fun p' e=>by cases e;exact⟨by omega,gP (gNq (gV _ (by rw[sN,pL])) (by omega))⟩) ?_ ?_ q2
     ·rw[hts,cpG2_len,hm];rfl
     ·exact tR q1
 ·obtain⟨E2,q1,q2⟩:=pvC 0 hE (q2p.c1_out b (b+1) (b+2) t.scs.length _ _ t.scs.length g) ⟨ltF (by simp),trivial⟩
  rw[List.take_length] at I
  exact⟨E2,_,⟨σi,tR q1,I,hk⟩,q2⟩
 ·rw[h0];exact I
end
end Go.Proofs.Ytahomnlkkafbjaa.rf
namespace Go.Proofs.Ytahomnlkkafbjaa.rf
open Go Go.Ev Go.Proofs.Ytahomnlkkafbjaa.tr
section
variable {h h' g G:Hp} {σ σ':RLay} {t:TS} {c k:Nat}
theorem rl_ones(i:Nat)(x:Tk):(rl i x).all Value.oneCell'=true:=rfl
theorem copied_run(a:RAt h σ t)(ok:TOk c t)(hc:c<=1000000)(hne:0<t.tks.length) :
  ∃ σ' h',Run Try.prog 79 [.agg (rT σ t).toArray] h (.agg (rT σ' t).toArray) h'/\Grow h h'/\RAt h' σ' t/\New h.length σ':=by
 have n64:=ok.n64
 obtain⟨m,hm⟩:∃ m,t.tks.length=m+1:=⟨t.tks.length-1,by omega⟩
 obtain⟨x0,hx0⟩:∃ x,t.tks[0]?=some x:=⟨_,List.getElem?_eq_getElem hne⟩
 obtain⟨o3,ho3⟩:=a.lfO hx0
 have K1:Grow h (h++[AObj.cells (rT σ t) true]++[.cells zz true]++[.cells zz true]):=((boxT _ _).push _).push _
 have I0:CpI h (rT σ t) h.length (h++[AObj.cells (rT σ t) true]++[.cells zz true]++[.cells zz true]) (fun _=>none) [] [] zz :=
  ⟨K1,gP (gP (gW _ _)),gP (gV _ (pL _ _)),gV _ (by simp),⟨⟨fun _=>rfl,fun _=>rfl,fun _=>rfl,fun k x hx=>(by simp at hx),fun k x hx=>(by simp at hx),fun _ _=>rfl,fun _ _=>rfl⟩,fun r r' i e=>(by cases e),fun r i e=>(by cases e)⟩,fun r i e=>(by cases e),rfl⟩
 obtain⟨E1,g1,⟨σ1,he1,I1,hs1⟩,hl1⟩:=cp_loop0 a ok hc rfl (.refl _) I0 rfl
 obtain⟨E2,g2,⟨σ2,he2,I2,hk⟩,hl2⟩:=cp_loop1 a ok hc rfl (.refl _) I1 hs1
 obtain⟨jl,hlf0⟩:=a.obj _ _ ho3
 have hlf:=I2.kp.get hlf0
 have gb:=I2.gb
 have gc:=I2.gc
 have gd:=I2.gd
 have hgd:=get_lt gd
 have AL:(Asm.appNil (.is g2) o3 0 t.tks.length m 2 24 (fl rl 0 t.tks) g2.length).holds Try.prog:=by
  rw[hm]
  exact a_appNJ hlf (by rw[fl_len rl_len,hm]) (rows_ones rl_ones) (by omega) (by omega) rfl
 have a3:=I2.at_.rowL (Grow.refl g2) (lfs':=t.tks) rfl
 rw[I2.lfn] at a3
 have N3:New (h.length+3) (putO σ2 .lf (some g2.length)):=I2.new.put fun p e=>by cases e;omega
 have hR:rT (putO σ2 .lf (some g2.length)) t=[slz (σ2 .ts) t.tks.length 6,slz (σ2 .ss) t.scs.length 6,.slice (some ⟨g2.length,0,none⟩) t.tks.length 2]:=by
  rw[rT,putO_1,pO (by simp),pO (by simp)];rfl
 have out:∀ q,q<h.length+3->¬ fpR (putO σ2 .lf (some g2.length)) q:=fun q hq=>N3.out hq
 refine⟨putO σ2 .lf (some g2.length),((g2++[AObj.cells (fl rl 0 t.tks) true]).set (h.length+2) (.cells (rT (putO σ2 .lf (some g2.length)) t) true)).set (h.length+1) (.cells (rT (putO σ2 .lf (some g2.length)) t) true),?_,?_,?_,N3.mono (by omega)⟩
 ·rw[hR]
  rw[hk] at *
  simp only[rT,ho3] at I0 hl1 hl2 gb ⊢
  exact pvF 0 Try.func79 (q2p.cp (sA (σ .ts)) (sA (σ .ss)) (sA (σ1 .ts)) (sA (σ2 .ss)) t.tks.length t.scs.length (sZ (σ .ts) 6) (sZ (σ .ss) 6) t.tks.length t.scs.length (sZ (σ1 .ts) 6) (sZ (σ2 .ss) 6) o3 t.tks.length h.length (h.length+1) (h.length+2) g2.length m [] (fl rl 0 t.tks) h g1 g2)
   ⟨rfl,pL _ _,by simp[Asm.holds,SH.den],aL (gP (gP (gW _ _))) rfl,
    a_loop (by kernel_rfl) (.add (.add (.add (.add (.add (.add (.nil _) rfl) rfl) rfl) rfl) rfl) rfl) he1 hl1,
    aL I1.gb rfl,
    a_loop (by kernel_rfl) (.add (.add (.add (.add (.add (.add (.nil _) rfl) rfl) rfl) rfl) rfl) rfl) he2 hl2,
    aL gd rfl,aL gb rfl,AL,a_st (gP gd) (by simp) rfl,aN (gE (gP gd)) (by simp) rfl,a_st (gNq (gP gc) (by omega)) (by simp) rfl,aN (gE (gNq (gP gc) (by omega))) (by simp) rfl,trivial⟩
 ·exact Grow.set (Grow.set (Grow.push I2.kp _) (by omega) _) (by omega) _
 ·refine RAtL.keep (fp:=fun q=>q=h.length+2\/q=h.length+1) a3 ?_ fun q e=>?_
  ·exact (Keep.set (.inl rfl) _).trans (Keep.set (.inr rfl) _)
  ·rcases e with rfl | rfl
   ·exact out _ (by omega)
   ·exact out _ (by omega)
end
end Go.Proofs.Ytahomnlkkafbjaa.rf
namespace Go.Proofs.Ytahomnlkkafbjaa.rf
open Go Go.Ev Go.Proofs.Ytahomnlkkafbjaa.tr
theorem agg76:aggSize Try.prog 76=some none:=by kernel_rfl
theorem agg77:aggSize Try.prog 77=some none:=by kernel_rfl
theorem stat76:(Asm.stat (drawN Try.f76 0)).holds Try.prog:=show statOk (drawN Try.f76 0)=true by kernel_rfl
theorem stat83:(Asm.stat (drawN Try.f83 0)).holds Try.prog:=show statOk (drawN Try.f83 0)=true by kernel_rfl
theorem stat77_0:(Asm.stat (drawN Try.f77 0)).holds Try.prog:=show statOk (drawN Try.f77 0)=true by kernel_rfl
theorem stat77_1:(Asm.stat (drawN Try.f77 1)).holds Try.prog:=show statOk (drawN Try.f77 1)=true by kernel_rfl
theorem modify_set{α:Type}{l:List α}{k:Nat}{x:α}(f:α->α)(h:l[k]?=some x):l.modify k f=l.set k (f x):=by
 apply List.ext_getElem?
 intro j
 rw[List.getElem?_modify,List.getElem?_set]
 by_cases e:k=j
 ·subst e;rw[h];simp[gTq h]
 ·simp[e]
section
variable {h h' g G:Hp} {σ σ':RLay} {t:TS} {c k:Nat} {tks lfs:List Tk} {scs:List Sc}
theorem RAtL.setN(a:RAtL h σ tks scs lfs){q:Nat}(n:¬ fpR σ q)(o:AObj):RAtL (h.set q o) σ tks scs lfs:=a.keep (Keep.set (fp:=fun i=>i=q) rfl _) fun i e=>by rw[e];exact n
structure Res(h:Hp)(h':Hp)(σ':RLay)(t':TS):Prop where
 grow:Grow h h'
 at_:RAt h' σ' t'
 new:New h.length σ'
theorem rl_same{x x':Tk}(h1:x'.lv=x.lv)(h2:x'.fk=x.fk)(h3:x'.ft=x.ft)(i:Nat):rl i x'=rl i x:=by simp[rl,lfK,lfT,h1,h2,h3]
theorem RAtL.sayT(a:RAtL h σ tks scs lfs){x x':Tk}(hx:lfs[k]?=some x)(e:∀ i,rl i x'=rl i x):RAtL h σ tks scs (lfs.set k x'):=by
 refine a.sayL (by simp) fun j y y' hy hy'=>?_
 rcases set_get hy' with⟨rfl,rfl⟩ | ⟨_,hy'⟩
 ·rw[hx] at hy;cases hy;exact e _
 ·rw[hy] at hy';cases hy';rfl
def addL(v:Option Nat)(x:Tk):Tk:={ x with opn:=x.opn++[v] }
theorem copied_run'(a:RAt h σ t)(ok:TOk c t)(hc:c<=1000000)(hne:0<t.tks.length) :
  ∃ o l σ' h',σ' .ts=some o/\σ' .lf=some l/\Run Try.prog 79 [.agg (rT σ t).toArray] h (.agg (rV (some o) (σ' .ss) (some l) t.tks.length t.scs.length).toArray) h'/\Grow h h'/\RAt h' σ' t/\New h.length σ':=by
 obtain⟨σ',h',r,K,a',N⟩:=copied_run a ok hc hne
 obtain⟨x0,hx0⟩:∃ x,t.tks[0]?=some x:=⟨_,List.getElem?_eq_getElem hne⟩
 obtain⟨o,ho⟩:=a'.tsO hx0
 obtain⟨l,hl⟩:=a'.lfO hx0
 refine⟨o,l,σ',h',ho,hl,?_,K,a',N⟩
 rw[<- ho,<- hl]
 exact r
theorem linked_run(a:RAt h σ t)(ok:TOk c t)(hc:c<=100000){x:Tk}(hx:t.tks[k]?=some x)(v:Option Nat) :
  ∃ σ' h',Run Try.prog 76 [.agg (rT σ t).toArray,iV ((k+1:Nat):Int),.agg #[iV (lkK v),iV (lkN v)]] h (.agg (rT σ' (t.upT k (addL v))).toArray) h'/\Res h h' σ' (t.upT k (addL v)):=by
 have n64:=ok.n64
 have hln:=ok.len k x hx
 have hk:=gTq hx
 have hne:0<t.tks.length:=by omega
 have K1:Grow h (h++[AObj.cells (rT σ t) true]++[AObj.cells [iV (lkK v),iV (lkN v)] true]++[AObj.cells zz true]):=((boxT _ _).push _).push _
 have l1:(h++[AObj.cells (rT σ t) true]++[AObj.cells [iV (lkK v),iV (lkN v)] true]++[AObj.cells zz true]).length=h.length+3:=by simp
 obtain⟨o,lf,σ1,g1,ho,hlf,r1,Kg,a1,N1⟩:=copied_run' (a.grow K1) ok (by omega) hne
 obtain⟨R,hR⟩:∃ R,R=rV (some o) (σ1 .ss) (some lf) t.tks.length t.scs.length:=⟨_,rfl⟩
 rw[l1] at N1
 have gl:=Kg.1
 rw[l1] at gl
 have b1:g1[h.length]?=some (.cells (rT σ t) true):=Kg.get (gP (gP (gW _ _)))
 have b2:g1[h.length+1]?=some (.cells [iV (lkK v),iV (lkN v)] true):=Kg.get (gP (gV _ (pL _ _)))
 have b3:g1[h.length+2]?=some (.cells zz true):=Kg.get (gV _ (by simp))
 have out:∀ q,q<h.length+3->¬ fpR σ1 q:=fun q hq=>N1.out hq
 have a2:RAtL (g1.set h.length (.cells R true)) σ1 t.tks t.scs t.tks:=a1.setN (out _ (by omega)) _
 have a3:=a2.push (.cells [iV (lkK v),iV (lkN v)] true)
 have K3:Grow h (g1.set h.length (.cells R true)++[AObj.cells [iV (lkK v),iV (lkN v)] true]):=Grow.push (Grow.set (Grow.trans K1 Kg) (Nat.le_refl _) _) _
 obtain⟨c1,S,a4⟩:=a3.growOp ho hx v (cs:=lkL x.opn++[iV (lkK v),iV (lkN v)]) (by rw[lkL_app];simp[lkL,lkC_eq])
 rw[pL,sN] at S a4
 have e1:(t.upT k (addL v)).tks=t.tks.set k { x with opn:=x.opn++[v] }:=modify_set _ hx
 have len':(t.upT k (addL v)).tks.length=t.tks.length:=by rw[e1,List.length_set]
 have a5:RAt ((gApp (g1.set h.length (AObj.cells R true)++[AObj.cells [Value.int IntKind.i64 (lkK v),Value.int IntKind.i64 (lkN v)] true]) (σ1 (.op k)) (lkL x.opn++[iV (lkK v),iV (lkN v)])).set o (.cells c1 true)) (putO σ1 (.op k) (some (g1.length+1))) (t.upT k (addL v)):=by
  show RAtL _ _ _ _ _
  rw[e1]
  exact a4.sayT (x':={ x with opn:=x.opn++[v] }) hx (rl_same rfl rfl rfl)
 have N5:New (h.length+3) (putO σ1 (.op k) (some (g1.length+1))):=N1.put fun p e=>by cases e;omega
 have hT:rT (putO σ1 (.op k) (some (g1.length+1))) (t.upT k (addL v))=R:=by rw[hR,rT,len',pO (by simp),pO (by simp),pO (by simp),ho,hlf];rfl
 have gA:∀ cs,Grow h (gApp (g1.set h.length (AObj.cells R true)++[AObj.cells [Value.int IntKind.i64 (lkK v),Value.int IntKind.i64 (lkN v)] true]) (σ1 (.op k)) cs):=fun cs=>Grow.gApp K3 fun w e=>by have:=N1 _ _ e;omega
 have oo:=N1 _ _ ho
 refine⟨putO σ1 (.op k) (some (g1.length+1)),_,?_,Grow.set (Grow.set (gA _) (by omega) _) (by omega) _,a5.setN (q:=h.length+2) (N5.out (by omega)) (.cells R true),N5.mono (by omega)⟩
 rw[hT]
 have hb9:(g1.set h.length (AObj.cells R true))[h.length]?=some (.cells R true):=gE b1
 have hb11:(g1.set h.length (AObj.cells R true)++[AObj.cells [Value.int IntKind.i64 (lkK v),Value.int IntKind.i64 (lkN v)] true])[h.length]?=some (.cells R true):=gP hb9
 have SB:(Asm.arith .sub .i64 ((k+1:Nat):Int) 1 (k:Int)).holds Try.prog:=subI (by omega) (by omega) (by omega)
 have OF:(Asm.off (k*6) 0 (k:Int) t.tks.length 6).holds Try.prog:=offI (q:=k) rfl hk (by omega)
 have RF:(Asm.refl (iV (k:Int))).holds Try.prog:=by simp[Asm.holds,veq]
 have C2:=a2.tsC ho hx (d:=5) (P:=Try.prog) (s:=.set (.is g1) h.length (.cells R true)) (v:=slz (σ1 (.op k)) x.opn.length 2) rfl (.refl _)
 cases hop:σ1 (.op k) with
 | none =>
  have e0:=a1.sh.op k x hx hop
  rw[hop] at C2 S
  simp only[e0,lkL,List.nil_append,List.length_nil,sA,sZ] at C2 S ⊢
  have hb12:=gP (x:=.cells [iV (lkK v),iV (lkN v)] true) hb11
  have hb3:=gNq (x:=.cells c1 true) (gP (x:=.cells [iV (lkK v),iV (lkN v)] true) (gP (x:=.cells [iV (lkK v),iV (lkN v)] true) (gNq (x:=.cells R true) b3 (show h.length≠h.length+2 by omega)))) (show o≠h.length+2 by omega)
  have hb13:=gNq (x:=.cells c1 true) hb12 (show o≠h.length by omega)
  subst hR
  exact pvF 0 Try.func76 (q2p.li_n (sA (σ .ts)) (sA (σ .ss)) (sA (σ .lf)) t.tks.length t.scs.length t.tks.length (sZ (σ .ts) 6) (sZ (σ .ss) 6) (sZ (σ .lf) 2) (sA (σ1 .ss)) (some ⟨lf,0,none⟩) t.scs.length t.tks.length (sZ (σ1 .ss) 6) 2 o t.tks.length h.length (h.length+1) (h.length+2) (k*6) 0 0 g1.length (g1.length+1) _ k (lkK v) (lkN v) [] [iV (lkK v),iV (lkN v)] c1 h g1)
   ⟨rfl,pL _ _,by simp[Asm.holds,SH.den],aN (gP (gP (gW _ _))) (by simp[rT]) rfl,r1,a_st b1 (by simp[rT]) rfl,stat76,a_again1 agg76 hb9 rfl rfl,a_again1 agg76 hb11 rfl rfl,a_again1 agg76 hb12 rfl rfl,SB,RF,aL hb9 rfl,SB,aL hb9 rfl,SB,OF,C2,aN (gNq b2 (by omega)) (by simp) rfl,sN _ _ _,
    a_appGN rfl rfl (by omega) (gV _ (sN _ _ _)) (by simp[SH.den]),OF,S _ _ rfl,aN hb13 (by simp) rfl,a_st hb3 (by simp) rfl,aN (gE hb3) (by simp) rfl,trivial⟩
 | some p =>
  rw[hop] at C2 S
  have hp3:=N1 _ _ hop
  obtain⟨jp,hpo⟩:=a3.obj _ _ hop
  rw[rcont_op hx] at hpo
  have hb12:=gP (x:=.cells (lkL x.opn++[iV (lkK v),iV (lkN v)]) true) (gNq (x:=.dead) hb11 (show p≠h.length by omega))
  have hb3:=gNq (x:=.cells c1 true) (gP (x:=.cells (lkL x.opn++[iV (lkK v),iV (lkN v)]) true) (gNq (x:=.dead) (gP (x:=.cells [iV (lkK v),iV (lkN v)] true) (gNq (x:=.cells R true) b3 (show h.length≠h.length+2 by omega))) (show p≠h.length+2 by omega))) (show o≠h.length+2 by omega)
  have hb13:=gNq (x:=.cells c1 true) hb12 (show o≠h.length by omega)
  subst hR
  exact pvF 0 Try.func76 (q2p.li_s (sA (σ .ts)) (sA (σ .ss)) (sA (σ .lf)) t.tks.length t.scs.length t.tks.length (sZ (σ .ts) 6) (sZ (σ .ss) 6) (sZ (σ .lf) 2) (sA (σ1 .ss)) (some ⟨lf,0,none⟩) t.scs.length t.tks.length (sZ (σ1 .ss) 6) 2 o t.tks.length h.length (h.length+1) (h.length+2) (k*6) p x.opn.length g1.length (g1.length+1) _ k (lkK v) (lkN v) (lkL x.opn++[iV (lkK v),iV (lkN v)]) [iV (lkK v),iV (lkN v)] c1 h g1)
   ⟨rfl,pL _ _,by simp[Asm.holds,SH.den],aN (gP (gP (gW _ _))) (by simp[rT]) rfl,r1,a_st b1 (by simp[rT]) rfl,stat76,a_again1 agg76 hb9 rfl rfl,a_again1 agg76 hb11 rfl rfl,a_again1 agg76 hb12 rfl rfl,SB,RF,aL hb9 rfl,SB,aL hb9 rfl,SB,OF,C2,aN (gNq b2 (by omega)) (by simp) rfl,sN _ _ _,
    a_appSJ (m:=0) (junk2:=[]) hpo (by rw[lkL_len]) (gV _ (sN _ _ _)) rfl rfl (by omega) (by omega) (by omega) (by simp[SH.den]),OF,S _ _ rfl,aN hb13 (by simp) rfl,a_st hb3 (by simp) rfl,aN (gE hb3) (by simp) rfl,trivial⟩
def cutL(x:Tk):Tk:={ x with opn:=x.opn.dropLast }
theorem unlinked_run(a:RAt h σ t)(ok:TOk c t)(hc:c<=100000){x:Tk}(hx:t.tks[k]?=some x)(hp:x.opn≠[]) :
  ∃ σ' h',Run Try.prog 83 [.agg (rT σ t).toArray,iV ((k+1:Nat):Int)] h (.agg (rT σ' (t.upT k cutL)).toArray) h'/\Res h h' σ' (t.upT k cutL):=by
 have n64:=ok.n64
 have hln:=ok.len k x hx
 have hk:=gTq hx
 have hne:0<t.tks.length:=by omega
 have hpl:0<x.opn.length:=List.length_pos_iff.2 hp
 have K1:Grow h (h++[AObj.cells (rT σ t) true]++[AObj.cells zz true]):=(boxT _ _).push _
 have l1:(h++[AObj.cells (rT σ t) true]++[AObj.cells zz true]).length=h.length+2:=by simp
 obtain⟨o,lf,σ1,g1,ho,hlf,r1,Kg,a1,N1⟩:=copied_run' (a.grow K1) ok (by omega) hne
 obtain⟨R,hR⟩:∃ R,R=rV (some o) (σ1 .ss) (some lf) t.tks.length t.scs.length:=⟨_,rfl⟩
 rw[l1] at N1
 have b1:g1[h.length]?=some (.cells (rT σ t) true):=Kg.get (gP (gW _ _))
 have b2:g1[h.length+1]?=some (.cells zz true):=Kg.get (gV _ (pL _ _))
 have out:∀ q,q<h.length+2->¬ fpR σ1 q:=fun q hq=>N1.out hq
 have a2:RAtL (g1.set h.length (.cells R true)) σ1 t.tks t.scs t.tks:=a1.setN (out _ (by omega)) _
 obtain⟨p,hop⟩:=a1.opO hx hpl
 have C2:=a2.tsC ho hx (d:=5) (P:=Try.prog) (s:=.set (.is g1) h.length (.cells R true)) (v:=.slice (some ⟨p,0,none⟩) x.opn.length 2) (by simp[rk,TkV.C,hop,sA,sZ]) (.refl _)
 obtain⟨c1,S,a4⟩:=a2.wT (l:=[.slice (some ⟨p,0,none⟩) (x.opn.length-1) 2]) (d:=5) (x':=cutL x) ho hx (by simp) (by simp[rk,TkV.C,hop,sA,sZ,tkV,cutL];exact⟨rfl,rfl⟩) ⟨[x.opn.getLast hp],(List.dropLast_concat_getLast hp).symm⟩
 have e1:(t.upT k cutL).tks=t.tks.set k (cutL x):=modify_set _ hx
 have len':(t.upT k cutL).tks.length=t.tks.length:=by rw[e1,List.length_set]
 have a5:RAt ((g1.set h.length (.cells R true)).set o (.cells c1 true)) σ1 (t.upT k cutL):=by
  show RAtL _ _ _ _ _
  rw[e1]
  exact a4.sayT (x':=cutL x) hx (rl_same rfl rfl rfl)
 have hT:rT σ1 (t.upT k cutL)=R:=by rw[hR,rT,len',ho,hlf];rfl
 have oo:=N1 _ _ ho
 refine⟨σ1,_,?_,Grow.set (Grow.set (Grow.set (Grow.trans K1 Kg) (Nat.le_refl _) (.cells R true)) (q:=o) (by omega) (.cells c1 true)) (q:=h.length+1) (by omega) (.cells R true),a5.setN (q:=h.length+1) (out _ (by omega)) (.cells R true),N1.mono (by omega)⟩
 rw[hT]
 have hb8:(g1.set h.length (AObj.cells R true))[h.length]?=some (.cells R true):=gE b1
 have hb9:((g1.set h.length (AObj.cells R true)).set o (.cells c1 true))[h.length]?=some (.cells R true):=gNq hb8 (by omega)
 have hc9:((g1.set h.length (AObj.cells R true)).set o (.cells c1 true))[h.length+1]?=some (.cells zz true):=gNq (gNq b2 (by omega)) (by omega)
 have SB:(Asm.arith .sub .i64 ((k+1:Nat):Int) 1 (k:Int)).holds Try.prog:=subI (by omega) (by omega) (by omega)
 have OF:(Asm.off (k*6) 0 (k:Int) t.tks.length 6).holds Try.prog:=offI (q:=k) rfl hk (by omega)
 subst hR
 exact pvF 0 Try.func83 (q2p.ul (sA (σ .ts)) (sA (σ .ss)) (sA (σ .lf)) t.tks.length t.scs.length t.tks.length (sZ (σ .ts) 6) (sZ (σ .ss) 6) (sZ (σ .lf) 2) (sA (σ1 .ss)) (some ⟨lf,0,none⟩) t.scs.length t.tks.length (sZ (σ1 .ss) 6) 2 o t.tks.length h.length (h.length+1) (k*6) p x.opn.length (x.opn.length-1) _ k (Int.ofNat (x.opn.length-1)) c1 h g1)
  ⟨rfl,pL _ _,aN (gP (gW _ _)) (by simp[rT]) rfl,r1,a_st b1 (by simp[rT]) rfl,aL hb8 rfl,SB,OF,C2,stat83,aL hb8 rfl,SB,subI (by simp only[Int.ofNat_eq_natCast];omega) (by simp only[Int.ofNat_eq_natCast];omega) (by simp only[Int.ofNat_eq_natCast];omega),a_cut (by omega),OF,S _ _ rfl,aN hb9 (by simp) rfl,a_st hc9 (by simp) rfl,aN (gE hc9) (by simp) rfl,trivial⟩
structure Nxt(h:Hp)(σ:RLay)(h':Hp)(σ':RLay)(t':TS):Prop where
 grow:Grow h h'
 at_:RAt h' σ' t'
 nxt:∀ i,fpR σ' i->fpR σ i\/h.length<=i
theorem Res.nxt{t':TS}(r:Res h h' σ' t'):Nxt h σ h' σ' t':=⟨r.grow,r.at_,fun i ⟨q,e⟩=>.inr (r.new q i e)⟩
theorem Nxt.same(a:RAt h σ t)(K:Grow h h'):Nxt h σ h' σ t:=⟨K,a.grow K,fun i e=>.inl e⟩
def taskG(t:TS)(inn:Option Nat):TS×Int×Int:=if 64<=t.tks.length then (t,0,5) else (t.add inn,((t.tks.length+1:Nat):Int),0)
theorem addT_tks{inn:Option Nat}:(t.add inn).tks=t.tks++[Tk0 inn]:=by cases inn<;>rfl
theorem addT_scs{s:Nat}{y:Sc}(hy:t.scs[s]?=some y):(t.add (some s)).scs=t.scs.set s { y with tks:=y.tks++[t.tks.length],live:=y.live+1 }:=by
 show (t.scs.modify s _).modify s _=_
 rw[modify_set _ hy,modify_set _ (List.getElem?_set_self (gTq hy)),List.set_set]
theorem taskR_run(a:RAt h σ t)(ok:TOk c t)(hc:c<=100000)(hne:0<t.tks.length)(inn:Option Nat)(hin:∀ s,inn=some s->s<t.scs.length) :
  ∃ σ' h',Run Try.prog 77 [.agg (rT σ t).toArray,iV (lkN inn)] h (.tuple #[.agg (rT σ' (taskG t inn).1).toArray,iV (taskG t inn).2.1,iV (taskG t inn).2.2]) h'/\Nxt h σ h' σ' (taskG t inn).1:=by
 have n64:=ok.n64
 have n200:=ok.n200
 have K1:Grow h (h++[AObj.cells (rT σ t) true]++[AObj.cells zz true]):=(boxT _ _).push _
 have l1:(h++[AObj.cells (rT σ t) true]++[AObj.cells zz true]).length=h.length+2:=by simp
 by_cases hf:64<=t.tks.length
 ·simp only[taskG,if_pos hf]
  have hc2:(h++[AObj.cells (rT σ t) true]++[AObj.cells zz true])[h.length+1]?=some (.cells zz true):=gV _ (pL _ _)
  exact⟨σ,_,pvF 0 Try.func77 (q2p.ta_full (sA (σ .ts)) (sA (σ .ss)) (sA (σ .lf)) t.tks.length t.scs.length t.tks.length (sZ (σ .ts) 6) (sZ (σ .ss) 6) (sZ (σ .lf) 2) h.length (h.length+1) _ h)
   ⟨rfl,pL _ _,aL (gP (gW _ _)) rfl,geT (by simp only[Int.ofNat_eq_natCast];omega),aN (gP (gW _ _)) (by simp[rT]) rfl,a_st hc2 (by simp) rfl,aN (gE hc2) (by simp) rfl,trivial⟩,Nxt.same a (Grow.set K1 (by omega) _)⟩
 simp only[taskG,if_neg hf]
 obtain⟨o,lf,σ1,g1,ho,hlf,r1,Kg,a1,N1⟩:=copied_run' (a.grow K1) ok (by omega) hne
 obtain⟨R,hR⟩:∃ R,R=rV (some o) (σ1 .ss) (some lf) t.tks.length t.scs.length:=⟨_,rfl⟩
 obtain⟨R2,hR2⟩:∃ R,R=[slz (some (g1.length+1)) (t.tks.length+1) 6,slz (σ1 .ss) t.scs.length 6,slz (some lf) t.tks.length 2]:=⟨_,rfl⟩
 obtain⟨R3,hR3⟩:∃ R,R=rV (some (g1.length+1)) (σ1 .ss) (some (g1.length+3)) (t.tks.length+1) t.scs.length:=⟨_,rfl⟩
 obtain⟨row,hrow⟩:∃ r,r=[iV (lkN inn),.bool false,.bool false,iV 0,.string ⟨#[]⟩,.slice none 0 0]:=⟨_,rfl⟩
 obtain⟨zf,hzf⟩:∃ r,r=[iV 0,.string ⟨#[]⟩]:=⟨_,rfl⟩
 rw[l1] at N1
 have b1:g1[h.length]?=some (.cells (rT σ t) true):=Kg.get (gP (gW _ _))
 have b2:g1[h.length+1]?=some (.cells zz true):=Kg.get (gV _ (pL _ _))
 have gl:h.length+2<=g1.length:=by have:=Kg.1;omega
 have oo:=N1 _ _ ho
 have ol:=N1 _ _ hlf
 have out:∀ q,q<h.length+2->¬ fpR σ1 q:=fun q hq=>N1.out hq
 have a2:=(a1.setN (out h.length (by omega)) (.cells R true)).push (.cells row true)
 obtain⟨jt,hto⟩:=a2.obj _ _ ho
 have a3:=a2.rowT (Grow.refl _) (Tk0 inn) none (fun _=>rfl) (fun p e=>by cases e)
 have hrw:(tkV (Tk0 inn)).C (slz none (Tk0 inn).opn.length 2)=row:=by rw[hrow];rfl
 rw[hrw,ho,pL,sN] at a3
 simp only[gApp] at a3
 obtain⟨σ2,hσ2⟩:∃ σ2,σ2=putO (putO σ1 (.op t.tks.length) none) .ts (some (g1.length+1)):=⟨_,rfl⟩
 rw[<- hσ2] at a3
 have N2:New (h.length+2) σ2:=by
  rw[hσ2]
  exact (N1.put (r:=.op t.tks.length) (q:=none) fun p e=>by cases e).put fun p e=>by cases e;omega
 have s2s:σ2 .ss=σ1 .ss:=by rw[hσ2,pO (by simp),pO (by simp)]
 have s2l:σ2 .lf=some lf:=by rw[hσ2,pO (by simp),pO (by simp)];exact hlf
 have s2t:σ2 .ts=some (g1.length+1):=by rw[hσ2,putO_1]
 have a4:=(a3.setN (N2.out (by omega:h.length<h.length+2)) (.cells R2 true)).push (.cells zf true)
 obtain⟨jl,hlo⟩:=a4.obj _ _ s2l
 have a5:=a4.rowL (Grow.refl _) (lfs':=t.tks++[Tk0 inn]) (cs:=fl rl 0 t.tks++zf) (by rw[fl_app,hzf];rfl)
 rw[s2l] at a5
 simp only[gApp] at a5
 have hlen5:(List.set ((List.set (List.set g1 h.length (.cells R true)++[AObj.cells row true]) o AObj.dead)++[AObj.cells (fl (rk σ1) 0 t.tks++row) true]) h.length (.cells R2 true)++[AObj.cells zf true]).length=g1.length+3:=by simp
 rw[hlen5] at a5
 obtain⟨σ3,hσ3⟩:∃ σ3,σ3=putO σ2 .lf (some (g1.length+3)):=⟨_,rfl⟩
 rw[<- hσ3] at a5
 have N3:New (h.length+2) σ3:=by
  rw[hσ3]
  exact N2.put fun p e=>by cases e;omega
 have s3t:σ3 .ts=some (g1.length+1):=by rw[hσ3,pO (by simp)];exact s2t
 have s3s:σ3 .ss=σ1 .ss:=by rw[hσ3,pO (by simp)];exact s2s
 have s3l:σ3 .lf=some (g1.length+3):=by rw[hσ3,putO_1]
 have a6:=a5.setN (N3.out (by omega:h.length<h.length+2)) (.cells R3 true)
 have q0:(g1.set h.length (AObj.cells R true))[h.length]?=some (.cells R true):=gE b1
 have q1:(g1.set h.length (AObj.cells R true))[h.length+1]?=some (.cells zz true):=gNq b2 (by omega)
 have p0:=gP (x:=.cells (fl (rk σ1) 0 t.tks++row) true) (gNq (x:=.dead) (gP (x:=.cells row true) q0) (show o≠h.length by omega))
 have p1:=gP (x:=.cells (fl (rk σ1) 0 t.tks++row) true) (gNq (x:=.dead) (gP (x:=.cells row true) q1) (show o≠h.length+1 by omega))
 have p0':=gE (x:=.cells R2 true) p0
 have p1':=gNq (x:=.cells R2 true) p1 (show h.length≠h.length+1 by omega)
 have r0:=gP (x:=.cells (fl rl 0 t.tks++zf) true) (gNq (x:=.dead) (gP (x:=.cells zf true) p0') (show lf≠h.length by omega))
 have r1':=gP (x:=.cells (fl rl 0 t.tks++zf) true) (gNq (x:=.dead) (gP (x:=.cells zf true) p1') (show lf≠h.length+1 by omega))
 have r0':=gE (x:=.cells R3 true) r0
 have r1'':=gNq (x:=.cells R3 true) r1' (show h.length≠h.length+1 by omega)
 have K6:Grow h (List.set (List.set (List.set ((List.set (List.set g1 h.length (.cells R true)++[AObj.cells row true]) o AObj.dead)++[AObj.cells (fl (rk σ1) 0 t.tks++row) true]) h.length (.cells R2 true)++[AObj.cells zf true]) lf AObj.dead++[AObj.cells (fl rl 0 t.tks++zf) true]) h.length (.cells R3 true)) :=
  Grow.set (Grow.push (Grow.set (Grow.push (Grow.set (Grow.push (Grow.set (Grow.push (Grow.set (Grow.trans K1 Kg) (Nat.le_refl _) _) _) (by omega) _) _) (Nat.le_refl _) _) _) (by omega) _) _) (Nat.le_refl _) _
 have etk:(t.add inn).tks=t.tks++[Tk0 inn]:=addT_tks
 have hcmp:(Asm.cmp .geq (Int.ofNat t.tks.length) 64 false).holds Try.prog:=geF (by simp only[Int.ofNat_eq_natCast];omega)
 have A1:(Asm.app (.push (.set (.is g1) h.length (.cells R true)) (.cells row true)) o 0 t.tks.length g1.length 0 1 0 6 64 (fl (rk σ1) 0 t.tks++row) row (g1.length+1)).holds Try.prog :=
  a_appSJ (m:=0) (junk2:=[]) hto (by rw[fl_len (rk_len σ1)]) (by rw[List.append_nil];exact gV _ (sN _ _ _)) (by rw[hrow];rfl) (by rw[hrow];rfl) (by omega) (by omega) (by omega) (by simp[SH.den])
 have A2:(Asm.app (.push (.set (.push (.set (.push (.set (.is g1) h.length (.cells R true)) (.cells row true)) o .dead) (.cells (fl (rk σ1) 0 t.tks++row) true)) h.length (.cells R2 true)) (.cells zf true)) lf 0 t.tks.length (g1.length+2) 0 1 0 2 24 (fl rl 0 t.tks++zf) zf (g1.length+3)).holds Try.prog :=
  a_appSJ (m:=0) (junk2:=[]) hlo (by rw[fl_len rl_len]) (by rw[List.append_nil];exact gV _ (by simp[SH.den])) (by rw[hzf];rfl) (by rw[hzf];rfl) (by omega) (by omega) (by omega) (by simp[SH.den])
 cases inn with
 | none =>
  have len':(t.add none).tks.length=t.tks.length+1:=by rw[etk];simp
  have hT:rT σ3 (t.add none)=R3:=by rw[hR3,rT,len',s3t,s3s,s3l];rfl
  refine⟨σ3,_,?_,Grow.set K6 (q:=h.length+1) (by omega) (.cells R3 true),?_,fun i ⟨r,e⟩=>.inr (by have:=N3 r i e;omega)⟩
  ·rw[hT]
   subst hR hR2 hR3 hrow hzf
   exact pvF 0 Try.func77 (q2p.ta_root (sA (σ .ts)) (sA (σ .ss)) (sA (σ .lf)) t.tks.length t.scs.length t.tks.length (sZ (σ .ts) 6) (sZ (σ .ss) 6) (sZ (σ .lf) 2) (sA (σ1 .ss)) t.scs.length (sZ (σ1 .ss) 6) h.length (h.length+1) o t.tks.length lf t.tks.length 0 0 g1.length (g1.length+2) (g1.length+1) (g1.length+3) 0 0 0 0 0 (lkN none) 0 _ _ _ _ [] [] [] h g1)
    ⟨rfl,pL _ _,aL (gP (gW _ _)) rfl,hcmp,aN (gP (gW _ _)) (by simp[rT]) rfl,r1,a_st b1 (by simp[rT]) rfl,aL q0 rfl,sN _ _ _,A1,a_st p0 (by simp) rfl,aL p0' rfl,by simp[Asm.holds,SH.den],A2,a_st r0 (by simp) rfl,gtF (by simp[lkN]),stat77_1,a_again1 agg76 r0' rfl rfl,a_again1 agg76 r0' rfl rfl,a_again1 agg76 (gNq r0' (by omega)) rfl rfl,aN r0' (by simp) rfl,aL r0' rfl,a_st r1'' (by simp) rfl,aN (gE r1'') (by simp) rfl,trivial⟩
  ·show RAtL _ _ _ _ _
   rw[etk]
   exact a6.setN (N3.out (by omega)) _
 | some s =>
  obtain⟨y,hy⟩:∃ y,t.scs[s]?=some y:=⟨_,List.getElem?_eq_getElem (hin s rfl)⟩
  obtain⟨os,hos⟩:=a1.ssO hy
  have hsl:=gTq hy
  have hml:=ok.mlen s y hy
  have oss:=N1 _ _ hos
  rw[hos] at r1 hR hR2 hR3 s2s s3s
  have st3:σ3 (.st s)=σ1 (.st s):=by rw[hσ3,pO (by simp),hσ2,pO (by simp),pO (by simp)]
  have a7:=a6.push (.cells [iV ((t.tks.length+1:Nat):Int)] true)
  obtain⟨c1,S,a8⟩:=a7.growSt s3s hy t.tks.length (cs:=nmL y.tks++[iV ((t.tks.length+1:Nat):Int)]) (by simp[nmL]) (y.live+1)
  have hlen7:(List.set (List.set (List.set ((List.set (List.set g1 h.length (.cells R true)++[AObj.cells row true]) o AObj.dead)++[AObj.cells (fl (rk σ1) 0 t.tks++row) true]) h.length (.cells R2 true)++[AObj.cells zf true]) lf AObj.dead++[AObj.cells (fl rl 0 t.tks++zf) true]) h.length (.cells R3 true)++[AObj.cells [iV ((t.tks.length+1:Nat):Int)] true]).length=g1.length+5:=by simp
  rw[hlen7] at S a8
  rw[st3] at S a8
  obtain⟨σ4,hσ4⟩:∃ σ4,σ4=putO σ3 (.st s) (some (g1.length+5)):=⟨_,rfl⟩
  rw[<- hσ4] at a8
  have N4:New (h.length+2) σ4:=by
   rw[hσ4]
   exact N3.put fun p e=>by cases e;omega
  have len':(t.add (some s)).tks.length=t.tks.length+1:=by rw[etk];simp
  have lens:(t.add (some s)).scs.length=t.scs.length:=by rw[addT_scs hy];simp
  have hT:rT σ4 (t.add (some s))=R3:=by rw[hR3,rT,len',lens,hσ4,pO (by simp),pO (by simp),pO (by simp),s3t,s3s,s3l]
  have w0:=gP (x:=.cells [iV ((t.tks.length+1:Nat):Int)] true) r0'
  have w1:=gP (x:=.cells [iV ((t.tks.length+1:Nat):Int)] true) r1''
  have K7:=Grow.push K6 (.cells [iV ((t.tks.length+1:Nat):Int)] true)
  have SB:(Asm.arith .sub .i64 (lkN (some s)) 1 (s:Int)).holds Try.prog:=subI (by simp[lkN]) (by omega) (by omega)
  have OF:(Asm.off (s*6) 0 (s:Int) t.scs.length 6).holds Try.prog:=offI (q:=s) rfl hsl (by omega)
  have RF:(Asm.refl (iV (s:Int))).holds Try.prog:=by simp[Asm.holds,veq]
  have CF:∀ s':SH,s'.den=(List.set (List.set (List.set ((List.set (List.set g1 h.length (.cells R true)++[AObj.cells row true]) o AObj.dead)++[AObj.cells (fl (rk σ1) 0 t.tks++row) true]) h.length (.cells R2 true)++[AObj.cells zf true]) lf AObj.dead++[AObj.cells (fl rl 0 t.tks++zf) true]) h.length (.cells R3 true))->(Asm.ld1 s' os (s*6+3) (slz (σ3 (.st s)) y.tks.length 1)).holds Try.prog:=fun s' e=>a6.ssC s3s hy (d:=3) (P:=Try.prog) (s:=s') rfl (by rw[e];exact Grow.refl _)
  rw[st3] at CF
  refine⟨σ4,_,?_,Grow.set (Grow.set (Grow.gApp K7 (o:=σ1 (.st s)) (cs:=nmL y.tks++[iV ((t.tks.length+1:Nat):Int)]) fun w e=>by have:=N1 _ _ e;omega) (q:=os) (by omega) (.cells c1 true)) (q:=h.length+1) (by omega) (.cells R3 true),?_,fun i ⟨r,e⟩=>.inr (by have:=N4 r i e;omega)⟩
  ·rw[hT]
   cases hst:σ1 (.st s) with
   | none =>
    have e0:=a1.sh.st s y hy hst
    rw[hst] at S CF
    simp only[e0,nmL,List.map_nil,List.nil_append,List.length_nil,sA,sZ] at S CF ⊢
    have x0:=gP (x:=.cells [iV ((t.tks.length+1:Nat):Int)] true) w0
    have x1:=gP (x:=.cells [iV ((t.tks.length+1:Nat):Int)] true) w1
    have y0:=gNq (x:=.cells c1 true) x0 (show os≠h.length by omega)
    have y1:=gNq (x:=.cells c1 true) x1 (show os≠h.length+1 by omega)
    subst hR hR2 hR3 hrow hzf
    exact pvF 0 Try.func77 (q2p.ta_n (sA (σ .ts)) (sA (σ .ss)) (sA (σ .lf)) t.tks.length t.scs.length t.tks.length (sZ (σ .ts) 6) (sZ (σ .ss) 6) (sZ (σ .lf) 2) none 0 0 h.length (h.length+1) o t.tks.length lf t.tks.length os t.scs.length g1.length (g1.length+2) (g1.length+1) (g1.length+3) (g1.length+5) (s*6) 0 0 (g1.length+4) (lkN (some s)) s _ _ _ _ [] [iV ((t.tks.length+1:Nat):Int)] c1 h g1)
     ⟨rfl,pL _ _,aL (gP (gW _ _)) rfl,hcmp,aN (gP (gW _ _)) (by simp[rT]) rfl,r1,a_st b1 (by simp[rT]) rfl,aL q0 rfl,sN _ _ _,A1,a_st p0 (by simp) rfl,aL p0' rfl,by simp[Asm.holds,SH.den],A2,a_st r0 (by simp) rfl,gtT (by simp[lkN]),stat77_0,a_again1 agg77 r0' rfl rfl,a_again1 agg77 w0 rfl rfl,a_again1 agg77 x0 rfl rfl,SB,RF,aL r0' rfl,SB,aL r0' rfl,SB,OF,CF _ rfl,aL r0' rfl,by simp[Asm.holds,SH.den],a_appGN rfl rfl (by omega) (gV _ (by simp[SH.den])) (by simp[SH.den]),OF,S _ _ rfl,stat77_1,a_again1 agg76 y0 rfl rfl,a_again1 agg76 y0 rfl rfl,a_again1 agg76 (gNq y0 (by omega)) rfl rfl,aN y0 (by simp) rfl,aL y0 rfl,a_st y1 (by simp) rfl,aN (gE y1) (by simp) rfl,trivial⟩
   | some p =>
    rw[hst] at S CF
    have hp3:=N1 _ _ hst
    have hst4:σ3 (.st s)=some p:=by rw[st3];exact hst
    obtain⟨jp,hpo⟩:=a7.obj _ _ hst4
    rw[rcont_st hy] at hpo
    have x0:=gP (x:=.cells (nmL y.tks++[iV ((t.tks.length+1:Nat):Int)]) true) (gNq (x:=.dead) w0 (show p≠h.length by omega))
    have x1:=gP (x:=.cells (nmL y.tks++[iV ((t.tks.length+1:Nat):Int)]) true) (gNq (x:=.dead) w1 (show p≠h.length+1 by omega))
    have y0:=gNq (x:=.cells c1 true) x0 (show os≠h.length by omega)
    have y1:=gNq (x:=.cells c1 true) x1 (show os≠h.length+1 by omega)
    subst hR hR2 hR3 hrow hzf
    exact pvF 0 Try.func77 (q2p.ta_s (sA (σ .ts)) (sA (σ .ss)) (sA (σ .lf)) t.tks.length t.scs.length t.tks.length (sZ (σ .ts) 6) (sZ (σ .ss) 6) (sZ (σ .lf) 2) none 0 0 h.length (h.length+1) o t.tks.length lf t.tks.length os t.scs.length g1.length (g1.length+2) (g1.length+1) (g1.length+3) (g1.length+5) (s*6) p y.tks.length (g1.length+4) (lkN (some s)) s _ _ _ _ (nmL y.tks++[iV ((t.tks.length+1:Nat):Int)]) [iV ((t.tks.length+1:Nat):Int)] c1 h g1)
     ⟨rfl,pL _ _,aL (gP (gW _ _)) rfl,hcmp,aN (gP (gW _ _)) (by simp[rT]) rfl,r1,a_st b1 (by simp[rT]) rfl,aL q0 rfl,sN _ _ _,A1,a_st p0 (by simp) rfl,aL p0' rfl,by simp[Asm.holds,SH.den],A2,a_st r0 (by simp) rfl,gtT (by simp[lkN]),stat77_0,a_again1 agg77 r0' rfl rfl,a_again1 agg77 w0 rfl rfl,a_again1 agg77 x0 rfl rfl,SB,RF,aL r0' rfl,SB,aL r0' rfl,SB,OF,CF _ rfl,aL r0' rfl,by simp[Asm.holds,SH.den],a_appSJ (m:=0) (junk2:=[]) hpo (by rw[nmL_len];omega) (gV _ (by simp[SH.den])) rfl rfl (by omega) (by omega) (by omega) (by simp[SH.den]),OF,S _ _ rfl,stat77_1,a_again1 agg76 y0 rfl rfl,a_again1 agg76 y0 rfl rfl,a_again1 agg76 (gNq y0 (by omega)) rfl rfl,aN y0 (by simp) rfl,aL y0 rfl,a_st y1 (by simp) rfl,aN (gE y1) (by simp) rfl,trivial⟩
  ·show RAtL _ _ _ _ _
   rw[etk,addT_scs hy]
   exact a8.setN (N4.out (by omega)) _
end
end Go.Proofs.Ytahomnlkkafbjaa.rf
namespace Go.Proofs.Ytahomnlkkafbjaa.q3p
open Go Go.Ev
theorem root(a1 a2 a3:OA)(n1 n2 n3 z1 z2 z3:Nat)(a1x a2x a3x:OA)(n1x n2x n3x z1x z2x z3x:Nat)(b c:Nat)(n e:Int)(g g1:Hp) :
  let Z1:V:=.agg #[.slice a1 n1 z1,.slice a2 n2 z2,.slice a3 n3 z3]
  let Z2:LV:=[.slice a1 n1 z1,.slice a2 n2 z2,.slice a3 n3 z3]
  let Z3:V:=.agg #[.slice a1x n1x z1x,.slice a2x n2x z2x,.slice a3x n3x z3x]
  let Z4:LV:=[.slice a1x n1x z1x,.slice a2x n2x z2x,.slice a3x n3x z3x]
  let Z5:V:=.tuple #[Z3,iV n,iV e]
  let Z6:SH:=.set g1 c (cS Z4)
  let Z7:SH:=.push g (cS Z2)
  let Z8:SH:=.push Z7 (cS [nS,nS,nS])
  PF Try.f66 [Z1] g [.idx b,.idx c,.cells Z2,.ret (.tuple #[Z3,iV n,iV e]) g1,.cells Z4,.cells Z4] =
  some (Z5,Z6,[],[.len g b,.len Z7 c,.ldn Z8 b 0 3 Z2,.call 77 [Z1,iV 0] Z8 Z5 g1,.st g1 c 0 Z4 Z4,.ldn Z6 c 0 3 Z4]):=by intros;kernel_rfl
theorem sp_err(a1 a2 a3:OA)(n1 n2 n3 z1 z2 z3:Nat)(b c:Nat)(n e:Int)(g g1:Hp) :
  let Z1:V:=.agg #[.slice a1 n1 z1,.slice a2 n2 z2,.slice a3 n3 z3]
  let Z2:LV:=[Z1,iV n]
  let Z3:LV:=[.slice a1 n1 z1,.slice a2 n2 z2,.slice a3 n3 z3]
  let Z4:AObj:=cS Z3
  let Z5:SH:=.set g1 c Z4
  let Z6:SH:=.push g Z4
  let Z7:SH:=.push Z6 (cS [nS,nS,nS])
  PF Try.f59 Z2 g [.idx b,.idx c,.cells Z3,.ret (iV e) g1,.bit true,.cells Z3,.cells Z3,.cells Z3] =
  some (.tuple #[Z1,iV 0,iV e],Z5,[],[.len g b,.len Z6 c,.ldn Z7 b 0 3 Z3,.call 75 Z2 Z7 (iV e) g1,.cmp .neq e 0 true,.ldn g1 b 0 3 Z3,.st g1 c 0 Z3 Z3,.ldn Z5 c 0 3 Z3]):=by intros;kernel_rfl
theorem sp_no(a2 a3:OA)(n2 n3 z2 z3:Nat)(a1x a2x a3x:OA)(n1x n2x n3x z1x z2x z3x:Nat)(o m b c q:Nat)(ao:OA)(no zo:Nat)(n j s r e:Int)(E1:Env)(g g1 g2 g3:Hp) :
  let Z1:=sL o m 6
  let Z2:V:=.agg #[Z1,.slice a2 n2 z2,.slice a3 n3 z3]
  let Z3:LV:=[Z2,iV n]
  let Z4:LV:=[Z1,.slice a2 n2 z2,.slice a3 n3 z3]
  let Z5:=pT b 0
  let Z6:AObj:=cS Z4
  let Z7:SH:=.set g2 c Z6
  let Z8:SH:=.push g Z6
  let Z9:SH:=.push Z8 (cS [nS,nS,nS])
  PF Try.f59 Z3 g [.idx b,.idx c,.cells Z4,.ret (iV 0) g1,.bit false,.val Z1,.num j,.offs q,.val (.slice ao no zo),.loop (.exit 0) ((8,iV s)::(4,pT c 0)::(2,Z5)::E1) g2,.bit true,.cells Z4,.cells Z4,.cells Z4] =
  some (.tuple #[Z2,iV 0,iV 22],Z7,[],[.len g b,.len Z8 c,.ldn Z9 b 0 3 Z4,.call 75 Z3 Z9 (iV 0) g1,.cmp .neq 0 0 false,.ld1 g1 b 0 Z1,.arith .sub .i64 n 1 j,.off q 0 j m 6,.ld1 g1 o (Nat.succ (Nat.succ (Nat.succ (Nat.succ (Nat.succ q))))) (.slice ao no zo),.loop 45 false (loopN Try.f59 0) [(26,iV 0),(25,iN no),(24,.slice ao no zo),(23,pT o (Nat.succ (Nat.succ (Nat.succ (Nat.succ (Nat.succ q)))))),(22,pT o q),(21,iV j),(20,iV n),(19,Z1),(18,Z5),(8,iV 0),(15,bF),(14,iV 0),(7,iV 0),(13,iV 0),(12,iV n),(11,Z2),(6,iV 0),(5,iV 0),(4,pT c 0),(2,Z5),(0,Z2),(1,iV n)] g1 (.exit 0) ((8,iV s)::(4,pT c 0)::(2,Z5)::E1) g2,.cmp .eql s 0 true,.ldn g2 b 0 3 Z4,.st g2 c 0 Z4 Z4,.ldn Z7 c 0 3 Z4]):=by intros;kernel_rfl
theorem sp_go(a2 a3:OA)(n2 n3 z2 z3:Nat)(a1x a2x a3x:OA)(n1x n2x n3x z1x z2x z3x:Nat)(o m b c q:Nat)(ao:OA)(no zo:Nat)(n j s r e:Int)(E1:Env)(g g1 g2 g3:Hp) :
  let Z1:=sL o m 6
  let Z2:V:=.agg #[Z1,.slice a2 n2 z2,.slice a3 n3 z3]
  let Z3:LV:=[Z2,iV n]
  let Z4:LV:=[Z1,.slice a2 n2 z2,.slice a3 n3 z3]
  let Z5:=pT b 0
  let Z6:V:=.agg #[.slice a1x n1x z1x,.slice a2x n2x z2x,.slice a3x n3x z3x]
  let Z7:LV:=[.slice a1x n1x z1x,.slice a2x n2x z2x,.slice a3x n3x z3x]
  let Z8:V:=.tuple #[Z6,iV r,iV e]
  let Z9:SH:=.set g3 c (cS Z7)
  let Z10:SH:=.push g (cS Z4)
  let Z11:SH:=.push Z10 (cS [nS,nS,nS])
  PF Try.f59 Z3 g [.idx b,.idx c,.cells Z4,.ret (iV 0) g1,.bit false,.val Z1,.num j,.offs q,.val (.slice ao no zo),.loop (.exit 0) ((8,iV s)::(4,pT c 0)::(2,Z5)::E1) g2,.bit false,.cells Z4,.ret (.tuple #[Z6,iV r,iV e]) g3,.cells Z7,.cells Z7] =
  some (Z8,Z9,[],[.len g b,.len Z10 c,.ldn Z11 b 0 3 Z4,.call 75 Z3 Z11 (iV 0) g1,.cmp .neq 0 0 false,.ld1 g1 b 0 Z1,.arith .sub .i64 n 1 j,.off q 0 j m 6,.ld1 g1 o (Nat.succ (Nat.succ (Nat.succ (Nat.succ (Nat.succ q))))) (.slice ao no zo),.loop 45 false (loopN Try.f59 0) [(26,iV 0),(25,iN no),(24,.slice ao no zo),(23,pT o (Nat.succ (Nat.succ (Nat.succ (Nat.succ (Nat.succ q)))))),(22,pT o q),(21,iV j),(20,iV n),(19,Z1),(18,Z5),(8,iV 0),(15,bF),(14,iV 0),(7,iV 0),(13,iV 0),(12,iV n),(11,Z2),(6,iV 0),(5,iV 0),(4,pT c 0),(2,Z5),(0,Z2),(1,iV n)] g1 (.exit 0) ((8,iV s)::(4,pT c 0)::(2,Z5)::E1) g2,.cmp .eql s 0 false,.ldn g2 b 0 3 Z4,.call 77 [Z2,iV s] g2 Z8 g3,.st g3 c 0 Z7 Z7,.ldn Z9 c 0 3 Z7]):=by intros;kernel_rfl
theorem spl_out(b c e d so no zo:Nat)(ao:OA)(i i1 k n v v1:Int)(g:Hp) :
  PC 45 false (loopN Try.f59 0) [(26,iV i),(25,iN no),(24,.slice ao no zo),(8,iV v),(4,pT c 0),(2,pT b 0)] g [.bit false] =
  some (.exit 0,[(27,bF),(26,iV i),(25,iN no),(24,.slice ao no zo),(8,iV v),(4,pT c 0),(2,pT b 0)],.is g,[],[.cmp .lss i (Int.ofNat no) false]):=by intros;kernel_rfl
theorem spl_no(b c e d so no zo:Nat)(ao:OA)(i i1 k n v v1:Int)(g:Hp) :
  let Z1:LV:=[iV k,iV n]
  let Z2:=pT d 0
  let Z3:SH:=.push g (cS [iV 0,iV 0])
  let Z4:SH:=.set Z3 d (cS Z1)
  cutP [26,10,25,24,8,4,2] (PC 45 false (loopN Try.f59 0) [(26,iV i),(25,iN no),(24,sL so no 2),(8,iV v),(4,pT c 0),(2,pT b 0)] g [.bit true,.offs e,.cells Z1,.idx d,.cells Z1,.val (iV k),.bit false,.num i1]) =
  some (.normal,[(26,iV i1),(10,Z2),(25,iN no),(24,sL so no 2),(8,iV v),(4,pT c 0),(2,pT b 0)],Z4,[],[.cmp .lss i (Int.ofNat no) true,.off e 0 i no 2,.ldn g so e 2 Z1,.len g d,.st Z3 d 0 Z1 Z1,.ld1 Z4 d 0 (iV k),.cmp .eql k 2 false,.arith .add .i64 i 1 i1]):=by intros;kernel_rfl
theorem spl_yes(b c e d so no zo:Nat)(ao:OA)(i i1 k n v v1:Int)(g:Hp) :
  let Z1:LV:=[iV k,iV n]
  let Z2:=pT d 0
  let Z3:SH:=.push g (cS [iV 0,iV 0])
  let Z4:SH:=.set Z3 d (cS Z1)
  cutP [26,8,10,25,24,4,2] (PC 45 false (loopN Try.f59 0) [(26,iV i),(25,iN no),(24,sL so no 2),(8,iV v),(4,pT c 0),(2,pT b 0)] g [.bit true,.offs e,.cells Z1,.idx d,.cells Z1,.val (iV k),.bit true,.val (iV n),.num i1]) =
  some (.normal,[(26,iV i1),(8,iV n),(10,Z2),(25,iN no),(24,sL so no 2),(4,pT c 0),(2,pT b 0)],Z4,[],[.cmp .lss i (Int.ofNat no) true,.off e 0 i no 2,.ldn g so e 2 Z1,.len g d,.st Z3 d 0 Z1 Z1,.ld1 Z4 d 0 (iV k),.cmp .eql k 2 true,.ld1 Z4 d 1 (iV n),.arith .add .i64 i 1 i1]):=by intros;kernel_rfl
theorem sh_err(a1 a2 a3:OA)(n1 n2 n3 z1 z2 z3:Nat)(b c:Nat)(n e:Int)(g g1:Hp) :
  let Z1:V:=.agg #[.slice a1 n1 z1,.slice a2 n2 z2,.slice a3 n3 z3]
  let Z2:LV:=[Z1,iV n]
  let Z3:LV:=[.slice a1 n1 z1,.slice a2 n2 z2,.slice a3 n3 z3]
  let Z4:AObj:=cS Z3
  let Z5:SH:=.set g1 c Z4
  let Z6:SH:=.push g Z4
  let Z7:SH:=.push Z6 (cS [nS,nS,nS])
  PF Try.f63 Z2 g [.idx b,.idx c,.cells Z3,.ret (iV e) g1,.bit true,.cells Z3,.cells Z3,.cells Z3] =
  some (.tuple #[Z1,iV e],Z5,[],[.len g b,.len Z6 c,.ldn Z7 b 0 3 Z3,.call 75 Z2 Z7 (iV e) g1,.cmp .neq e 0 true,.ldn g1 b 0 3 Z3,.st g1 c 0 Z3 Z3,.ldn Z5 c 0 3 Z3]):=by intros;kernel_rfl
theorem sh_full(a2 a3:OA)(n2 n3 z2 z3:Nat)(a1x a2x a3x:OA)(n1x n2x n3x z1x z2x z3x:Nat)(o m b c q:Nat)(ao:OA)(no zo:Nat)(n j s:Int)(E1:Env)(g g1 g2 g3:Hp) :
  let Z1:=sL o m 6
  let Z2:V:=.agg #[Z1,.slice a2 n2 z2,.slice a3 n3 z3]
  let Z3:LV:=[Z2,iV n]
  let Z4:LV:=[Z1,.slice a2 n2 z2,.slice a3 n3 z3]
  let Z5:=pT b 0
  let Z6:AObj:=cS Z4
  let Z7:SH:=.set g2 c Z6
  let Z8:SH:=.push g Z6
  let Z9:SH:=.push Z8 (cS [nS,nS,nS])
  PF Try.f63 Z3 g [.idx b,.idx c,.cells Z4,.ret (iV 0) g1,.bit false,.val Z1,.num j,.offs q,.val (.slice ao no zo),.loop (.exit 0) ((7,iV s)::(4,pT c 0)::(2,Z5)::(1,iV n)::E1) g2,.bit true,.cells Z4,.cells Z4,.cells Z4] =
  some (.tuple #[Z2,iV 5],Z7,[],[.len g b,.len Z8 c,.ldn Z9 b 0 3 Z4,.call 75 Z3 Z9 (iV 0) g1,.cmp .neq 0 0 false,.ld1 g1 b 0 Z1,.arith .sub .i64 n 1 j,.off q 0 j m 6,.ld1 g1 o (Nat.succ (Nat.succ (Nat.succ (Nat.succ (Nat.succ q))))) (.slice ao no zo),.loop 42 false (loopN Try.f63 0) [(25,iV 0),(24,iN no),(23,.slice ao no zo),(22,pT o (Nat.succ (Nat.succ (Nat.succ (Nat.succ (Nat.succ q)))))),(21,pT o q),(20,iV j),(19,iV n),(18,Z1),(17,Z5),(7,iV 0),(14,bF),(13,iV 0),(6,iV 0),(12,iV 0),(11,iV n),(10,Z2),(5,iV 0),(4,pT c 0),(2,Z5),(0,Z2),(1,iV n)] g1 (.exit 0) ((7,iV s)::(4,pT c 0)::(2,Z5)::(1,iV n)::E1) g2,.cmp .geq s 40 true,.ldn g2 b 0 3 Z4,.st g2 c 0 Z4 Z4,.ldn Z7 c 0 3 Z4]):=by intros;kernel_rfl
theorem sh_go(a2 a3:OA)(n2 n3 z2 z3:Nat)(a1x a2x a3x:OA)(n1x n2x n3x z1x z2x z3x:Nat)(o m b c q:Nat)(ao:OA)(no zo:Nat)(n j s:Int)(E1:Env)(g g1 g2 g3:Hp) :
  let Z1:=sL o m 6
  let Z2:V:=.agg #[Z1,.slice a2 n2 z2,.slice a3 n3 z3]
  let Z3:LV:=[Z2,iV n]
  let Z4:LV:=[Z1,.slice a2 n2 z2,.slice a3 n3 z3]
  let Z5:=pT b 0
  let Z6:V:=.agg #[.slice a1x n1x z1x,.slice a2x n2x z2x,.slice a3x n3x z3x]
  let Z7:LV:=[.slice a1x n1x z1x,.slice a2x n2x z2x,.slice a3x n3x z3x]
  let Z8:SH:=.set g3 c (cS Z7)
  let Z9:SH:=.push g (cS Z4)
  let Z10:SH:=.push Z9 (cS [nS,nS,nS])
  PF Try.f63 Z3 g [.idx b,.idx c,.cells Z4,.ret (iV 0) g1,.bit false,.val Z1,.num j,.offs q,.val (.slice ao no zo),.loop (.exit 0) ((7,iV s)::(4,pT c 0)::(2,Z5)::(1,iV n)::E1) g2,.bit false,.cells Z4,.ret Z6 g3,.cells Z7,.cells Z7] =
  some (.tuple #[Z6,iV 0],Z8,[],[.len g b,.len Z9 c,.ldn Z10 b 0 3 Z4,.call 75 Z3 Z10 (iV 0) g1,.cmp .neq 0 0 false,.ld1 g1 b 0 Z1,.arith .sub .i64 n 1 j,.off q 0 j m 6,.ld1 g1 o (Nat.succ (Nat.succ (Nat.succ (Nat.succ (Nat.succ q))))) (.slice ao no zo),.loop 42 false (loopN Try.f63 0) [(25,iV 0),(24,iN no),(23,.slice ao no zo),(22,pT o (Nat.succ (Nat.succ (Nat.succ (Nat.succ (Nat.succ q)))))),(21,pT o q),(20,iV j),(19,iV n),(18,Z1),(17,Z5),(7,iV 0),(14,bF),(13,iV 0),(6,iV 0),(12,iV 0),(11,iV n),(10,Z2),(5,iV 0),(4,pT c 0),(2,Z5),(0,Z2),(1,iV n)] g1 (.exit 0) ((7,iV s)::(4,pT c 0)::(2,Z5)::(1,iV n)::E1) g2,.cmp .geq s 40 false,.ldn g2 b 0 3 Z4,.call 76 [Z2,iV n,.agg #[iV 3,iV 0]] g2 Z6 g3,.st g3 c 0 Z7 Z7,.ldn Z8 c 0 3 Z7]):=by intros;kernel_rfl
theorem shl_out(b c e d so no zo:Nat)(ao:OA)(i i1 k n v v1 x:Int)(g:Hp) :
  PC 42 false (loopN Try.f63 0) [(25,iV i),(24,iN no),(23,.slice ao no zo),(7,iV v),(4,pT c 0),(2,pT b 0),(1,iV x)] g [.bit false] =
  some (.exit 0,[(26,bF),(25,iV i),(24,iN no),(23,.slice ao no zo),(7,iV v),(4,pT c 0),(2,pT b 0),(1,iV x)],.is g,[],[.cmp .lss i (Int.ofNat no) false]):=by intros;kernel_rfl
theorem shl_no(b c e d so no zo:Nat)(ao:OA)(i i1 k n v v1 x:Int)(g:Hp) :
  let Z1:LV:=[iV k,iV n]
  let Z2:=pT d 0
  let Z3:SH:=.push g (cS [iV 0,iV 0])
  let Z4:SH:=.set Z3 d (cS Z1)
  cutP [25,9,24,23,7,4,2,1] (PC 42 false (loopN Try.f63 0) [(25,iV i),(24,iN no),(23,sL so no 2),(7,iV v),(4,pT c 0),(2,pT b 0),(1,iV x)] g [.bit true,.offs e,.cells Z1,.idx d,.cells Z1,.val (iV k),.bit false,.num i1]) =
  some (.normal,[(25,iV i1),(9,Z2),(24,iN no),(23,sL so no 2),(7,iV v),(4,pT c 0),(2,pT b 0),(1,iV x)],Z4,[],[.cmp .lss i (Int.ofNat no) true,.off e 0 i no 2,.ldn g so e 2 Z1,.len g d,.st Z3 d 0 Z1 Z1,.ld1 Z4 d 0 (iV k),.cmp .eql k 3 false,.arith .add .i64 i 1 i1]):=by intros;kernel_rfl
theorem shl_yes(b c e d so no zo:Nat)(ao:OA)(i i1 k n v v1 x:Int)(g:Hp) :
  let Z1:LV:=[iV k,iV n]
  let Z2:=pT d 0
  let Z3:SH:=.push g (cS [iV 0,iV 0])
  let Z4:SH:=.set Z3 d (cS Z1)
  cutP [25,7,9,24,23,4,2,1] (PC 42 false (loopN Try.f63 0) [(25,iV i),(24,iN no),(23,sL so no 2),(7,iV v),(4,pT c 0),(2,pT b 0),(1,iV x)] g [.bit true,.offs e,.cells Z1,.idx d,.cells Z1,.val (iV k),.bit true,.num v1,.num i1]) =
  some (.normal,[(25,iV i1),(7,iV v1),(9,Z2),(24,iN no),(23,sL so no 2),(4,pT c 0),(2,pT b 0),(1,iV x)],Z4,[],[.cmp .lss i (Int.ofNat no) true,.off e 0 i no 2,.ldn g so e 2 Z1,.len g d,.st Z3 d 0 Z1 Z1,.ld1 Z4 d 0 (iV k),.cmp .eql k 3 true,.arith .add .i64 v 1 v1,.arith .add .i64 i 1 i1]):=by intros;kernel_rfl
theorem un_err(a1 a2 a3:OA)(n1 n2 n3 z1 z2 z3:Nat)(a1x a2x a3x:OA)(n1x n2x n3x z1x z2x z3x:Nat)(b c:Nat)(n e k kn:Int)(g g1 g2 g3:Hp) :
  let Z1:V:=.agg #[.slice a1 n1 z1,.slice a2 n2 z2,.slice a3 n3 z3]
  let Z2:LV:=[Z1,iV n]
  let Z3:LV:=[.slice a1 n1 z1,.slice a2 n2 z2,.slice a3 n3 z3]
  let Z4:AObj:=cS Z3
  let Z5:SH:=.set g1 c Z4
  let Z6:SH:=.push g Z4
  let Z7:SH:=.push Z6 (cS [nS,nS,nS])
  PF Try.f64 Z2 g [.idx b,.idx c,.cells Z3,.ret (iV e) g1,.bit true,.cells Z3,.cells Z3,.cells Z3] =
  some (.tuple #[Z1,iV e],Z5,[],[.len g b,.len Z6 c,.ldn Z7 b 0 3 Z3,.call 75 Z2 Z7 (iV e) g1,.cmp .neq e 0 true,.ldn g1 b 0 3 Z3,.st g1 c 0 Z3 Z3,.ldn Z5 c 0 3 Z3]):=by intros;kernel_rfl
theorem un_no(a1 a2 a3:OA)(n1 n2 n3 z1 z2 z3:Nat)(a1x a2x a3x:OA)(n1x n2x n3x z1x z2x z3x:Nat)(b c:Nat)(n e k kn:Int)(g g1 g2 g3:Hp) :
  let Z1:V:=.agg #[.slice a1 n1 z1,.slice a2 n2 z2,.slice a3 n3 z3]
  let Z2:LV:=[Z1,iV n]
  let Z3:LV:=[.slice a1 n1 z1,.slice a2 n2 z2,.slice a3 n3 z3]
  let Z4:V:=.agg #[iV k,iV kn]
  let Z5:AObj:=cS Z3
  let Z6:SH:=.set g2 c Z5
  let Z7:SH:=.push g Z5
  let Z8:SH:=.push Z7 (cS [nS,nS,nS])
  PF Try.f64 Z2 g [.idx b,.idx c,.cells Z3,.ret (iV 0) g1,.bit false,.cells Z3,.ret Z4 g2,.bit true,.cells Z3,.cells Z3,.cells Z3] =
  some (.tuple #[Z1,iV 22],Z6,[],[.len g b,.len Z7 c,.ldn Z8 b 0 3 Z3,.call 75 Z2 Z8 (iV 0) g1,.cmp .neq 0 0 false,.ldn g1 b 0 3 Z3,.call 80 Z2 g1 Z4 g2,.cmp .neq k 3 true,.ldn g2 b 0 3 Z3,.st g2 c 0 Z3 Z3,.ldn Z6 c 0 3 Z3]):=by intros;kernel_rfl
theorem un_go(a1 a2 a3:OA)(n1 n2 n3 z1 z2 z3:Nat)(a1x a2x a3x:OA)(n1x n2x n3x z1x z2x z3x:Nat)(b c:Nat)(n e k kn:Int)(g g1 g2 g3:Hp) :
  let Z1:LV:=[.agg #[.slice a1 n1 z1,.slice a2 n2 z2,.slice a3 n3 z3],iV n]
  let Z2:LV:=[.slice a1 n1 z1,.slice a2 n2 z2,.slice a3 n3 z3]
  let Z3:V:=.agg #[iV k,iV kn]
  let Z4:V:=.agg #[.slice a1x n1x z1x,.slice a2x n2x z2x,.slice a3x n3x z3x]
  let Z5:LV:=[.slice a1x n1x z1x,.slice a2x n2x z2x,.slice a3x n3x z3x]
  let Z6:SH:=.set g3 c (cS Z5)
  let Z7:SH:=.push g (cS Z2)
  let Z8:SH:=.push Z7 (cS [nS,nS,nS])
  PF Try.f64 Z1 g [.idx b,.idx c,.cells Z2,.ret (iV 0) g1,.bit false,.cells Z2,.ret Z3 g2,.bit false,.cells Z2,.ret Z4 g3,.cells Z5,.cells Z5] =
  some (.tuple #[Z4,iV 0],Z6,[],[.len g b,.len Z7 c,.ldn Z8 b 0 3 Z2,.call 75 Z1 Z8 (iV 0) g1,.cmp .neq 0 0 false,.ldn g1 b 0 3 Z2,.call 80 Z1 g1 Z3 g2,.cmp .neq k 3 false,.ldn g2 b 0 3 Z2,.call 83 Z1 g2 Z4 g3,.st g3 c 0 Z5 Z5,.ldn Z6 c 0 3 Z5]):=by intros;kernel_rfl
theorem os_err(a1 a2 a3:OA)(n1 n2 n3 z1 z2 z3:Nat)(a1x a2x a3x:OA)(n1x n2x n3x z1x z2x z3x:Nat)(su:Bool)(b c z os ns y:Nat)(n e k1:Int)(cs news:LV)(g g1 g2:Hp) :
  let Z1:V:=.agg #[.slice a1 n1 z1,.slice a2 n2 z2,.slice a3 n3 z3]
  let Z2:LV:=[.slice a1 n1 z1,.slice a2 n2 z2,.slice a3 n3 z3]
  let Z3:AObj:=cS Z2
  let Z4:SH:=.set g1 c Z3
  let Z5:SH:=.push g Z3
  let Z6:SH:=.push Z5 (cS [nS,nS,nS])
  PF Try.f58 [Z1,iV n,.bool su] g [.idx b,.idx c,.cells Z2,.ret (iV e) g1,.bit true,.cells Z2,.cells Z2,.cells Z2] =
  some (.tuple #[Z1,iV 0,iV e],Z4,[],[.len g b,.len Z5 c,.ldn Z6 b 0 3 Z2,.call 75 [Z1,iV n] Z6 (iV e) g1,.cmp .neq e 0 true,.ldn g1 b 0 3 Z2,.st g1 c 0 Z2 Z2,.ldn Z4 c 0 3 Z2]):=by intros;kernel_rfl
theorem os_full(a1 a2 a3:OA)(n1 n2 n3 z1 z2 z3:Nat)(a1x a2x a3x:OA)(n1x n2x n3x z1x z2x z3x:Nat)(su:Bool)(b c z os ns y:Nat)(n e k1:Int)(cs news:LV)(g g1 g2:Hp) :
  let Z1:V:=.agg #[.slice a1 n1 z1,.slice a2 n2 z2,.slice a3 n3 z3]
  let Z2:LV:=[.slice a1 n1 z1,.slice a2 n2 z2,.slice a3 n3 z3]
  let Z3:AObj:=cS Z2
  let Z4:SH:=.set g1 c Z3
  let Z5:SH:=.push g Z3
  let Z6:SH:=.push Z5 (cS [nS,nS,nS])
  PF Try.f58 [Z1,iV n,.bool su] g [.idx b,.idx c,.cells Z2,.ret (iV 0) g1,.bit false,.val (.slice a2 n2 z2),.bit true,.cells Z2,.cells Z2,.cells Z2] =
  some (.tuple #[Z1,iV 0,iV 5],Z4,[],[.len g b,.len Z5 c,.ldn Z6 b 0 3 Z2,.call 75 [Z1,iV n] Z6 (iV 0) g1,.cmp .neq 0 0 false,.ld1 g1 b 1 (.slice a2 n2 z2),.cmp .geq (Int.ofNat n2) 200 true,.ldn g1 b 0 3 Z2,.st g1 c 0 Z2 Z2,.ldn Z4 c 0 3 Z2]):=by intros;kernel_rfl
theorem os_n(a1 a2 a3:OA)(n1 n2 n3 z1 z2 z3:Nat)(a1x a3x:OA)(n1x n3x z1x z3x:Nat)(su:Bool)(b c z os ns y:Nat)(n e k1:Int)(cs news:LV)(g g1 g2:Hp) :
  let Z1:V:=.agg #[.slice a1 n1 z1,.slice a2 n2 z2,.slice a3 n3 z3]
  let Z2:LV:=[.slice a1 n1 z1,.slice a2 n2 z2,.slice a3 n3 z3]
  let Z3:V:=.agg #[.slice a1x n1x z1x,nS,.slice a3x n3x z3x]
  let Z4:LV:=[.slice a1x n1x z1x,nS,.slice a3x n3x z3x]
  let Z5:=sL y 1 6
  let Z6:LV:=[.slice a1x n1x z1x,Z5,.slice a3x n3x z3x]
  let Z7:SH:=.set g2 b (cS Z4)
  let Z8:SH:=.push Z7 (cS [iV n,.bool su,bF,nS,iV 0,.string eS])
  let Z9:SH:=.push Z8 (cS news)
  let Z10:AObj:=cS Z6
  let Z11:SH:=.set Z9 b Z10
  let Z12:SH:=.set Z11 c Z10
  let Z13:SH:=.push g (cS Z2)
  let Z14:SH:=.push Z13 (cS [nS,nS,nS])
  let Z15:=pT b 1
  PF Try.f58 [Z1,iV n,.bool su] g [.idx b,.idx c,.cells Z2,.ret (iV 0) g1,.bit false,.val (.slice a2 n2 z2),.bit false,.cells Z2,.val (.slice a2 n2 z2),.num k1,.ret Z3 g2,.cells Z4,.val (nS),.idx z,.app cs news 0 y,.cells Z6,.cells Z6,.val Z5,.cells Z6,.cells Z6] =
  some (.tuple { toList:=[.agg #[.slice a1x n1x z1x,Z5,.slice a3x n3x z3x],iV 1,iV 0] },Z12,[],[.len g b,.len Z13 c,.ldn Z14 b 0 3 Z2,.call 75 [Z1,iV n] Z14 (iV 0) g1,.cmp .neq 0 0 false,.ld1 g1 b 1 (.slice a2 n2 z2),.cmp .geq (Int.ofNat n2) 200 false,.ldn g1 b 0 3 Z2,.ld1 g1 b 1 (.slice a2 n2 z2),.arith .add .i64 (Int.ofNat n2) 1 k1,.call 76 [Z1,iV n,.agg #[iV 2,iV k1]] g1 Z3 g2,.st g2 b 0 Z4 Z4,.ld1 Z7 b 1 (nS),.len Z7 z,.appNil Z8 z 0 1 0 6 64 news y,.st Z9 b 1 [Z5] Z6,.stat (drawN Try.f58 0),.again Z11 77 Z15 Z5,.again Z11 77 Z15 Z5,.again Z12 77 Z15 Z5,.ldn Z11 b 0 3 Z6,.ld1 Z11 b 1 Z5,.st Z11 c 0 Z6 Z6,.ldn Z12 c 0 3 Z6]):=by intros;kernel_rfl
theorem os_s(a1 a2 a3:OA)(n1 n2 n3 z1 z2 z3:Nat)(a1x a3x:OA)(n1x n3x z1x z3x:Nat)(su:Bool)(b c z os ns y:Nat)(n e k1:Int)(cs news:LV)(g g1 g2:Hp) :
  let Z1:V:=.agg #[.slice a1 n1 z1,.slice a2 n2 z2,.slice a3 n3 z3]
  let Z2:LV:=[.slice a1 n1 z1,.slice a2 n2 z2,.slice a3 n3 z3]
  let Z3:=sL os ns 6
  let Z4:V:=.agg #[.slice a1x n1x z1x,Z3,.slice a3x n3x z3x]
  let Z5:LV:=[.slice a1x n1x z1x,Z3,.slice a3x n3x z3x]
  let Z6:=sL y (ns+1) 6
  let Z7:=sL y (Nat.succ ns) 6
  let Z8:SH:=.set g2 b (cS Z5)
  let Z9:SH:=.push Z8 (cS [iV n,.bool su,bF,nS,iV 0,.string eS])
  let Z10:SH:=.push (.set Z9 os .dead) (cS cs)
  let Z11:LV:=[.slice a1x n1x z1x,Z7,.slice a3x n3x z3x]
  let Z12:AObj:=cS Z11
  let Z13:SH:=.set Z10 b Z12
  let Z14:SH:=.set Z13 c Z12
  let Z15:SH:=.push g (cS Z2)
  let Z16:SH:=.push Z15 (cS [nS,nS,nS])
  let Z17:=pT b 1
  PF Try.f58 [Z1,iV n,.bool su] g [.idx b,.idx c,.cells Z2,.ret (iV 0) g1,.bit false,.val (.slice a2 n2 z2),.bit false,.cells Z2,.val (.slice a2 n2 z2),.num k1,.ret Z4 g2,.cells Z5,.val Z3,.idx z,.app cs news 0 y,.cells [.slice a1x n1x z1x,Z6,.slice a3x n3x z3x],.cells [.slice a1x n1x z1x,Z6,.slice a3x n3x z3x],.val Z6,.cells [.slice a1x n1x z1x,Z6,.slice a3x n3x z3x],.cells [.slice a1x n1x z1x,Z6,.slice a3x n3x z3x]] =
  some (.tuple { toList:=[.agg #[.slice a1x n1x z1x,Z7,.slice a3x n3x z3x],iN (Nat.succ ns),iV 0] },Z14,[],[.len g b,.len Z15 c,.ldn Z16 b 0 3 Z2,.call 75 [Z1,iV n] Z16 (iV 0) g1,.cmp .neq 0 0 false,.ld1 g1 b 1 (.slice a2 n2 z2),.cmp .geq (Int.ofNat n2) 200 false,.ldn g1 b 0 3 Z2,.ld1 g1 b 1 (.slice a2 n2 z2),.arith .add .i64 (Int.ofNat n2) 1 k1,.call 76 [Z1,iV n,.agg #[iV 2,iV k1]] g1 Z4 g2,.st g2 b 0 Z5 Z5,.ld1 Z8 b 1 Z3,.len Z8 z,.app Z9 os 0 ns z 0 1 0 6 64 cs news y,.st Z10 b 1 [Z7] Z11,.stat (drawN Try.f58 0),.again Z13 77 Z17 Z7,.again Z13 77 Z17 Z7,.again Z14 77 Z17 Z7,.ldn Z13 b 0 3 Z11,.ld1 Z13 b 1 Z7,.st Z13 c 0 Z11 Z11,.ldn Z14 c 0 3 Z11]):=by intros;kernel_rfl
theorem fa_no(a1 a2 a3:OA)(n1 n2 n3 z1 z2 z3:Nat)(b b2 c:Nat)(n fk:Int)(ft:ByteArray)(g g1 g2:Hp) :
  let Z1:V:=.agg #[.slice a1 n1 z1,.slice a2 n2 z2,.slice a3 n3 z3]
  let Z2:LV:=[.slice a1 n1 z1,.slice a2 n2 z2,.slice a3 n3 z3]
  let Z3:AObj:=cS Z2
  let Z4:SH:=.set g1 c Z3
  let Z5:SH:=.push g Z3
  let Z6:SH:=.push Z5 (cS [iV fk,.string ft])
  let Z7:SH:=.push Z6 (cS [nS,nS,nS])
  PF Try.f65 [Z1,iV n,.agg #[iV fk,.string ft]] g [.idx b,.idx b2,.idx c,.cells Z2,.ret bF g1,.cells Z2,.cells Z2,.cells Z2] =
  some (.tuple #[Z1,nS,iV 6],Z4,[],[.len g b,.len Z5 b2,.len Z6 c,.ldn Z7 b 0 3 Z2,.call 84 [Z1,iV n] Z7 bF g1,.ldn g1 b 0 3 Z2,.st g1 c 0 Z2 Z2,.ldn Z4 c 0 3 Z2]):=by intros;kernel_rfl
theorem fa_bad(a1 a2 a3:OA)(n1 n2 n3 z1 z2 z3:Nat)(b b2 c:Nat)(n fk:Int)(ft:ByteArray)(g g1 g2:Hp) :
  let Z1:V:=.agg #[.slice a1 n1 z1,.slice a2 n2 z2,.slice a3 n3 z3]
  let Z2:V:=.agg #[iV fk,.string ft]
  let Z3:LV:=[.slice a1 n1 z1,.slice a2 n2 z2,.slice a3 n3 z3]
  let Z4:LV:=[iV fk,.string ft]
  let Z5:AObj:=cS Z3
  let Z6:SH:=.set g2 c Z5
  let Z7:SH:=.push g Z5
  let Z8:SH:=.push Z7 (cS Z4)
  let Z9:SH:=.push Z8 (cS [nS,nS,nS])
  PF Try.f65 [Z1,iV n,Z2] g [.idx b,.idx b2,.idx c,.cells Z3,.ret bT g1,.cells Z4,.ret bF g2,.cells Z3,.cells Z3,.cells Z3] =
  some (.tuple #[Z1,nS,iV 2],Z6,[],[.len g b,.len Z7 b2,.len Z8 c,.ldn Z9 b 0 3 Z3,.call 84 [Z1,iV n] Z9 bT g1,.ldn g1 b2 0 2 Z4,.call 78 [Z2] g1 bF g2,.ldn g2 b 0 3 Z3,.st g2 c 0 Z3 Z3,.ldn Z6 c 0 3 Z3]):=by intros;kernel_rfl
theorem fa_arg(a1 a2 a3:OA)(n1 n2 n3 z1 z2 z3:Nat)(b b2 c:Nat)(n fk:Int)(ft:ByteArray)(g g1 g2:Hp) :
  let Z1:V:=.agg #[.slice a1 n1 z1,.slice a2 n2 z2,.slice a3 n3 z3]
  let Z2:V:=.agg #[iV fk,.string ft]
  let Z3:LV:=[.slice a1 n1 z1,.slice a2 n2 z2,.slice a3 n3 z3]
  let Z4:LV:=[iV fk,.string ft]
  let Z5:AObj:=cS Z3
  let Z6:SH:=.set g2 c Z5
  let Z7:SH:=.push g Z5
  let Z8:SH:=.push Z7 (cS Z4)
  let Z9:SH:=.push Z8 (cS [nS,nS,nS])
  PF Try.f65 [Z1,iV n,Z2] g [.idx b,.idx b2,.idx c,.cells Z3,.ret bT g1,.cells Z4,.ret bT g2,.val (iV fk),.bit true,.cells Z3,.cells Z3,.cells Z3] =
  some (.tuple #[Z1,nS,iV 2],Z6,[],[.len g b,.len Z7 b2,.len Z8 c,.ldn Z9 b 0 3 Z3,.call 84 [Z1,iV n] Z9 bT g1,.ldn g1 b2 0 2 Z4,.call 78 [Z2] g1 bT g2,.ld1 g2 b2 0 (iV fk),.cmp .neq fk 1 true,.ldn g2 b 0 3 Z3,.st g2 c 0 Z3 Z3,.ldn Z6 c 0 3 Z3]):=by intros;kernel_rfl
theorem fa_had(a1 a3:OA)(n1 n3 z1 z3:Nat)(a1x a3x:OA)(n1x n3x z1x z3x:Nat)(o m o2 b b2 c q z:Nat)(n fk j yk:Int)(ft:ByteArray)(c1:LV)(g g1 g2 g3:Hp) :
  let Z1:=sL o m 6
  let Z2:V:=.agg #[.slice a1 n1 z1,Z1,.slice a3 n3 z3]
  let Z3:V:=.agg #[iV fk,.string ft]
  let Z4:LV:=[.slice a1 n1 z1,Z1,.slice a3 n3 z3]
  let Z5:LV:=[iV fk,.string ft]
  let Z6:AObj:=cS Z4
  let Z7:SH:=.set g2 c Z6
  let Z8:SH:=.push g Z6
  let Z9:SH:=.push Z8 (cS Z5)
  let Z10:SH:=.push Z9 (cS [nS,nS,nS])
  PF Try.f65 [Z2,iV n,Z3] g [.idx b,.idx b2,.idx c,.cells Z4,.ret bT g1,.cells Z5,.ret bT g2,.val (iV fk),.bit false,.val Z1,.num j,.offs q,.val (iV yk),.bit true,.cells Z4,.cells Z4,.cells Z4] =
  some (.tuple #[Z2,nS,iV 0],Z7,[],[.len g b,.len Z8 b2,.len Z9 c,.ldn Z10 b 0 3 Z4,.call 84 [Z2,iV n] Z10 bT g1,.ldn g1 b2 0 2 Z5,.call 78 [Z3] g1 bT g2,.ld1 g2 b2 0 (iV fk),.cmp .neq fk 1 false,.ld1 g2 b 1 Z1,.arith .sub .i64 n 1 j,.off q 0 j m 6,.ld1 g2 o (Nat.succ (Nat.succ (Nat.succ (Nat.succ q)))) (iV yk),.cmp .neq yk 0 true,.ldn g2 b 0 3 Z4,.st g2 c 0 Z4 Z4,.ldn Z7 c 0 3 Z4]):=by intros;kernel_rfl
theorem fa_go(a1 a3:OA)(n1 n3 z1 z3:Nat)(a1x a3x:OA)(n1x n3x z1x z3x:Nat)(o m o2 b b2 c q z:Nat)(n fk j yk:Int)(ft:ByteArray)(c1:LV)(g g1 g2 g3:Hp) :
  let Z1:=sL o m 6
  let Z2:V:=.agg #[.slice a1 n1 z1,Z1,.slice a3 n3 z3]
  let Z3:V:=.agg #[iV fk,.string ft]
  let Z4:LV:=[.slice a1 n1 z1,Z1,.slice a3 n3 z3]
  let Z5:LV:=[iV fk,.string ft]
  let Z6:=sL o2 m 6
  let Z7:V:=.agg #[.slice a1x n1x z1x,Z6,.slice a3x n3x z3x]
  let Z8:LV:=[.slice a1x n1x z1x,Z6,.slice a3x n3x z3x]
  let Z9:AObj:=cS Z8
  let Z10:SH:=.set g3 b Z9
  let Z11:SH:=.set Z10 o2 (cS c1)
  let Z12:SH:=.push Z11 (cS [iV 1,iV n,iV 0,iV 0,.string eS])
  let Z13:SH:=.set Z12 c Z9
  let Z14:SH:=.push g (cS Z4)
  let Z15:SH:=.push Z14 (cS Z5)
  let Z16:SH:=.push Z15 (cS [nS,nS,nS])
  PF Try.f65 [Z2,iV n,Z3] g [.idx b,.idx b2,.idx c,.cells Z4,.ret bT g1,.cells Z5,.ret bT g2,.val (iV fk),.bit false,.val Z1,.num j,.offs q,.val (iV yk),.bit false,.cells Z4,.ret Z7 g3,.cells Z8,.val Z6,.num j,.cells Z5,.offs q,.cells c1,.cells Z8,.idx z,.cells Z8,.cells Z8] =
  some (.tuple #[Z7,sL z 1 5,iV 0],Z13,[],[.len g b,.len Z14 b2,.len Z15 c,.ldn Z16 b 0 3 Z4,.call 84 [Z2,iV n] Z16 bT g1,.ldn g1 b2 0 2 Z5,.call 78 [Z3] g1 bT g2,.ld1 g2 b2 0 (iV fk),.cmp .neq fk 1 false,.ld1 g2 b 1 Z1,.arith .sub .i64 n 1 j,.off q 0 j m 6,.ld1 g2 o (Nat.succ (Nat.succ (Nat.succ (Nat.succ q)))) (iV yk),.cmp .neq yk 0 false,.ldn g2 b 0 3 Z4,.call 79 [Z2] g2 Z7 g3,.st g3 b 0 Z8 Z8,.ld1 Z10 b 1 Z6,.arith .sub .i64 n 1 j,.ldn Z10 b2 0 2 Z5,.off q 0 j m 6,.st Z10 o2 (Nat.succ (Nat.succ (Nat.succ (Nat.succ q)))) Z5 c1,.ldn Z11 b 0 3 Z8,.len Z11 z,.st Z12 c 0 Z8 Z8,.ldn Z13 c 0 3 Z8]):=by intros;kernel_rfl
theorem ov_had(a1 a3:OA)(n1 n3 z1 z3:Nat)(o m o1 m1 o2 o3 b b2 c c' d q q1 q3:Nat)(n ow j j1 fk yk:Int)(yt ft:ByteArray)(x1 x2 x3:LV)(g g1:Hp) :
  let Z1:=sL o m 6
  let Z2:V:=.agg #[.slice a1 n1 z1,Z1,.slice a3 n3 z3]
  let Z3:LV:=[.slice a1 n1 z1,Z1,.slice a3 n3 z3]
  let Z4:=sL o1 m1 6
  let Z5:=sL o2 m 6
  let Z6:=sL o3 m1 2
  let Z7:V:=.agg #[Z4,Z5,Z6]
  let Z8:LV:=[Z4,Z5,Z6]
  let Z9:LV:=[iV yk,.string yt]
  let Z10:LV:=[iV 3,iV ow,iV n,iV yk,.string yt]
  let Z11:V:=.agg #[iV 3,iV ow,iV n,iV yk,.string yt]
  let Z12:AObj:=cS Z8
  let Z13:SH:=.set g1 b Z12
  let Z14:SH:=.set Z13 o2 (cS x1)
  let Z15:SH:=.set Z14 o1 (cS x2)
  let Z16:SH:=.set Z15 o3 (cS x3)
  let Z17:AObj:=cS [iV 0,iV 0,iV 0,iV 0,.string eS]
  let Z18:SH:=.push Z16 Z17
  let Z19:AObj:=cS Z10
  let Z20:SH:=.set Z18 d Z19
  let Z21:SH:=.set Z20 c Z12
  let Z22:SH:=.set Z21 c' Z19
  let Z23:SH:=.push g (cS Z3)
  let Z24:SH:=.push Z23 (cS [iV fk,.string ft])
  let Z25:SH:=.push Z24 (cS [nS,nS,nS])
  let Z26:SH:=.push Z25 Z17
  let Z27:=pT d 0
  PF Try.f82 [Z2,iV n,.agg #[iV fk,.string ft]] g [.idx b,.idx b2,.idx c,.idx c',.val Z1,.num j,.offs q,.val (iV ow),.cells Z3,.ret Z7 g1,.cells Z8,.val Z5,.num j,.offs q,.cells x1,.val Z4,.num j1,.offs q1,.cells x2,.val Z6,.num j1,.offs q3,.cells x3,.val Z5,.num j,.offs q,.cells Z9,.idx d,.cells Z10,.val (iV yk),.bit false,.cells Z8,.cells Z10,.cells Z8,.cells Z10,.cells Z8,.cells Z10] =
  some (.tuple #[Z7,Z11],Z22,[],[.len g b,.len Z23 b2,.len Z24 c,.len Z25 c',.ld1 Z26 b 1 Z1,.arith .sub .i64 n 1 j,.off q 0 j m 6,.ld1 Z26 o q (iV ow),.ldn Z26 b 0 3 Z3,.call 83 [Z2,iV ow] Z26 Z7 g1,.st g1 b 0 Z8 Z8,.ld1 Z13 b 1 Z5,.arith .sub .i64 n 1 j,.off q 0 j m 6,.st Z13 o2 (Nat.succ (Nat.succ q)) [bT] x1,.ld1 Z14 b 0 Z4,.arith .sub .i64 ow 1 j1,.off q1 0 j1 m1 6,.st Z14 o1 (Nat.succ (Nat.succ q1)) [bF] x2,.ld1 Z15 b 2 Z6,.arith .sub .i64 ow 1 j1,.off q3 0 j1 m1 2,.st Z15 o3 q3 [iV 0,.string eS] x3,.ld1 Z16 b 1 Z5,.arith .sub .i64 n 1 j,.off q 0 j m 6,.ldn Z16 o2 (Nat.succ (Nat.succ (Nat.succ (Nat.succ q)))) 2 Z9,.len Z16 d,.st Z18 d 0 Z10 Z10,.ld1 Z20 d 3 (iV yk),.cmp .eql yk 0 false,.stat (drawN Try.f82 0),.again Z20 49 Z27 Z11,.again Z20 49 Z27 Z11,.again Z21 49 Z27 Z11,.ldn Z20 b 0 3 Z8,.ldn Z20 d 0 5 Z10,.st Z20 c 0 Z8 Z8,.st Z21 c' 0 Z10 Z10,.ldn Z22 c 0 3 Z8,.ldn Z22 c' 0 5 Z10]):=by intros;kernel_rfl
theorem ov_no(a1 a3:OA)(n1 n3 z1 z3:Nat)(o m o1 m1 o2 o3 b b2 c c' d q q1 q3:Nat)(n ow j j1 fk yk:Int)(yt ft:ByteArray)(x1 x2 x3:LV)(g g1:Hp) :
  let Z1:=sL o m 6
  let Z2:V:=.agg #[.slice a1 n1 z1,Z1,.slice a3 n3 z3]
  let Z3:LV:=[.slice a1 n1 z1,Z1,.slice a3 n3 z3]
  let Z4:=sL o1 m1 6
  let Z5:=sL o2 m 6
  let Z6:=sL o3 m1 2
  let Z7:V:=.agg #[Z4,Z5,Z6]
  let Z8:LV:=[Z4,Z5,Z6]
  let Z9:LV:=[iV yk,.string yt]
  let Z10:LV:=[iV 3,iV ow,iV n,iV yk,.string yt]
  let Z11:V:=.agg #[iV 3,iV ow,iV n,iV yk,.string yt]
  let Z12:AObj:=cS Z8
  let Z13:SH:=.set g1 b Z12
  let Z14:SH:=.set Z13 o2 (cS x1)
  let Z15:SH:=.set Z14 o1 (cS x2)
  let Z16:SH:=.set Z15 o3 (cS x3)
  let Z17:AObj:=cS [iV 0,iV 0,iV 0,iV 0,.string eS]
  let Z18:SH:=.push Z16 Z17
  let Z19:AObj:=cS Z10
  let Z20:SH:=.set Z18 d Z19
  let Z21:SH:=.set Z20 c Z12
  let Z22:SH:=.set Z21 c' Z19
  let Z23:SH:=.push g (cS Z3)
  let Z24:SH:=.push Z23 (cS [iV fk,.string ft])
  let Z25:SH:=.push Z24 (cS [nS,nS,nS])
  let Z26:SH:=.push Z25 Z17
  let Z27:=pT d 0
  PF Try.f82 [Z2,iV n,.agg #[iV fk,.string ft]] g [.idx b,.idx b2,.idx c,.idx c',.val Z1,.num j,.offs q,.val (iV ow),.cells Z3,.ret Z7 g1,.cells Z8,.val Z5,.num j,.offs q,.cells x1,.val Z4,.num j1,.offs q1,.cells x2,.val Z6,.num j1,.offs q3,.cells x3,.val Z5,.num j,.offs q,.cells Z9,.idx d,.cells Z10,.val (iV yk),.bit true,.val (iV fk),.bit false,.cells Z8,.cells Z10,.cells Z8,.cells Z10,.cells Z8,.cells Z10] =
  some (.tuple #[Z7,Z11],Z22,[],[.len g b,.len Z23 b2,.len Z24 c,.len Z25 c',.ld1 Z26 b 1 Z1,.arith .sub .i64 n 1 j,.off q 0 j m 6,.ld1 Z26 o q (iV ow),.ldn Z26 b 0 3 Z3,.call 83 [Z2,iV ow] Z26 Z7 g1,.st g1 b 0 Z8 Z8,.ld1 Z13 b 1 Z5,.arith .sub .i64 n 1 j,.off q 0 j m 6,.st Z13 o2 (Nat.succ (Nat.succ q)) [bT] x1,.ld1 Z14 b 0 Z4,.arith .sub .i64 ow 1 j1,.off q1 0 j1 m1 6,.st Z14 o1 (Nat.succ (Nat.succ q1)) [bF] x2,.ld1 Z15 b 2 Z6,.arith .sub .i64 ow 1 j1,.off q3 0 j1 m1 2,.st Z15 o3 q3 [iV 0,.string eS] x3,.ld1 Z16 b 1 Z5,.arith .sub .i64 n 1 j,.off q 0 j m 6,.ldn Z16 o2 (Nat.succ (Nat.succ (Nat.succ (Nat.succ q)))) 2 Z9,.len Z16 d,.st Z18 d 0 Z10 Z10,.ld1 Z20 d 3 (iV yk),.cmp .eql yk 0 true,.ld1 Z20 b2 0 (iV fk),.cmp .eql fk 2 false,.stat (drawN Try.f82 0),.again Z20 49 Z27 Z11,.again Z20 49 Z27 Z11,.again Z21 49 Z27 Z11,.ldn Z20 b 0 3 Z8,.ldn Z20 d 0 5 Z10,.st Z20 c 0 Z8 Z8,.st Z21 c' 0 Z10 Z10,.ldn Z22 c 0 3 Z8,.ldn Z22 c' 0 5 Z10]):=by intros;kernel_rfl
theorem ov_own(a1 a3:OA)(n1 n3 z1 z3:Nat)(o m o1 m1 o2 o3 b b2 c c' d q q1 q3:Nat)(n ow j j1 fk yk:Int)(yt ft:ByteArray)(x1 x2 x3:LV)(g g1:Hp) :
  let Z1:=sL o m 6
  let Z2:V:=.agg #[.slice a1 n1 z1,Z1,.slice a3 n3 z3]
  let Z3:LV:=[.slice a1 n1 z1,Z1,.slice a3 n3 z3]
  let Z4:=sL o1 m1 6
  let Z5:=sL o2 m 6
  let Z6:=sL o3 m1 2
  let Z7:V:=.agg #[Z4,Z5,Z6]
  let Z8:LV:=[Z4,Z5,Z6]
  let Z9:LV:=[iV yk,.string yt]
  let Z10:LV:=[iV 3,iV ow,iV n,iV yk,.string yt]
  let Z11:LV:=[iV fk,.string ft]
  let Z12:LV:=[iV 3,iV ow,iV n,iV fk,.string ft]
  let Z13:V:=.agg #[iV 3,iV ow,iV n,iV fk,.string ft]
  let Z14:AObj:=cS Z8
  let Z15:SH:=.set g1 b Z14
  let Z16:SH:=.set Z15 o2 (cS x1)
  let Z17:SH:=.set Z16 o1 (cS x2)
  let Z18:SH:=.set Z17 o3 (cS x3)
  let Z19:AObj:=cS [iV 0,iV 0,iV 0,iV 0,.string eS]
  let Z20:SH:=.push Z18 Z19
  let Z21:SH:=.set Z20 d (cS Z10)
  let Z22:AObj:=cS Z12
  let Z23:SH:=.set Z21 d Z22
  let Z24:SH:=.set Z23 c Z14
  let Z25:SH:=.set Z24 c' Z22
  let Z26:SH:=.push g (cS Z3)
  let Z27:SH:=.push Z26 (cS Z11)
  let Z28:SH:=.push Z27 (cS [nS,nS,nS])
  let Z29:SH:=.push Z28 Z19
  let Z30:=pT d 0
  PF Try.f82 [Z2,iV n,.agg #[iV fk,.string ft]] g [.idx b,.idx b2,.idx c,.idx c',.val Z1,.num j,.offs q,.val (iV ow),.cells Z3,.ret Z7 g1,.cells Z8,.val Z5,.num j,.offs q,.cells x1,.val Z4,.num j1,.offs q1,.cells x2,.val Z6,.num j1,.offs q3,.cells x3,.val Z5,.num j,.offs q,.cells Z9,.idx d,.cells Z10,.val (iV yk),.bit true,.val (iV fk),.bit true,.cells Z11,.cells Z12,.cells Z8,.cells Z12,.cells Z8,.cells Z12,.cells Z8,.cells Z12] =
  some (.tuple #[Z7,Z13],Z25,[],[.len g b,.len Z26 b2,.len Z27 c,.len Z28 c',.ld1 Z29 b 1 Z1,.arith .sub .i64 n 1 j,.off q 0 j m 6,.ld1 Z29 o q (iV ow),.ldn Z29 b 0 3 Z3,.call 83 [Z2,iV ow] Z29 Z7 g1,.st g1 b 0 Z8 Z8,.ld1 Z15 b 1 Z5,.arith .sub .i64 n 1 j,.off q 0 j m 6,.st Z15 o2 (Nat.succ (Nat.succ q)) [bT] x1,.ld1 Z16 b 0 Z4,.arith .sub .i64 ow 1 j1,.off q1 0 j1 m1 6,.st Z16 o1 (Nat.succ (Nat.succ q1)) [bF] x2,.ld1 Z17 b 2 Z6,.arith .sub .i64 ow 1 j1,.off q3 0 j1 m1 2,.st Z17 o3 q3 [iV 0,.string eS] x3,.ld1 Z18 b 1 Z5,.arith .sub .i64 n 1 j,.off q 0 j m 6,.ldn Z18 o2 (Nat.succ (Nat.succ (Nat.succ (Nat.succ q)))) 2 Z9,.len Z18 d,.st Z20 d 0 Z10 Z10,.ld1 Z21 d 3 (iV yk),.cmp .eql yk 0 true,.ld1 Z21 b2 0 (iV fk),.cmp .eql fk 2 true,.ldn Z21 b2 0 2 Z11,.st Z21 d 3 Z11 Z12,.stat (drawN Try.f82 0),.again Z23 49 Z30 Z13,.again Z23 49 Z30 Z13,.again Z24 49 Z30 Z13,.ldn Z23 b 0 3 Z8,.ldn Z23 d 0 5 Z12,.st Z23 c 0 Z8 Z8,.st Z24 c' 0 Z12 Z12,.ldn Z25 c 0 3 Z8,.ldn Z25 c' 0 5 Z12]):=by intros;kernel_rfl
end Go.Proofs.Ytahomnlkkafbjaa.q3p
namespace Go.Proofs.Ytahomnlkkafbjaa.rf
open Go Go.Ev Go.Proofs.Ytahomnlkkafbjaa.tr
theorem textR_run(g:Hp)(s:ByteArray):Run Try.prog 85 [.string s] g (.bool (textB s)) g:=by
 by_cases hl:s.size<=60
 ·have f0:(Asm.cmp .gtr (Int.ofNat s.size) 60 false).holds Try.prog:=gtF (by simp only[Int.ofNat_eq_natCast];omega)
  have hlen:s.data.toList.length=s.size:=Array.length_toList
  have f2:∀ (k:Nat) b,s.data.toList[k]?=some b->(Asm.sidx s (k:Int) b.toNat).holds Try.prog:=fun k b hb=>by
   have hk:=gTq hb
   have hat:s[k]?=some b:=by rw[byte_at (by omega),<- hb,List.getElem?_eq_getElem]
   exact⟨by omega,b,by simpa using hat,rfl⟩
  rcases scan_loop (P:=Try.prog) (n:=23) (rd:=false) (b:=loopN Try.f85 0) (xh:=.ret) (xo:=.exit 0) (by simp) (by simp) (len:=s.size) (fun i=>((s.data.toList[i]?).map fun b=>!okB b).getD false)
   (fun i E g'=>EnvLe [(3,iV (i:Int)),(0,.string s)] E/\g'=g) (QH:=fun _ E g'=>EnvLe [(2,.bool false)] E/\g'=g) (QO:=fun E g'=>g'=g)
   (fun i E g' hi hp ⟨hE,hg⟩=>by
    subst hg
    obtain⟨b,hb⟩:∃ b,s.data.toList[i]?=some b:=⟨_,List.getElem?_eq_getElem (by omega)⟩
    rw[hb] at hp
    simp[okB] at hp
    obtain⟨E2,q1,q2⟩:=pvK 0 hE (q1p.tx_go s i g' b.toNat ((i+1:Nat):Int)) ⟨ltT (by simp only[Int.ofNat_eq_natCast];omega),f2 i b hb,ltF (by omega),f2 i b hb,gtF (by omega),addI rfl (by omega) (by omega),trivial⟩
    exact⟨E2,_,⟨tR q1,rfl⟩,q2⟩)
   (fun i E g' hi hp ⟨hE,hg⟩=>by
    subst hg
    obtain⟨b,hb⟩:∃ b,s.data.toList[i]?=some b:=⟨_,List.getElem?_eq_getElem (by omega)⟩
    rw[hb] at hp
    simp[okB] at hp
    by_cases h1:b.toNat<32
    ·obtain⟨E2,q1,q2⟩:=pvK 0 hE (q1p.tx_low s i g' b.toNat) ⟨ltT (by simp only[Int.ofNat_eq_natCast];omega),f2 i b hb,ltT (by omega),trivial⟩
     exact⟨E2,_,⟨tR q1,rfl⟩,q2⟩
    ·obtain⟨E2,q1,q2⟩:=pvK 0 hE (q1p.tx_high s i g' b.toNat) ⟨ltT (by simp only[Int.ofNat_eq_natCast];omega),f2 i b hb,ltF (by omega),f2 i b hb,gtT (by omega),trivial⟩
     exact⟨E2,_,⟨tR q1,rfl⟩,q2⟩)
   (fun E g' ⟨hE,hg⟩=>by
    subst hg
    obtain⟨E2,q1,q2⟩:=pvK 0 hE (q1p.tx_end s s.size g') ⟨ltF (by simp),trivial⟩
    exact⟨E2,_,rfl,q2⟩)
   [(3,iV ((0:Nat):Int)),(0,.string s)] g ⟨.refl _,rfl⟩ with⟨i,E1,g1,hi,hp,_,⟨hE1,rfl⟩,hl1⟩ | ⟨hall,E1,g1,rfl,hl1⟩
  ·have e:textB s=false:=by
    obtain⟨b,hb⟩:∃ b,s.data.toList[i]?=some b:=⟨_,List.getElem?_eq_getElem (by omega)⟩
    rw[hb] at hp
    have:(s.data.toList.all fun b=>decide (32<=b.toNat)&&decide (b.toNat<=126))=false:=List.all_eq_false.2 ⟨b,List.mem_of_getElem? hb,by
     simp[okB] at hp
     simp
     omega⟩
    simp only[textB,this,Bool.and_false]
   rw[e]
   obtain⟨E3,he3,rfl⟩:∃ E3,EnvLe ((2,.bool false)::E3) E1/\E3=E1:=⟨E1,.add (.refl _) (hE1 _ _ rfl),rfl⟩
   exact pvF 0 Try.func85 (q1p.tx_no s g1 g1 E3) ⟨f0,a_loop (by kernel_rfl) (.add (.add (.nil _) rfl) rfl) he3 hl1,trivial⟩
  ·have e:textB s=true:=by
    have:(s.data.toList.all fun b=>decide (32<=b.toNat)&&decide (b.toNat<=126))=true:=List.all_eq_true.2 fun b hb=>by
     obtain⟨i,hi⟩:=List.mem_iff_getElem?.1 hb
     have:=hall i (by have:=gTq hi;omega)
     rw[hi] at this
     simpa[okB] using this
    simp only[textB,this,decide_eq_true hl,Bool.and_self]
   rw[e]
   exact pvF 0 Try.func85 (q1p.tx_yes s g1 g1 E1) ⟨f0,a_loop (by kernel_rfl) (.add (.add (.nil _) rfl) rfl) (.refl _) hl1,trivial⟩
 ·have e:textB s=false:=by simp only[textB,decide_eq_false hl,Bool.false_and]
  rw[e]
  exact pvF 0 Try.func85 (q1p.tx_long s g) ⟨gtT (by simp only[Int.ofNat_eq_natCast];omega),trivial⟩
theorem validR_run(g:Hp)(fk:Int)(ft:ByteArray):Run Try.prog 78 [.agg #[iV fk,.string ft]] g (.bool (faultB fk ft)) (g++[.cells [iV fk,.string ft] true]):=by
 by_cases c0:fk=0
 ·have e:faultB fk ft=(ft.toList==(⟨#[]⟩:ByteArray).toList):=by simp[faultB,c0]
  rw[e]
  exact pvF 0 Try.func78 (q1p.va_0 g.length fk ft _ g) ⟨rfl,aL (gW g _) rfl,eqT c0,aL (gW g _) rfl,.inl ⟨rfl,rfl⟩,trivial⟩
 ·by_cases c2:fk=2
  ·have e:faultB fk ft=(ft.toList==(⟨#[]⟩:ByteArray).toList):=by simp[faultB,c2]
   rw[e]
   exact pvF 0 Try.func78 (q1p.va_2 g.length fk ft _ g) ⟨rfl,aL (gW g _) rfl,eqF c0,eqT c2,aL (gW g _) rfl,.inl ⟨rfl,rfl⟩,trivial⟩
  ·by_cases c1:fk=1
   ·have e:faultB fk ft=textB ft:=by simp[faultB,c1]
    rw[e]
    exact pvF 0 Try.func78 (q1p.va_1 g.length fk ft _ g _) ⟨rfl,aL (gW g _) rfl,eqF c0,eqF c2,eqT c1,aL (gW g _) rfl,textR_run _ _,trivial⟩
   ·have e:faultB fk ft=false:=by simp[faultB,c0,c1,c2]
    rw[e]
    exact pvF 0 Try.func78 (q1p.va_no g.length fk ft false g) ⟨rfl,aL (gW g _) rfl,eqF c0,eqF c2,eqF c1,trivial⟩
section
variable {h h1 h' g G:Hp} {σ σ':RLay} {t t':TS} {c k:Nat}
theorem RAtL.fpLt{tks lfs:List Tk}{scs:List Sc}(a:RAtL h σ tks scs lfs){i:Nat}(e:fpR σ i):i<h.length:=by
 obtain⟨r,e⟩:=e
 exact a.lt e
theorem Nxt.box(n:Nxt g σ h1 σ' t')(a:RAt h σ t)(K:Grow h g){q:Nat}(q1:h.length<=q)(q2:q<g.length)(o:AObj):Nxt h σ (h1.set q o) σ' t':=by
 have out:¬ fpR σ' q:=fun e=>by
  rcases n.nxt q e with e | e
  ·have:=a.fpLt e;omega
  ·omega
 refine⟨Grow.set (Grow.trans K n.grow) q1 _,n.at_.setN out _,fun i e=>?_⟩
 rcases n.nxt i e with e | e
 ·exact .inl e
 ·exact .inr (by have:=K.1;omega)
theorem box2(h:Hp)(l z:List Value):Grow h (h++[AObj.cells l true]++[AObj.cells z true]):=(boxT _ _).push _
theorem box2_len(h:Hp)(l z:List Value):(h++[AObj.cells l true]++[AObj.cells z true]).length=h.length+2:=by simp
theorem box2_0(h:Hp)(l z:List Value):(h++[AObj.cells l true]++[AObj.cells z true])[h.length]?=some (.cells l true):=gP (gW _ _)
theorem box2_1(h:Hp)(l z:List Value):(h++[AObj.cells l true]++[AObj.cells z true])[h.length+1]?=some (.cells z true):=gV _ (pL _ _)
theorem rootR_run(a:RAt h σ t)(ok:TOk c t)(hc:c<=100000)(hne:0<t.tks.length) :
  ∃ σ' h',Run Try.prog 66 [.agg (rT σ t).toArray] h (.tuple #[.agg (rT σ' t.root.1).toArray,iV t.root.2.1,iV t.root.2.2]) h'/\Nxt h σ h' σ' t.root.1:=by
 have K:=box2 h (rT σ t) zz
 obtain⟨σ',g1,r,n⟩:=taskR_run (a.grow K) ok hc hne none (fun s e=>by cases e)
 have e:taskG t none=t.root:=rfl
 rw[e] at r n
 have b1:=n.grow.get (box2_1 h (rT σ t) zz)
 refine⟨σ',_,pvF 0 Try.func66 (q3p.root (sA (σ .ts)) (sA (σ .ss)) (sA (σ .lf)) t.tks.length t.scs.length t.tks.length (sZ (σ .ts) 6) (sZ (σ .ss) 6) (sZ (σ .lf) 2) (sA (σ' .ts)) (sA (σ' .ss)) (sA (σ' .lf)) t.root.1.tks.length t.root.1.scs.length t.root.1.tks.length (sZ (σ' .ts) 6) (sZ (σ' .ss) 6) (sZ (σ' .lf) 2) h.length (h.length+1) _ _ h g1)
  ⟨rfl,pL _ _,aN (box2_0 _ _ _) (by simp[rT]) rfl,r,a_st b1 (by simp) rfl,aN (gE b1) (by simp) rfl,trivial⟩,n.box a K (by omega) (by simp) _⟩
theorem inmost_snoc:∀ (l:List (Option Nat)) (v:Option Nat),inmost (l++[v])=match v with
  | some s=>some s
  | none=>inmost l
 | [],v=>by cases v<;>rfl
 | x::l,v=>by
  rw[List.cons_append,inmost,inmost_snoc l v]
  cases v with
  | some s=>rfl
  | none=>rfl
theorem spawnR_run(a:RAt h σ t)(ok:TOk c t)(hc:c<=100000)(hne:0<t.tks.length)(n:Int) :
  ∃ σ' h',Run Try.prog 59 [.agg (rT σ t).toArray,iV n] h (.tuple #[.agg (rT σ' (t.spawn n).1).toArray,iV (t.spawn n).2.1,iV (t.spawn n).2.2]) h'/\Nxt h σ h' σ' (t.spawn n).1:=by
 have n64:=ok.n64
 have K:=box2 h (rT σ t) zz
 obtain⟨g1,r1,K1⟩:=busyR_run (a.grow K) ok n
 have b0:=K1.get (box2_0 h (rT σ t) zz)
 have b1:=K1.get (box2_1 h (rT σ t) zz)
 cases hq:t.acts n with
 | mk ko e =>
  cases ko with
  | none =>
   have he:=acts_none hq
   have es:t.spawn n=(t,0,e):=by simp only[TS.spawn,hq]
   rw[es]
   rw[hq] at r1
   exact⟨σ,_,pvF 0 Try.func59 (q3p.sp_err (sA (σ .ts)) (sA (σ .ss)) (sA (σ .lf)) t.tks.length t.scs.length t.tks.length (sZ (σ .ts) 6) (sZ (σ .ss) 6) (sZ (σ .lf) 2) h.length (h.length+1) n e h g1)
    ⟨rfl,pL _ _,aN (box2_0 _ _ _) (by simp[rT]) rfl,r1,neT (by omega),aN b0 (by simp[rT]) rfl,a_st b1 (by simp) rfl,aN (gE b1) (by simp) rfl,trivial⟩,Nxt.same a (Grow.set (Grow.trans K K1) (by omega) _)⟩
  | some k =>
   obtain⟨rfl,hn,x,hx,he,hl⟩:=acts_some hq
   have hn':n=((k+1:Nat):Int):=by omega
   subst hn'
   rw[hq] at r1
   have hk:=gTq hx
   have hln:=ok.len k x hx
   obtain⟨o,ho⟩:=a.tsO hx
   have KK:=Grow.trans K K1
   obtain⟨E1,g2,⟨hE1,K2⟩,hl2⟩:=for_loop (P:=Try.prog) (n:=45) (rd:=false) (b:=loopN Try.f59 0) (xo:=.exit 0) (by simp) (len:=x.opn.length) (Q:=fun E g=>EnvLe [(8,iV (lkN (inmost x.opn))),(4,ptr (h.length+1)),(2,ptr h.length)] E/\Grow g1 g)
    (fun i E g=>EnvLe [(26,iV (i:Int)),(25,iV (Int.ofNat x.opn.length)),(24,slz (σ (.op k)) x.opn.length 2),(8,iV (lkN (inmost (x.opn.take i)))),(4,ptr (h.length+1)),(2,ptr h.length)] E/\Grow g1 g)
    (fun i E g hi ⟨hE,Kg⟩=>by
     obtain⟨v,hv⟩:∃ v,x.opn[i]?=some v:=⟨_,List.getElem?_eq_getElem hi⟩
     obtain⟨so,hso⟩:=a.opO hx hi
     simp only[hso,sA,sZ] at hE ⊢
     have L:=a.opC hso hx hv (P:=Try.prog) (s:=.is g) (Grow.trans KK Kg)
     rw[lkC_eq] at L
     rw[take_one hv,inmost_snoc]
     have gl:=Kg.1
     cases v with
     | none =>
      obtain⟨E2,q1,q2⟩:=pvK 0 hE (q3p.spl_no h.length (h.length+1) (i*2) g.length so x.opn.length 0 none i ((i+1:Nat):Int) (lkK none) (lkN none) _ 0 g)
       ⟨ltT (by simp;omega),offI (q:=i) rfl hi (by omega),L,rfl,a_st (gW g _) (by simp) rfl,aL (gE (gW g _)) rfl,eqF (by simp[lkK]),addI rfl (by omega) (by omega),trivial⟩
      exact⟨E2,_,⟨tR q1,Grow.set (Grow.push Kg _) (by omega) _⟩,q2⟩
     | some s =>
      obtain⟨E2,q1,q2⟩:=pvK 0 hE (q3p.spl_yes h.length (h.length+1) (i*2) g.length so x.opn.length 0 none i ((i+1:Nat):Int) (lkK (some s)) (lkN (some s)) _ 0 g)
       ⟨ltT (by simp;omega),offI (q:=i) rfl hi (by omega),L,rfl,a_st (gW g _) (by simp) rfl,aL (gE (gW g _)) rfl,eqT rfl,aL (gE (gW g _)) rfl,addI rfl (by omega) (by omega),trivial⟩
      exact⟨E2,_,⟨tR q1,Grow.set (Grow.push Kg _) (by omega) _⟩,q2⟩)
    (fun E g ⟨hE,Kg⟩=>by
     rw[List.take_length] at hE
     obtain⟨E2,q1,q2⟩:=pvC 0 hE (q3p.spl_out h.length (h.length+1) 0 0 0 x.opn.length _ _ x.opn.length 0 0 0 _ 0 g) ⟨ltF (by simp),trivial⟩
     exact⟨E2,_,⟨tR q1,Kg⟩,q2⟩)
    [(26,iV ((0:Nat):Int)),(25,iV (Int.ofNat x.opn.length)),(24,slz (σ (.op k)) x.opn.length 2),(8,iV (lkN (inmost (x.opn.take 0)))),(4,ptr (h.length+1)),(2,ptr h.length)] g1 ⟨.refl _,.refl _⟩
   have KG:=Grow.trans KK K2
   have d0:=K2.get b0
   have d1:=K2.get b1
   obtain⟨E3,he3,rfl⟩:∃ E3,EnvLe ((8,iV (lkN (inmost x.opn)))::(4,ptr (h.length+1))::(2,ptr h.length)::E3) E1/\E3=E1:=⟨E1,.add (.add (.add (.refl _) (hE1 _ _ rfl)) (hE1 _ _ rfl)) (hE1 _ _ rfl),rfl⟩
   have SB:(Asm.arith .sub .i64 ((k+1:Nat):Int) 1 (k:Int)).holds Try.prog:=subI (by omega) (by omega) (by omega)
   have OF:(Asm.off (k*6) 0 (k:Int) t.tks.length 6).holds Try.prog:=offI (q:=k) rfl hk (by omega)
   have LD:(Asm.ld1 (.is g1) o (k*6+5) (slz (σ (.op k)) x.opn.length 2)).holds Try.prog:=a.tsC ho hx (d:=5) rfl KK
   obtain⟨R,hR⟩:∃ R,R=rT σ t:=⟨_,rfl⟩
   have hR':rT σ t=rV (some o) (σ .ss) (σ .lf) t.tks.length t.scs.length:=by rw[rT,ho]
   cases hi:inmost x.opn with
   | none =>
    have es:t.spawn ((k+1:Nat):Int)=(t,0,22):=by simp only[TS.spawn,hq,hx,hi]
    rw[es]
    rw[hi] at he3
    rw[hR'] at r1 b0 d0
    exact⟨σ,_,by
     rw[hR']
     exact pvF 0 Try.func59 (q3p.sp_no (sA (σ .ss)) (sA (σ .lf)) t.scs.length t.tks.length (sZ (σ .ss) 6) (sZ (σ .lf) 2) none none none 0 0 0 0 0 0 o t.tks.length h.length (h.length+1) (k*6) (sA (σ (.op k))) x.opn.length (sZ (σ (.op k)) 2) _ k _ 0 0 E3 h g1 g2 g2)
      ⟨rfl,pL _ _,aN (box2_0 _ _ _) (by simp) rfl,r1,neF rfl,aL b0 rfl,SB,OF,LD,a_loop (by kernel_rfl) (.add (.add (.add (.add (.add (.add (.nil _) rfl) rfl) rfl) rfl) rfl) rfl) he3 hl2,eqT rfl,aN d0 (by simp) rfl,a_st d1 (by simp) rfl,aN (gE d1) (by simp) rfl,trivial⟩,Nxt.same a (Grow.set KG (by omega) _)⟩
   | some s =>
    have hs:s<t.scs.length:=ok.opn k x s hx (inmost_mem hi)
    have es:t.spawn ((k+1:Nat):Int)=taskG t (some s):=by simp only[TS.spawn,hq,hx,hi];rfl
    rw[es]
    rw[hi] at he3
    obtain⟨σ',g3,r3,n3⟩:=taskR_run (a.grow KG) ok hc hne (some s) (fun s' e=>by cases e;exact hs)
    have d1':=n3.grow.get d1
    rw[hR'] at r1 b0 d0 r3
    refine⟨σ',_,by
     rw[hR']
     exact pvF 0 Try.func59 (q3p.sp_go (sA (σ .ss)) (sA (σ .lf)) t.scs.length t.tks.length (sZ (σ .ss) 6) (sZ (σ .lf) 2) (sA (σ' .ts)) (sA (σ' .ss)) (sA (σ' .lf)) _ _ _ (sZ (σ' .ts) 6) (sZ (σ' .ss) 6) (sZ (σ' .lf) 2) o t.tks.length h.length (h.length+1) (k*6) (sA (σ (.op k))) x.opn.length (sZ (σ (.op k)) 2) _ k (lkN (some s)) _ _ E3 h g1 g2 g3)
      ⟨rfl,pL _ _,aN (box2_0 _ _ _) (by simp) rfl,r1,neF rfl,aL b0 rfl,SB,OF,LD,a_loop (by kernel_rfl) (.add (.add (.add (.add (.add (.add (.nil _) rfl) rfl) rfl) rfl) rfl) rfl) he3 hl2,eqF (by simp[lkN];omega),aN d0 (by simp) rfl,r3,a_st d1' (by simp) rfl,aN (gE d1') (by simp) rfl,trivial⟩,n3.box a KG (by omega) (by have:=K1.1;have:=K2.1;rw[box2_len] at *;omega) _⟩
end
end Go.Proofs.Ytahomnlkkafbjaa.rf
namespace Go.Proofs.Ytahomnlkkafbjaa.rf
open Go Go.Ev Go.Proofs.Ytahomnlkkafbjaa.tr
section
variable {h h1 h' g G:Hp} {σ σ':RLay} {t t':TS} {c k:Nat}
theorem nones_snoc(l:List (Option Nat))(v:Option Nat):nones (l++[v])=nones l+if v=none then 1 else 0:=by
 simp only[nones,List.countP_append,List.countP_singleton]
 cases v<;>rfl
theorem shieldR_run(a:RAt h σ t)(ok:TOk c t)(hc:c<=100000)(hne:0<t.tks.length)(n:Int) :
  ∃ σ' h',Run Try.prog 63 [.agg (rT σ t).toArray,iV n] h (.tuple #[.agg (rT σ' (t.shield n).1).toArray,iV (t.shield n).2]) h'/\Nxt h σ h' σ' (t.shield n).1:=by
 have n64:=ok.n64
 have K:=box2 h (rT σ t) zz
 obtain⟨g1,r1,K1⟩:=busyR_run (a.grow K) ok n
 have b0:=K1.get (box2_0 h (rT σ t) zz)
 have b1:=K1.get (box2_1 h (rT σ t) zz)
 cases hq:t.acts n with
 | mk ko e =>
  cases ko with
  | none =>
   have he:=acts_none hq
   have es:t.shield n=(t,e):=by simp only[TS.shield,hq]
   rw[es]
   rw[hq] at r1
   exact⟨σ,_,pvF 0 Try.func63 (q3p.sh_err (sA (σ .ts)) (sA (σ .ss)) (sA (σ .lf)) t.tks.length t.scs.length t.tks.length (sZ (σ .ts) 6) (sZ (σ .ss) 6) (sZ (σ .lf) 2) h.length (h.length+1) n e h g1)
    ⟨rfl,pL _ _,aN (box2_0 _ _ _) (by simp[rT]) rfl,r1,neT (by omega),aN b0 (by simp[rT]) rfl,a_st b1 (by simp) rfl,aN (gE b1) (by simp) rfl,trivial⟩,Nxt.same a (Grow.set (Grow.trans K K1) (by omega) _)⟩
  | some k =>
   obtain⟨rfl,hn,x,hx,he,hl⟩:=acts_some hq
   have hn':n=((k+1:Nat):Int):=by omega
   subst hn'
   rw[hq] at r1
   have hk:=gTq hx
   have hln:=ok.len k x hx
   have hnn:nones x.opn<=x.opn.length:=List.countP_le_length
   obtain⟨o,ho⟩:=a.tsO hx
   have KK:=Grow.trans K K1
   obtain⟨E1,g2,⟨hE1,K2⟩,hl2⟩:=for_loop (P:=Try.prog) (n:=42) (rd:=false) (b:=loopN Try.f63 0) (xo:=.exit 0) (by simp) (len:=x.opn.length) (Q:=fun E g=>EnvLe [(7,iV ((nones x.opn:Nat):Int)),(4,ptr (h.length+1)),(2,ptr h.length),(1,iV ((k+1:Nat):Int))] E/\Grow g1 g)
    (fun i E g=>EnvLe [(25,iV (i:Int)),(24,iV (Int.ofNat x.opn.length)),(23,slz (σ (.op k)) x.opn.length 2),(7,iV ((nones (x.opn.take i):Nat):Int)),(4,ptr (h.length+1)),(2,ptr h.length),(1,iV ((k+1:Nat):Int))] E/\Grow g1 g)
    (fun i E g hi ⟨hE,Kg⟩=>by
     obtain⟨v,hv⟩:∃ v,x.opn[i]?=some v:=⟨_,List.getElem?_eq_getElem hi⟩
     obtain⟨so,hso⟩:=a.opO hx hi
     simp only[hso,sA,sZ] at hE ⊢
     have L:=a.opC hso hx hv (P:=Try.prog) (s:=.is g) (Grow.trans KK Kg)
     rw[lkC_eq] at L
     rw[take_one hv,nones_snoc]
     have gl:=Kg.1
     have ht:nones (x.opn.take i)<=i:=Nat.le_trans List.countP_le_length (by simp;omega)
     cases v with
     | none =>
      obtain⟨E2,q1,q2⟩:=pvK 0 hE (q3p.shl_yes h.length (h.length+1) (i*2) g.length so x.opn.length 0 none i ((i+1:Nat):Int) (lkK none) (lkN none) _ ((nones (x.opn.take i)+1:Nat):Int) _ g)
       ⟨ltT (by simp;omega),offI (q:=i) rfl hi (by omega),L,rfl,a_st (gW g _) (by simp) rfl,aL (gE (gW g _)) rfl,eqT rfl,addI rfl (by omega) (by omega),addI rfl (by omega) (by omega),trivial⟩
      exact⟨E2,_,⟨tR q1,Grow.set (Grow.push Kg _) (by omega) _⟩,q2⟩
     | some s =>
      obtain⟨E2,q1,q2⟩:=pvK 0 hE (q3p.shl_no h.length (h.length+1) (i*2) g.length so x.opn.length 0 none i ((i+1:Nat):Int) (lkK (some s)) (lkN (some s)) _ 0 _ g)
       ⟨ltT (by simp;omega),offI (q:=i) rfl hi (by omega),L,rfl,a_st (gW g _) (by simp) rfl,aL (gE (gW g _)) rfl,eqF (by simp[lkK]),addI rfl (by omega) (by omega),trivial⟩
      exact⟨E2,_,⟨tR q1,Grow.set (Grow.push Kg _) (by omega) _⟩,q2⟩)
    (fun E g ⟨hE,Kg⟩=>by
     rw[List.take_length] at hE
     obtain⟨E2,q1,q2⟩:=pvC 0 hE (q3p.shl_out h.length (h.length+1) 0 0 0 x.opn.length _ _ x.opn.length 0 0 0 _ 0 _ g) ⟨ltF (by simp),trivial⟩
     exact⟨E2,_,⟨tR q1,Kg⟩,q2⟩)
    [(25,iV ((0:Nat):Int)),(24,iV (Int.ofNat x.opn.length)),(23,slz (σ (.op k)) x.opn.length 2),(7,iV ((nones (x.opn.take 0):Nat):Int)),(4,ptr (h.length+1)),(2,ptr h.length),(1,iV ((k+1:Nat):Int))] g1 ⟨.refl _,.refl _⟩
   have KG:=Grow.trans KK K2
   have d0:=K2.get b0
   have d1:=K2.get b1
   obtain⟨E3,he3,rfl⟩:∃ E3,EnvLe ((7,iV ((nones x.opn:Nat):Int))::(4,ptr (h.length+1))::(2,ptr h.length)::(1,iV ((k+1:Nat):Int))::E3) E1/\E3=E1:=⟨E1,.add (.add (.add (.add (.refl _) (hE1 _ _ rfl)) (hE1 _ _ rfl)) (hE1 _ _ rfl)) (hE1 _ _ rfl),rfl⟩
   have SB:(Asm.arith .sub .i64 ((k+1:Nat):Int) 1 (k:Int)).holds Try.prog:=subI (by omega) (by omega) (by omega)
   have OF:(Asm.off (k*6) 0 (k:Int) t.tks.length 6).holds Try.prog:=offI (q:=k) rfl hk (by omega)
   have LD:(Asm.ld1 (.is g1) o (k*6+5) (slz (σ (.op k)) x.opn.length 2)).holds Try.prog:=a.tsC ho hx (d:=5) rfl KK
   have hR':rT σ t=rV (some o) (σ .ss) (σ .lf) t.tks.length t.scs.length:=by rw[rT,ho]
   by_cases hi:40<=nones x.opn
   ·have es:t.shield ((k+1:Nat):Int)=(t,5):=by simp only[TS.shield,hq,hx,if_pos hi]
    rw[es]
    rw[hR'] at r1 b0 d0
    exact⟨σ,_,by
     rw[hR']
     exact pvF 0 Try.func63 (q3p.sh_full (sA (σ .ss)) (sA (σ .lf)) t.scs.length t.tks.length (sZ (σ .ss) 6) (sZ (σ .lf) 2) none none none 0 0 0 0 0 0 o t.tks.length h.length (h.length+1) (k*6) (sA (σ (.op k))) x.opn.length (sZ (σ (.op k)) 2) _ k _ E3 h g1 g2 g2)
      ⟨rfl,pL _ _,aN (box2_0 _ _ _) (by simp) rfl,r1,neF rfl,aL b0 rfl,SB,OF,LD,a_loop (by kernel_rfl) (.add (.add (.add (.add (.add (.add (.add (.nil _) rfl) rfl) rfl) rfl) rfl) rfl) rfl) he3 hl2,geT (by omega),aN d0 (by simp) rfl,a_st d1 (by simp) rfl,aN (gE d1) (by simp) rfl,trivial⟩,Nxt.same a (Grow.set KG (by omega) _)⟩
   ·have es:t.shield ((k+1:Nat):Int)=(t.upT k (addL none),0):=by simp only[TS.shield,hq,hx,if_neg hi];rfl
    rw[es]
    obtain⟨σ',g3,r3,n3⟩:=linked_run (a.grow KG) ok hc hx none
    have n3:=n3.nxt (σ:=σ)
    have d1':=n3.grow.get d1
    rw[hR'] at r1 b0 d0 r3
    refine⟨σ',_,by
     rw[hR']
     exact pvF 0 Try.func63 (q3p.sh_go (sA (σ .ss)) (sA (σ .lf)) t.scs.length t.tks.length (sZ (σ .ss) 6) (sZ (σ .lf) 2) (sA (σ' .ts)) (sA (σ' .ss)) (sA (σ' .lf)) _ _ _ (sZ (σ' .ts) 6) (sZ (σ' .ss) 6) (sZ (σ' .lf) 2) o t.tks.length h.length (h.length+1) (k*6) (sA (σ (.op k))) x.opn.length (sZ (σ (.op k)) 2) _ k _ E3 h g1 g2 g3)
      ⟨rfl,pL _ _,aN (box2_0 _ _ _) (by simp) rfl,r1,neF rfl,aL b0 rfl,SB,OF,LD,a_loop (by kernel_rfl) (.add (.add (.add (.add (.add (.add (.add (.nil _) rfl) rfl) rfl) rfl) rfl) rfl) rfl) he3 hl2,geF (by omega),aN d0 (by simp) rfl,r3,a_st d1' (by simp) rfl,aN (gE d1') (by simp) rfl,trivial⟩,n3.box a KG (by omega) (by have:=K1.1;have:=K2.1;rw[box2_len] at *;omega) _⟩
theorem unveilR_run(a:RAt h σ t)(ok:TOk c t)(hc:c<=100000)(hne:0<t.tks.length)(n:Int) :
  ∃ σ' h',Run Try.prog 64 [.agg (rT σ t).toArray,iV n] h (.tuple #[.agg (rT σ' (t.unveil n).1).toArray,iV (t.unveil n).2]) h'/\Nxt h σ h' σ' (t.unveil n).1:=by
 have K:=box2 h (rT σ t) zz
 obtain⟨g1,r1,K1⟩:=busyR_run (a.grow K) ok n
 have b0:=K1.get (box2_0 h (rT σ t) zz)
 have b1:=K1.get (box2_1 h (rT σ t) zz)
 cases hq:t.acts n with
 | mk ko e =>
  cases ko with
  | none =>
   have he:=acts_none hq
   have es:t.unveil n=(t,e):=by simp only[TS.unveil,hq]
   rw[es]
   rw[hq] at r1
   exact⟨σ,_,pvF 0 Try.func64 (q3p.un_err (sA (σ .ts)) (sA (σ .ss)) (sA (σ .lf)) t.tks.length t.scs.length t.tks.length (sZ (σ .ts) 6) (sZ (σ .ss) 6) (sZ (σ .lf) 2) none none none 0 0 0 0 0 0 h.length (h.length+1) n e 0 0 h g1 g1 g1)
    ⟨rfl,pL _ _,aN (box2_0 _ _ _) (by simp[rT]) rfl,r1,neT (by omega),aN b0 (by simp[rT]) rfl,a_st b1 (by simp) rfl,aN (gE b1) (by simp) rfl,trivial⟩,Nxt.same a (Grow.set (Grow.trans K K1) (by omega) _)⟩
  | some k =>
   obtain⟨rfl,hn,x,hx,he,hl⟩:=acts_some hq
   have hn':n=((k+1:Nat):Int):=by omega
   subst hn'
   rw[hq] at r1
   have KK:=Grow.trans K K1
   obtain⟨g2,r2,K2⟩:=lastR_run (a.grow KK) ok (by omega) hx
   have KG:=Grow.trans KK K2
   have d0:=K2.get b0
   have d1:=K2.get b1
   by_cases hi:x.opn.getLast?=some none
   ·have es:t.unveil ((k+1:Nat):Int)=(t.upT k cutL,0):=by simp only[TS.unveil,hq,hx,if_pos hi];rfl
    rw[es]
    have hp:x.opn≠[]:=fun e=>by rw[e] at hi;cases hi
    have hk3:lastK x.opn=3:=by rw[lastK,hi];rfl
    obtain⟨σ',g3,r3,n3⟩:=unlinked_run (a.grow KG) ok hc hx hp
    have n3:=n3.nxt (σ:=σ)
    have d1':=n3.grow.get d1
    exact⟨σ',_,pvF 0 Try.func64 (q3p.un_go (sA (σ .ts)) (sA (σ .ss)) (sA (σ .lf)) t.tks.length t.scs.length t.tks.length (sZ (σ .ts) 6) (sZ (σ .ss) 6) (sZ (σ .lf) 2) (sA (σ' .ts)) (sA (σ' .ss)) (sA (σ' .lf)) _ _ _ (sZ (σ' .ts) 6) (sZ (σ' .ss) 6) (sZ (σ' .lf) 2) h.length (h.length+1) _ 0 (lastK x.opn) (lastN x.opn) h g1 g2 g3)
     ⟨rfl,pL _ _,aN (box2_0 _ _ _) (by simp[rT]) rfl,r1,neF rfl,aN b0 (by simp[rT]) rfl,r2,neF hk3,aN d0 (by simp[rT]) rfl,r3,a_st d1' (by simp) rfl,aN (gE d1') (by simp) rfl,trivial⟩,n3.box a KG (by omega) (by have:=K1.1;have:=K2.1;rw[box2_len] at *;omega) _⟩
   ·have es:t.unveil ((k+1:Nat):Int)=(t,22):=by simp only[TS.unveil,hq,hx,if_neg hi]
    rw[es]
    have hk3:¬ lastK x.opn=3:=fun e=>by
     cases hg:x.opn.getLast? with
     | none=>rw[lastK,hg] at e;cases e
     | some v =>
      cases v with
      | none=>exact hi hg
      | some s=>rw[lastK,hg] at e;cases e
    exact⟨σ,_,pvF 0 Try.func64 (q3p.un_no (sA (σ .ts)) (sA (σ .ss)) (sA (σ .lf)) t.tks.length t.scs.length t.tks.length (sZ (σ .ts) 6) (sZ (σ .ss) 6) (sZ (σ .lf) 2) none none none 0 0 0 0 0 0 h.length (h.length+1) _ 0 (lastK x.opn) (lastN x.opn) h g1 g2 g2)
     ⟨rfl,pL _ _,aN (box2_0 _ _ _) (by simp[rT]) rfl,r1,neF rfl,aN b0 (by simp[rT]) rfl,r2,neT hk3,aN d0 (by simp[rT]) rfl,a_st d1 (by simp) rfl,aN (gE d1) (by simp) rfl,trivial⟩,Nxt.same a (Grow.set KG (by omega) _)⟩
theorem stat58:(Asm.stat (drawN Try.f58 0)).holds Try.prog:=show statOk (drawN Try.f58 0)=true by kernel_rfl
theorem openScopeR_run(a:RAt h σ t)(ok:TOk c t)(hc:c<=100000)(hne:0<t.tks.length)(n:Int)(su:Bool) :
  ∃ σ' h',Run Try.prog 58 [.agg (rT σ t).toArray,iV n,.bool su] h (.tuple #[.agg (rT σ' (t.open n su).1).toArray,iV (t.open n su).2.1,iV (t.open n su).2.2]) h'/\Nxt h σ h' σ' (t.open n su).1:=by
 have n200:=ok.n200
 have K:=box2 h (rT σ t) zz
 obtain⟨g1,r1,K1⟩:=busyR_run (a.grow K) ok n
 have b0:=K1.get (box2_0 h (rT σ t) zz)
 have b1:=K1.get (box2_1 h (rT σ t) zz)
 have gl1:h.length+2<=g1.length:=by have:=K1.1;rw[box2_len] at this;exact this
 cases hq:t.acts n with
 | mk ko e =>
  cases ko with
  | none =>
   have he:=acts_none hq
   have es:t.open n su=(t,0,e):=by simp only[TS.open,hq]
   rw[es]
   rw[hq] at r1
   exact⟨σ,_,pvF 0 Try.func58 (q3p.os_err (sA (σ .ts)) (sA (σ .ss)) (sA (σ .lf)) t.tks.length t.scs.length t.tks.length (sZ (σ .ts) 6) (sZ (σ .ss) 6) (sZ (σ .lf) 2) none none none 0 0 0 0 0 0 su h.length (h.length+1) 0 0 0 0 n e 0 [] [] h g1 g1)
    ⟨rfl,pL _ _,aN (box2_0 _ _ _) (by simp[rT]) rfl,r1,neT (by omega),aN b0 (by simp[rT]) rfl,a_st b1 (by simp) rfl,aN (gE b1) (by simp) rfl,trivial⟩,Nxt.same a (Grow.set (Grow.trans K K1) (by omega) _)⟩
  | some k =>
   obtain⟨rfl,hn,x,hx,he,hl⟩:=acts_some hq
   have hn':n=((k+1:Nat):Int):=by omega
   subst hn'
   rw[hq] at r1
   have KK:=Grow.trans K K1
   have hk:=gTq hx
   by_cases hi:200<=t.scs.length
   ·have es:t.open ((k+1:Nat):Int) su=(t,0,5):=by simp only[TS.open,hq,if_pos hi]
    rw[es]
    exact⟨σ,_,pvF 0 Try.func58 (q3p.os_full (sA (σ .ts)) (sA (σ .ss)) (sA (σ .lf)) t.tks.length t.scs.length t.tks.length (sZ (σ .ts) 6) (sZ (σ .ss) 6) (sZ (σ .lf) 2) none none none 0 0 0 0 0 0 su h.length (h.length+1) 0 0 0 0 _ 0 0 [] [] h g1 g1)
     ⟨rfl,pL _ _,aN (box2_0 _ _ _) (by simp[rT]) rfl,r1,neF rfl,aL b0 rfl,geT (by simp only[Int.ofNat_eq_natCast];omega),aN b0 (by simp[rT]) rfl,a_st b1 (by simp) rfl,aN (gE b1) (by simp) rfl,trivial⟩,Nxt.same a (Grow.set KK (by omega) _)⟩
   ·have es:t.open ((k+1:Nat):Int) su=(t.openF k su,((t.scs.length+1:Nat):Int),0):=by simp only[TS.open,hq,if_neg hi]
    rw[es]
    obtain⟨σ1,g2,r2,n2⟩:=linked_run (a.grow KK) ok hc hx (some t.scs.length)
    have a2:=n2.at_
    have N2:=n2.new
    have K2:=n2.grow
    have gl2:=K2.1
    have d0:=K2.get b0
    have d1:=K2.get b1
    have e1:(t.upT k (addL (some t.scs.length))).tks.length=t.tks.length:=upT_len
    have out:∀ q,q<g1.length->¬ fpR σ1 q:=fun q hq=>N2.out hq
    obtain⟨R,hR⟩:∃ R,R=rV (σ1 .ts) (σ1 .ss) (σ1 .lf) t.tks.length t.scs.length:=⟨_,rfl⟩
    have hRT:rT σ1 (t.upT k (addL (some t.scs.length)))=R:=by rw[hR,rT,e1,upT_scs]
    rw[hRT] at r2
    obtain⟨row,hrow⟩:∃ r,r=[iV ((k+1:Nat):Int),.bool su,.bool false,.slice none 0 0,iV 0,.string ⟨#[]⟩]:=⟨_,rfl⟩
    have a3:=(a2.setN (out h.length (by omega)) (.cells R true)).push (.cells row true)
    have K3:Grow h (g2.set h.length (.cells R true)++[AObj.cells row true]):=Grow.push (Grow.set (Grow.trans KK K2) (Nat.le_refl _) _) _
    have a4:=a3.rowS (Grow.refl _) (Sc0 k su) none (fun _=>rfl) (fun p e=>by cases e)
    have hrw:(scV (Sc0 k su)).C (slz none (Sc0 k su).tks.length 1)=row:=by rw[hrow];rfl
    rw[hrw,pL,sN,upT_scs] at a4
    obtain⟨σ2,hσ2⟩:∃ σ2,σ2=putO (putO σ1 (.st t.scs.length) none) .ss (some (g2.length+1)):=⟨_,rfl⟩
    rw[<- hσ2] at a4
    have N4:New (h.length+2) σ2:=by
     rw[hσ2]
     exact ((N2.mono gl1).put (r:=.st t.scs.length) (q:=none) fun p e=>by cases e).put fun p e=>by cases e;omega
    have s2t:σ2 .ts=σ1 .ts:=by rw[hσ2,pO (by simp),pO (by simp)]
    have s2l:σ2 .lf=σ1 .lf:=by rw[hσ2,pO (by simp),pO (by simp)]
    have s2s:σ2 .ss=some (g2.length+1):=by rw[hσ2,putO_1]
    obtain⟨R3,hR3⟩:∃ R,R=rV (σ1 .ts) (some (g2.length+1)) (σ1 .lf) t.tks.length (t.scs.length+1):=⟨_,rfl⟩
    have eT:(t.openF k su).tks=(t.upT k (addL (some t.scs.length))).tks:=rfl
    have eS:(t.openF k su).scs=t.scs++[Sc0 k su]:=rfl
    have hT:rT σ2 (t.openF k su)=R3:=by rw[hR3,rT,eT,eS,e1,s2t,s2l,s2s,List.length_append,List.length_singleton]
    have a5:RAt (gApp (g2.set h.length (.cells R true)++[AObj.cells row true]) (σ1 .ss) (fl (rs σ1) 0 t.scs++row)) σ2 (t.openF k su):=a4
    have KA:∀ cs,Grow h (gApp (g2.set h.length (.cells R true)++[AObj.cells row true]) (σ1 .ss) cs):=fun cs=>Grow.gApp K3 fun w e=>by have:=N2 _ _ e;omega
    refine⟨σ2,_,?_,Grow.set (Grow.set (KA _) (Nat.le_refl _) (.cells R3 true)) (q:=h.length+1) (by omega) (.cells R3 true),(a5.setN (N4.out (by omega:h.length<h.length+2)) _).setN (N4.out (by omega:h.length+1<h.length+2)) _,fun i ⟨r,e⟩=>.inr (by have:=N4 r i e;omega)⟩
    rw[hT]
    have q0:(g2.set h.length (AObj.cells R true))[h.length]?=some (.cells R true):=gE d0
    have q1:(g2.set h.length (AObj.cells R true))[h.length+1]?=some (.cells zz true):=gNq d1 (by omega)
    have AD:(Asm.arith .add .i64 (Int.ofNat t.scs.length) 1 ((t.scs.length+1:Nat):Int)).holds Try.prog:=addI (by simp only[Int.ofNat_eq_natCast];omega) (by omega) (by omega)
    cases hss:σ1 .ss with
    | none =>
     have h0:t.scs=[]:=a2.sh.ss hss
     have h00:t.scs.length=0:=by rw[h0];rfl
     have w0:=gP (x:=.cells row true) (gP (x:=.cells row true) q0)
     have w1:=gP (x:=.cells row true) (gP (x:=.cells row true) q1)
     have x0:=gE (x:=.cells R3 true) w0
     have x1:=gNq (x:=.cells R3 true) w1 (show h.length≠h.length+1 by omega)
     rw[hss] at hR
     have hfl:fl (rs σ1) 0 t.scs++row=row:=by rw[h0];rfl
     rw[hfl]
     simp only[gApp]
     rw[h00] at hR hR3 AD r2 ⊢
     subst hR hR3 hrow
     have r2':=r2
     exact pvF 0 Try.func58 (q3p.os_n (sA (σ .ts)) (sA (σ .ss)) (sA (σ .lf)) t.tks.length t.scs.length t.tks.length (sZ (σ .ts) 6) (sZ (σ .ss) 6) (sZ (σ .lf) 2) (sA (σ1 .ts)) (sA (σ1 .lf)) t.tks.length t.tks.length (sZ (σ1 .ts) 6) (sZ (σ1 .lf) 2) su h.length (h.length+1) g2.length 0 0 (g2.length+1) _ 0 1 [] _ h g1 g2)
      ⟨rfl,pL _ _,aN (box2_0 _ _ _) (by simp[rT]) rfl,r1,neF rfl,aL b0 rfl,geF (by simp only[Int.ofNat_eq_natCast];omega),aN b0 (by simp[rT]) rfl,aL b0 rfl,by rw[h00];exact AD,r2,a_st d0 (by simp[rT]) rfl,aL q0 rfl,sN _ _ _,a_appGN rfl rfl (by omega) (gV _ (sN _ _ _)) (by simp[SH.den]),a_st w0 (by simp) rfl,stat58,a_again1 agg77 x0 rfl rfl,a_again1 agg77 x0 rfl rfl,a_again1 agg77 (gNq x0 (by omega)) rfl rfl,aN x0 (by simp) rfl,aL x0 rfl,a_st x1 (by simp) rfl,aN (gE x1) (by simp) rfl,trivial⟩
    | some os =>
     have hs3:=N2 _ _ hss
     obtain⟨js,hso⟩:=a3.obj _ _ hss
     rw[upT_scs,show rcontL σ1 (t.upT k (addL (some t.scs.length))).tks t.scs (t.upT k (addL (some t.scs.length))).tks .ss=fl (rs σ1) 0 t.scs from rfl] at hso
     have w0:=gP (x:=.cells (fl (rs σ1) 0 t.scs++row) true) (gNq (x:=.dead) (gP (x:=.cells row true) q0) (show os≠h.length by omega))
     have w1:=gP (x:=.cells (fl (rs σ1) 0 t.scs++row) true) (gNq (x:=.dead) (gP (x:=.cells row true) q1) (show os≠h.length+1 by omega))
     have x0:=gE (x:=.cells R3 true) w0
     have x1:=gNq (x:=.cells R3 true) w1 (show h.length≠h.length+1 by omega)
     rw[hss] at hR
     simp only[gApp]
     have AP:(Asm.app (.push (.set (.is g2) h.length (.cells R true)) (.cells row true)) os 0 t.scs.length g2.length 0 1 0 6 64 (fl (rs σ1) 0 t.scs++row) row (g2.length+1)).holds Try.prog :=
      a_appSJ (m:=0) (junk2:=[]) hso (by rw[fl_len (rs_len σ1)]) (by rw[List.append_nil];exact gV _ (sN _ _ _)) (by rw[hrow];rfl) (by rw[hrow];rfl) (by omega) (by omega) (by omega) (by simp[SH.den])
     subst hR hR3 hrow
     exact pvF 0 Try.func58 (q3p.os_s (sA (σ .ts)) (sA (σ .ss)) (sA (σ .lf)) t.tks.length t.scs.length t.tks.length (sZ (σ .ts) 6) (sZ (σ .ss) 6) (sZ (σ .lf) 2) (sA (σ1 .ts)) (sA (σ1 .lf)) t.tks.length t.tks.length (sZ (σ1 .ts) 6) (sZ (σ1 .lf) 2) su h.length (h.length+1) g2.length os t.scs.length (g2.length+1) _ 0 ((t.scs.length+1:Nat):Int) _ [iV ((k+1:Nat):Int),.bool su,.bool false,.slice none 0 0,iV 0,.string ⟨#[]⟩] h g1 g2)
      ⟨rfl,pL _ _,aN (box2_0 _ _ _) (by simp[rT]) rfl,r1,neF rfl,aL b0 rfl,geF (by simp only[Int.ofNat_eq_natCast];omega),aN b0 (by simp[rT]) rfl,aL b0 rfl,AD,r2,a_st d0 (by simp[rT]) rfl,aL q0 rfl,sN _ _ _,AP,a_st w0 (by simp) rfl,stat58,a_again1 agg77 x0 rfl rfl,a_again1 agg77 x0 rfl rfl,a_again1 agg77 (gNq x0 (by omega)) rfl rfl,aN x0 (by simp) rfl,aL x0 rfl,a_st x1 (by simp) rfl,aN (gE x1) (by simp) rfl,trivial⟩
end
end Go.Proofs.Ytahomnlkkafbjaa.rf
namespace Go.Proofs.Ytahomnlkkafbjaa.rf
open Go Go.Ev Go.Proofs.Ytahomnlkkafbjaa.tr
def EfR(h:Hp)(lo:Nat)(σ:RLay)(v:Value)(l:List Ef):Prop :=
 (l=[]/\v=.slice none 0 0)\/(l≠[]/\∃ o,v=.slice (some ⟨o,0,none⟩) l.length 5/\h[o]?=some (.cells (efC l) true)/\lo<=o/\¬ fpR σ o)
section
variable {h h1 h' g G:Hp} {σ σ':RLay} {t t':TS} {c k:Nat}
theorem scope_at{y:Sc}(hy:t.scs[k]?=some y):t.scope ((k+1:Nat):Int)=(some k,0):=by
 have:=gTq hy
 have h1:¬ (((k+1:Nat):Int)<1\/(t.scs.length:Int)<((k+1:Nat):Int)):=by omega
 have h2:(((k+1:Nat):Int)-1).toNat=k:=by omega
 simp only[TS.scope,if_neg h1,h2]
theorem upS_set{y:Sc}(f:Sc->Sc)(hy:t.scs[k]?=some y):(t.upS k f).scs=t.scs.set k (f y):=modify_set _ hy
theorem upT_set{x:Tk}(f:Tk->Tk)(hx:t.tks[k]?=some x):(t.upT k f).tks=t.tks.set k (f x):=modify_set _ hx
theorem box3(h:Hp)(l f z:List Value):Grow h (h++[AObj.cells l true]++[AObj.cells f true]++[AObj.cells z true]):=(box2 _ _ _).push _
theorem box3_len(h:Hp)(l f z:List Value):(h++[AObj.cells l true]++[AObj.cells f true]++[AObj.cells z true]).length=h.length+3:=by simp
theorem box3_0(h:Hp)(l f z:List Value):(h++[AObj.cells l true]++[AObj.cells f true]++[AObj.cells z true])[h.length]?=some (.cells l true):=gP (gP (gW _ _))
theorem box3_1(h:Hp)(l f z:List Value):(h++[AObj.cells l true]++[AObj.cells f true]++[AObj.cells z true])[h.length+1]?=some (.cells f true):=gP (gV _ (pL _ _))
theorem box3_2(h:Hp)(l f z:List Value):(h++[AObj.cells l true]++[AObj.cells f true]++[AObj.cells z true])[h.length+2]?=some (.cells z true):=gV _ (by simp)
theorem failR_run(a:RAt h σ t)(ok:TOk c t)(hc:c<=100000)(hne:0<t.tks.length)(n fk:Int)(ft:ByteArray) :
  ∃ σ' h' v,Run Try.prog 65 [.agg (rT σ t).toArray,iV n,.agg #[iV fk,.string ft]] h (.tuple #[.agg (rT σ' (t.fail n fk ft).1).toArray,v,iV (t.fail n fk ft).2.2]) h'/\Nxt h σ h' σ' (t.fail n fk ft).1/\EfR h' h.length σ' v (t.fail n fk ft).2.1:=by
 have n200:=ok.n200
 have K:=box3 h (rT σ t) [iV fk,.string ft] zz
 obtain⟨g1,hg1⟩:∃ g1,g1=h++[AObj.cells (rT σ t) true]++[AObj.cells [iV fk,.string ft] true]++[AObj.cells zz true]++[AObj.cells (rT σ t) true]:=⟨_,rfl⟩
 have r1:=openR_run (a.grow K) ok n
 rw[<- hg1] at r1
 have K1:Grow (h++[AObj.cells (rT σ t) true]++[AObj.cells [iV fk,.string ft] true]++[AObj.cells zz true]) g1:=by rw[hg1];exact boxT _ _
 have KK:=Grow.trans K K1
 have b0:=K1.get (box3_0 h (rT σ t) [iV fk,.string ft] zz)
 have b1:=K1.get (box3_1 h (rT σ t) [iV fk,.string ft] zz)
 have b2:=K1.get (box3_2 h (rT σ t) [iV fk,.string ft] zz)
 cases hb:TS.scB t n with
 | false =>
  rw[hb] at r1
  have es:t.fail n fk ft=(t,[],6):=by
   by_cases h1:n<1
   ·simp only[TS.fail,TS.scope,if_pos (Or.inl h1:n<1\/(t.scs.length:Int)<n)]
   ·by_cases h2:(t.scs.length:Int)<n
    ·simp only[TS.fail,TS.scope,if_pos (Or.inr h2:n<1\/(t.scs.length:Int)<n)]
    ·obtain⟨k,y,rfl,hy⟩:=sc_at h1 h2
     rw[scB_at hy] at hb
     have ho:y.ov=true:=by simpa using hb
     simp only[TS.fail,scope_at hy,hy,ho,if_true]
  rw[es]
  exact⟨σ,_,_,pvF 0 Try.func65 (q3p.fa_no (sA (σ .ts)) (sA (σ .ss)) (sA (σ .lf)) t.tks.length t.scs.length t.tks.length (sZ (σ .ts) 6) (sZ (σ .ss) 6) (sZ (σ .lf) 2) h.length (h.length+1) (h.length+2) n fk ft h g1 g1)
   ⟨rfl,pL _ _,by simp[Asm.holds,SH.den],aN (box3_0 _ _ _ _) (by simp[rT]) rfl,r1,aN b0 (by simp[rT]) rfl,a_st b2 (by simp) rfl,aN (gE b2) (by simp) rfl,trivial⟩,Nxt.same a (Grow.set KK (by omega) _),.inl ⟨rfl,rfl⟩⟩
 | true =>
  rw[hb] at r1
  obtain⟨k,y,rfl,hy,ho⟩:∃ k y,n=((k+1:Nat):Int)/\t.scs[k]?=some y/\y.ov=false:=by
   by_cases h1:n<1
   ·rw[scB_out (.inl h1)] at hb;cases hb
   ·by_cases h2:(t.scs.length:Int)<n
    ·rw[scB_out (.inr h2)] at hb;cases hb
    ·obtain⟨k,y,rfl,hy⟩:=sc_at h1 h2
     rw[scB_at hy] at hb
     exact⟨k,y,rfl,hy,by simpa using hb⟩
  have ef:t.fail ((k+1:Nat):Int) fk ft=if fk=1/\faultB fk ft=true then ((t.blame k fk ft).1,if (t.blame k fk ft).2 then [⟨1,((k+1:Nat):Int),0,0,⟨#[]⟩⟩] else [],0) else (t,[],2):=by
   simp only[TS.fail,scope_at hy,hy,ho,Bool.false_eq_true,if_false]
  obtain⟨g2,hg2⟩:∃ g2,g2=g1++[AObj.cells [iV fk,.string ft] true]:=⟨_,rfl⟩
  have r2:=validR_run g1 fk ft
  rw[<- hg2] at r2
  have K2:Grow g1 g2:=by rw[hg2];exact boxT _ _
  have KG:=Grow.trans KK K2
  have d0:=K2.get b0
  have d1:=K2.get b1
  have d2:=K2.get b2
  cases hv:faultB fk ft with
  | false =>
   rw[hv] at r2
   have es:t.fail ((k+1:Nat):Int) fk ft=(t,[],2):=by rw[ef,if_neg (by rw[hv];simp)]
   rw[es]
   exact⟨σ,_,_,pvF 0 Try.func65 (q3p.fa_bad (sA (σ .ts)) (sA (σ .ss)) (sA (σ .lf)) t.tks.length t.scs.length t.tks.length (sZ (σ .ts) 6) (sZ (σ .ss) 6) (sZ (σ .lf) 2) h.length (h.length+1) (h.length+2) _ fk ft h g1 g2)
    ⟨rfl,pL _ _,by simp[Asm.holds,SH.den],aN (box3_0 _ _ _ _) (by simp[rT]) rfl,r1,aN b1 (by simp) rfl,r2,aN d0 (by simp[rT]) rfl,a_st d2 (by simp) rfl,aN (gE d2) (by simp) rfl,trivial⟩,Nxt.same a (Grow.set KG (by omega) _),.inl ⟨rfl,rfl⟩⟩
  | true =>
   rw[hv] at r2
   by_cases h1:fk=1
   ·obtain⟨o,hso⟩:=a.ssO hy
    have hk:=gTq hy
    have hR':rT σ t=rV (σ .ts) (some o) (σ .lf) t.tks.length t.scs.length:=by rw[rT,hso]
    have SB:(Asm.arith .sub .i64 ((k+1:Nat):Int) 1 (k:Int)).holds Try.prog:=subI (by omega) (by omega) (by omega)
    have OF:(Asm.off (k*6) 0 (k:Int) t.scs.length 6).holds Try.prog:=offI (q:=k) rfl hk (by omega)
    have LK:(Asm.ld1 (.is g2) o (k*6+4) (iV y.fk)).holds Try.prog:=a.ssC hso hy (d:=4) rfl KG
    have ef1:t.fail ((k+1:Nat):Int) fk ft=((t.blame k fk ft).1,if (t.blame k fk ft).2 then [⟨1,((k+1:Nat):Int),0,0,⟨#[]⟩⟩] else [],0):=by rw[ef,if_pos ⟨h1,hv⟩]
    by_cases h0:y.fk=0
    ·have bl:t.blame k fk ft=(t.upS k fun x=>{ x with fk:=fk,ft:=ft },true):=by simp only[TS.blame,hy,blameB,h1,h0,decide_true,Bool.and_self,if_true]
     rw[ef1,bl]
     simp only[if_true]
     obtain⟨o1,l1,σ',g3,ho1,hl1,r3,K3,a3,N3⟩:=copied_run' (a.grow KG) ok (by omega) hne
     obtain⟨o2,ho2⟩:=a3.ssO hy
     rw[ho2] at r3
     have gl:h.length+3<=g2.length:=by have:=K2.1;have:=K1.1;rw[box3_len] at this;omega
     have gl3:=K3.1
     have oo2:=N3 _ _ ho2
     have out:∀ q,q<g2.length->¬ fpR σ' q:=fun q hq=>N3.out hq
     obtain⟨R,hR⟩:∃ R,R=rV (some o1) (some o2) (some l1) t.tks.length t.scs.length:=⟨_,rfl⟩
     have a4:=a3.setN (out h.length (by omega)) (.cells R true)
     obtain⟨c1,S1,a5⟩:=a4.wS (d:=4) (l:=[iV fk,.string ft]) (y':={ y with fk:=fk,ft:=ft }) ho2 hy (by simp) rfl rfl
     have a6:RAt ((g3.set h.length (.cells R true)).set o2 (.cells c1 true)) σ' (t.upS k fun x=>{ x with fk:=fk,ft:=ft }):=by
      show RAtL _ _ _ _ _
      rw[upS_set _ hy]
      exact a5
     have hT:rT σ' (t.upS k fun x=>{ x with fk:=fk,ft:=ft })=R:=by rw[hR,rT,upS_len,upS_tks,ho1,ho2,hl1]
     have e3:=K3.get d0
     have e31:=K3.get d1
     have e32:=K3.get d2
     have f0:((g3.set h.length (.cells R true)).set o2 (.cells c1 true))[h.length]?=some (.cells R true):=gNq (gE e3) (by omega)
     have f1:(g3.set h.length (.cells R true))[h.length+1]?=some (.cells [iV fk,.string ft] true):=gNq e31 (by omega)
     have f2:((g3.set h.length (.cells R true)).set o2 (.cells c1 true))[h.length+2]?=some (.cells zz true):=gNq (gNq e32 (by omega)) (by omega)
     have q0:(g3.set h.length (.cells R true))[h.length]?=some (.cells R true):=gE e3
     have K6:Grow h ((g3.set h.length (.cells R true)).set o2 (.cells c1 true)):=Grow.set (Grow.set (Grow.trans KG K3) (Nat.le_refl _) _) (by omega) _
     have hf2:(((g3.set h.length (.cells R true)).set o2 (.cells c1 true))++[AObj.cells [iV 1,iV ((k+1:Nat):Int),iV 0,iV 0,.string ⟨#[]⟩] true])[h.length+2]?=some (.cells zz true):=gP f2
     refine⟨σ',_,_,?_,⟨Grow.set (Grow.push K6 _) (q:=h.length+2) (by omega) (.cells R true),(a6.push (.cells [iV 1,iV ((k+1:Nat):Int),iV 0,iV 0,.string ⟨#[]⟩] true)).setN (out (h.length+2) (by omega)) _,fun i ⟨r,e⟩=>.inr (by have:=N3 r i e;omega)⟩,.inr ⟨by simp,g3.length,rfl,?_,by omega,fun⟨r,e⟩=>by have:=a3.lt e;omega⟩⟩
     ·rw[hT]
      rw[hR'] at r1 b0 d0 r3
      subst hR
      rw[hR']
      exact pvF 0 Try.func65 (q3p.fa_go (sA (σ .ts)) (sA (σ .lf)) t.tks.length t.tks.length (sZ (σ .ts) 6) (sZ (σ .lf) 2) (some ⟨o1,0,none⟩) (some ⟨l1,0,none⟩) t.tks.length t.tks.length 6 2 o t.scs.length o2 h.length (h.length+1) (h.length+2) (k*6) g3.length _ fk k y.fk ft c1 h g1 g2 g3)
       ⟨rfl,pL _ _,by simp[Asm.holds,SH.den],aN (box3_0 _ _ _ _) (by simp) rfl,r1,aN b1 (by simp) rfl,r2,aL d1 rfl,neF h1,aL d0 rfl,SB,OF,LK,neF h0,aN d0 (by simp) rfl,r3,a_st e3 (by simp[rT]) rfl,aL q0 rfl,SB,aN f1 (by simp) rfl,OF,S1 _ _ rfl,aN f0 (by simp) rfl,by simp[Asm.holds,SH.den],a_st hf2 (by simp) rfl,aN (gE hf2) (by simp) rfl,trivial⟩
     ·exact gNq (gV _ (by simp)) (by omega)
    ·have bl:t.blame k fk ft=(t,false):=by simp[TS.blame,hy,blameB,h0]
     rw[ef1,bl]
     simp only[Bool.false_eq_true,if_false]
     rw[hR'] at r1 b0 d0
     exact⟨σ,_,_,by
      rw[hR']
      exact pvF 0 Try.func65 (q3p.fa_had (sA (σ .ts)) (sA (σ .lf)) t.tks.length t.tks.length (sZ (σ .ts) 6) (sZ (σ .lf) 2) none none 0 0 0 0 o t.scs.length 0 h.length (h.length+1) (h.length+2) (k*6) 0 _ fk k y.fk ft [] h g1 g2 g2)
       ⟨rfl,pL _ _,by simp[Asm.holds,SH.den],aN (box3_0 _ _ _ _) (by simp) rfl,r1,aN b1 (by simp) rfl,r2,aL d1 rfl,neF h1,aL d0 rfl,SB,OF,LK,neT h0,aN d0 (by simp) rfl,a_st d2 (by simp) rfl,aN (gE d2) (by simp) rfl,trivial⟩,Nxt.same a (Grow.set KG (by omega) _),.inl ⟨rfl,rfl⟩⟩
   ·have es:t.fail ((k+1:Nat):Int) fk ft=(t,[],2):=by rw[ef,if_neg (fun e=>h1 e.1)]
    rw[es]
    exact⟨σ,_,_,pvF 0 Try.func65 (q3p.fa_arg (sA (σ .ts)) (sA (σ .ss)) (sA (σ .lf)) t.tks.length t.scs.length t.tks.length (sZ (σ .ts) 6) (sZ (σ .ss) 6) (sZ (σ .lf) 2) h.length (h.length+1) (h.length+2) _ fk ft h g1 g2)
     ⟨rfl,pL _ _,by simp[Asm.holds,SH.den],aN (box3_0 _ _ _ _) (by simp[rT]) rfl,r1,aN b1 (by simp) rfl,r2,aL d1 rfl,neT h1,aN d0 (by simp[rT]) rfl,a_st d2 (by simp) rfl,aN (gE d2) (by simp) rfl,trivial⟩,Nxt.same a (Grow.set KG (by omega) _),.inl ⟨rfl,rfl⟩⟩
theorem agg49:aggSize Try.prog 49=some (some 5):=by kernel_rfl
theorem stat82:(Asm.stat (drawN Try.f82 0)).holds Try.prog:=show statOk (drawN Try.f82 0)=true by kernel_rfl
theorem ble_t{a b:Nat}(h:a<=b):Nat.ble a b=true:=by rw[Nat.ble_eq];exact h
theorem a_againN{P:Program}{s:SH}{i d n:Nat}{c l:List Value}{t:TypeId}{rw:Bool}(ha:aggSize P t=some (some n))(h:s.den[i]?=some (.cells c rw))(hl:d+n<=c.length)(hv:(c.drop d).take n=l)(hr:veqR (.agg l.toArray)=true):(Asm.again s t (.pointer (some ⟨i,d,none⟩)) (.agg l.toArray)).holds P :=
 ⟨by simp[evLoad,cells_of h,ha,Go.Ev.cut,hl,hv,ble_t hl],veq_refl hr⟩
theorem fl_part{α:Type}{f:Nat->α->List Value}{z i k d n:Nat}{l:List α}{x:α}(hz:∀ i x,(f i x).length=z)(h:l[k]?=some x)(hd:d+n<=z)(junk:List Value):((fl f i l++junk).drop (k*z+d)).take n=((f (i+k) x).drop d).take n:=by
 obtain⟨a,b,e,hl,_⟩:=fl_split (i:=i) hz h
 have hx:=hz (i+k) x
 rw[e,List.append_assoc,List.append_assoc,List.drop_append,hl,List.drop_of_length_le (by omega),show k*z+d-k*z=d by omega,List.nil_append,List.drop_append_of_le_length (by omega),List.take_append_of_le_length (by simp;omega)]
theorem RAtL.ssN{tks lfs:List Tk}{scs:List Sc}(a:RAtL h σ tks scs lfs){o:Nat}(ho:σ .ss=some o){y:Sc}(hy:scs[k]?=some y){d n:Nat}{l:List Value}(hd:d+n<=6)(hv:((rs σ k y).drop d).take n=l){P:Program}{s:SH}(hs:Grow h s.den):(Asm.ldn s o (k*6+d) n l).holds P:=by
 obtain⟨junk,hj⟩:=a.obj _ _ ho
 have hr:=fl_room (f:=rs σ) (i:=0) (rs_len σ) hy junk
 refine aN (hs.get hj) (by simp only[rcontL];omega) ?_
 rw[<- hv]
 simp only[rcontL]
 rw[fl_part (rs_len σ) hy hd,Nat.zero_add]
def ovF(fk:Int)(ft:ByteArray)(y:Sc):Int×ByteArray:=if y.fk=0/\fk=2 then (fk,ft) else (y.fk,y.ft)
abbrev efZ:List Value:=[iV 0,iV 0,iV 0,iV 0,.string ⟨#[]⟩]
abbrev efV(ow n fk:Int)(ft:ByteArray):List Value:=[iV 3,iV ow,iV n,iV fk,.string ft]
theorem overR_run(a:RAt h σ t)(ok:TOk c t)(hc:c<=100000){x:Tk}{y:Sc}(hy:t.scs[k]?=some y)(hx:t.tks[y.ow]?=some x)(hp:x.opn≠[])(hen:x.en=false)(fk:Int)(ft:ByteArray) :
  ∃ σ' h',Run Try.prog 82 [.agg (rT σ t).toArray,iV ((k+1:Nat):Int),.agg #[iV fk,.string ft]] h
   (.tuple #[.agg (rT σ' (t.fin0 k y.ow)).toArray,.agg (efV ((y.ow+1:Nat):Int) ((k+1:Nat):Int) (ovF fk ft y).1 (ovF fk ft y).2).toArray]) h'/\Nxt h σ h' σ' (t.fin0 k y.ow):=by
 have n64:=ok.n64
 have n200:=ok.n200
 have hj:=gTq hx
 have hk:=gTq hy
 have hne:0<t.tks.length:=by omega
 obtain⟨o,hso⟩:=a.ssO hy
 have K:=(box3 h (rT σ t) [iV fk,.string ft] zz).push (.cells efZ true)
 have l4:(h++[AObj.cells (rT σ t) true]++[AObj.cells [iV fk,.string ft] true]++[AObj.cells zz true]++[AObj.cells efZ true]).length=h.length+4:=by simp
 obtain⟨σ',g1,r1,R1⟩:=unlinked_run (a.grow K) ok hc hx hp
 obtain⟨K1,a1,N1⟩:=R1
 rw[l4] at N1
 have gl1:=K1.1
 rw[l4] at gl1
 have b0:=K1.get (gP (x:=.cells efZ true) (box3_0 h (rT σ t) [iV fk,.string ft] zz))
 have b1:=K1.get (gP (x:=.cells efZ true) (box3_1 h (rT σ t) [iV fk,.string ft] zz))
 have b2:=K1.get (gP (x:=.cells efZ true) (box3_2 h (rT σ t) [iV fk,.string ft] zz))
 have b3:=K1.get (gV (h:=h++[AObj.cells (rT σ t) true]++[AObj.cells [iV fk,.string ft] true]++[AObj.cells zz true]) (.cells efZ true) (box3_len _ _ _ _))
 have et:(t.upT y.ow cutL).tks=t.tks.set y.ow (cutL x):=upT_set _ hx
 have hx1:(t.upT y.ow cutL).tks[y.ow]?=some (cutL x):=upT_at hx
 have hy1:(t.upT y.ow cutL).scs[k]?=some y:=hy
 have len1:(t.upT y.ow cutL).tks.length=t.tks.length:=upT_len
 obtain⟨o1,ho1⟩:=a1.tsO hx1
 obtain⟨o2,ho2⟩:=a1.ssO hy1
 obtain⟨o3,ho3⟩:=a1.lfO hx1
 obtain⟨R,hR⟩:∃ R,R=rV (some o1) (some o2) (some o3) t.tks.length t.scs.length:=⟨_,rfl⟩
 have hRT:rT σ' (t.upT y.ow cutL)=R:=by rw[hR,rT,len1,ho1,ho2,ho3];rfl
 rw[hRT] at r1
 have out:∀ q,q<h.length+4->¬ fpR σ' q:=fun q hq=>N1.out hq
 have n1:=N1 _ _ ho1
 have n2:=N1 _ _ ho2
 have n3:=N1 _ _ ho3
 have n12:o1≠o2:=fun e=>by have:=a1.inj _ _ _ ho1 (e▸ho2);cases this
 have n13:o1≠o3:=fun e=>by have:=a1.inj _ _ _ ho1 (e▸ho3);cases this
 have n23:o2≠o3:=fun e=>by have:=a1.inj _ _ _ ho2 (e▸ho3);cases this
 have a2:=a1.setN (out h.length (by omega)) (.cells R true)
 obtain⟨x1,S1,a3⟩:=a2.wS (d:=2) (l:=[.bool true]) (y':={ y with ov:=true }) ho2 hy1 (by simp) rfl rfl
 obtain⟨F,hF⟩:∃ F:Tk,F={ x with opn:=x.opn.dropLast,lv:=false,fk:=0,ft:=⟨#[]⟩ }:=⟨_,rfl⟩
 obtain⟨x2,S2,a4⟩:=a3.wT (d:=2) (l:=[.bool false]) (x':=F) ho1 hx1 (by simp) (by rw[hF];simp[rk,TkV.C,tkV,cutL,hen]) ⟨[],by rw[hF];simp[cutL]⟩
 obtain⟨x3,S3,a5⟩:=a4.wL (d:=0) (l:=[iV 0,.string ⟨#[]⟩]) (x':=F) ho3 hx1 (by simp) (by rw[hF];simp[rl,lfK,lfT])
 have e5:(t.fin0 k y.ow).tks=(t.upT y.ow cutL).tks.set y.ow F:=by
  rw[et,List.set_set]
  have q1:(t.upS k fun y=>{ y with ov:=true }).tks[y.ow]?=some x:=hx
  have q2:=upT_at (f:=fun x=>{ x with opn:=x.opn.dropLast }) q1
  have q3:=upT_at (f:=fun x=>{ x with lv:=false }) q2
  simp only[TS.fin0]
  rw[upT_set _ q3,upT_set _ q2,upT_set _ q1,List.set_set,List.set_set,hF]
  rfl
 have e6:(t.fin0 k y.ow).scs=t.scs.set k { y with ov:=true }:=upS_set _ hy
 obtain⟨H4,hH4⟩:∃ H,H=(((g1.set h.length (.cells R true)).set o2 (.cells x1 true)).set o1 (.cells x2 true)).set o3 (.cells x3 true):=⟨_,rfl⟩
 have a6:RAt H4 σ' (t.fin0 k y.ow):=by
  show RAtL _ _ _ _ _
  rw[e5,e6,hH4]
  exact a5
 have hT:rT σ' (t.fin0 k y.ow)=R:=by rw[hR,rT,e5,e6,List.length_set,List.length_set,len1,ho1,ho2,ho3]
 have KH:Grow h H4:=by rw[hH4];exact Grow.set (Grow.set (Grow.set (Grow.set (Grow.trans K K1) (Nat.le_refl _) _) (by omega) _) (by omega) _) (by omega) _
 have dl:H4.length=g1.length:=by rw[hH4];simp
 have c0:(g1.set h.length (.cells R true))[h.length]?=some (.cells R true):=gE b0
 have c01:((g1.set h.length (.cells R true)).set o2 (.cells x1 true))[h.length]?=some (.cells R true):=gNq c0 (by omega)
 have c02:(((g1.set h.length (.cells R true)).set o2 (.cells x1 true)).set o1 (.cells x2 true))[h.length]?=some (.cells R true):=gNq c01 (by omega)
 have c03:H4[h.length]?=some (.cells R true):=by rw[hH4];exact gNq c02 (by omega)
 have c1:H4[h.length+1]?=some (.cells [iV fk,.string ft] true):=by rw[hH4];exact gNq (gNq (gNq (gNq b1 (by omega)) (by omega)) (by omega)) (by omega)
 have c2:H4[h.length+2]?=some (.cells zz true):=by rw[hH4];exact gNq (gNq (gNq (gNq b2 (by omega)) (by omega)) (by omega)) (by omega)
 have c3:H4[h.length+3]?=some (.cells efZ true):=by rw[hH4];exact gNq (gNq (gNq (gNq b3 (by omega)) (by omega)) (by omega)) (by omega)
 have SB:(Asm.arith .sub .i64 ((k+1:Nat):Int) 1 (k:Int)).holds Try.prog:=subI (by omega) (by omega) (by omega)
 have OF:(Asm.off (k*6) 0 (k:Int) t.scs.length 6).holds Try.prog:=offI (q:=k) rfl hk (by omega)
 have SJ:(Asm.arith .sub .i64 ((y.ow+1:Nat):Int) 1 (y.ow:Int)).holds Try.prog:=subI (by omega) (by omega) (by omega)
 have OJ:(Asm.off (y.ow*6) 0 (y.ow:Int) t.tks.length 6).holds Try.prog:=offI (q:=y.ow) rfl hj (by omega)
 have O2:(Asm.off (y.ow*2) 0 (y.ow:Int) t.tks.length 2).holds Try.prog:=offI (q:=y.ow) rfl hj (by omega)
 have hR':rT σ t=rV (σ .ts) (some o) (σ .lf) t.tks.length t.scs.length:=by rw[rT,hso]
 have LW:(Asm.ld1 (.push (.push (.push (.push (.is h) (.cells (rT σ t) true)) (.cells [iV fk,.string ft] true)) (.cells zz true)) (.cells efZ true)) o (k*6) (iV ((y.ow+1:Nat):Int))).holds Try.prog:=a.ssC hso hy (d:=0) rfl K
 have w0:=gP (x:=.cells efZ true) (box3_0 h (rT σ t) [iV fk,.string ft] zz)
 have LY:(Asm.ldn (.set (.set (.set (.set (.is g1) h.length (.cells R true)) o2 (.cells x1 true)) o1 (.cells x2 true)) o3 (.cells x3 true)) o2 (k*6+4) 2 [iV y.fk,.string y.ft]).holds Try.prog:=by
  have:=a6.ssN (k:=k) (P:=Try.prog) (s:=.is H4) ho2 (y:={ y with ov:=true }) (d:=4) (n:=2) (by rw[e6,List.getElem?_set_self hk]) (by omega) rfl (.refl _)
  rw[hH4] at this
  exact this
 have NX:∀ (Gd:Hp) (E2:List Value),Grow h Gd->RAt Gd σ' (t.fin0 k y.ow)->Nxt h σ ((Gd.set (h.length+2) (.cells R true)).set (h.length+3) (.cells E2 true)) σ' (t.fin0 k y.ow):=fun Gd E2 kg ag =>
  ⟨Grow.set (Grow.set kg (by omega) _) (by omega) _,(ag.setN (out _ (by omega)) _).setN (out _ (by omega)) _,fun i ⟨r,e⟩=>.inr (by have:=N1 r i e;omega)⟩
 have nd:¬ fpR σ' H4.length:=fun⟨r,e⟩=>by have:=a6.lt e;omega
 have D0:(H4++[AObj.cells efZ true])[H4.length]?=some (.cells efZ true):=gW _ _
 have D1:∀ E:List Value,((H4++[AObj.cells efZ true]).set H4.length (.cells E true))[H4.length]?=some (.cells E true):=fun E=>gE D0
 have D2:∀ (E:List Value) q v,q<H4.length->H4[q]?=some v->((H4++[AObj.cells efZ true]).set H4.length (.cells E true))[q]?=some v:=fun E q v hq hv=>gNq (gP hv) (by omega)
 have A7:∀ E:List Value,RAt ((H4++[AObj.cells efZ true]).set H4.length (.cells E true)) σ' (t.fin0 k y.ow):=fun E=>(a6.push _).setN nd _
 have K7:∀ E:List Value,Grow h ((H4++[AObj.cells efZ true]).set H4.length (.cells E true)):=fun E=>Grow.set (Grow.push KH _) (by omega) _
 rw[hR'] at r1 b0 w0 LW
 by_cases h0:y.fk=0
 ·by_cases h2:fk=2
  ·have eo:ovF fk ft y=(fk,ft):=by simp[ovF,h0,h2]
   have X0:=gE (x:=.cells (efV ((y.ow+1:Nat):Int) ((k+1:Nat):Int) fk ft) true) (D1 (efV ((y.ow+1:Nat):Int) ((k+1:Nat):Int) y.fk y.ft))
   have X1:=gNq (x:=.cells (efV ((y.ow+1:Nat):Int) ((k+1:Nat):Int) fk ft) true) (D2 (efV ((y.ow+1:Nat):Int) ((k+1:Nat):Int) y.fk y.ft) _ _ (by omega) c03) (by omega:H4.length≠_)
   have X2:=gNq (x:=.cells (efV ((y.ow+1:Nat):Int) ((k+1:Nat):Int) fk ft) true) (D2 (efV ((y.ow+1:Nat):Int) ((k+1:Nat):Int) y.fk y.ft) _ _ (by omega) c2) (by omega:H4.length≠_)
   have X3:=gNq (x:=.cells (efV ((y.ow+1:Nat):Int) ((k+1:Nat):Int) fk ft) true) (D2 (efV ((y.ow+1:Nat):Int) ((k+1:Nat):Int) y.fk y.ft) _ _ (by omega) c3) (by omega:H4.length≠_)
   have nx:=NX _ (efV ((y.ow+1:Nat):Int) ((k+1:Nat):Int) fk ft) (Grow.set (K7 (efV ((y.ow+1:Nat):Int) ((k+1:Nat):Int) y.fk y.ft)) (by omega:h.length<=H4.length) (.cells (efV ((y.ow+1:Nat):Int) ((k+1:Nat):Int) fk ft) true)) ((A7 _).setN nd _)
   rw[hH4] at nx X0 X1 X2 X3 c03 c1 D0 D1 D2 dl
   refine⟨σ',_,?_,nx⟩
   rw[hT,eo,hR']
   subst hR
   exact pvF 0 Try.func82 (q3p.ov_own (sA (σ .ts)) (sA (σ .lf)) t.tks.length t.tks.length (sZ (σ .ts) 6) (sZ (σ .lf) 2) o t.scs.length o1 t.tks.length o2 o3 h.length (h.length+1) (h.length+2) (h.length+3) _ (k*6) (y.ow*6) (y.ow*2) _ _ k y.ow fk y.fk y.ft ft x1 x2 x3 h g1)
    ⟨rfl,pL _ _,by simp[Asm.holds,SH.den],by simp[Asm.holds,SH.den],aL w0 rfl,SB,OF,LW,aN w0 (by simp) rfl,r1,a_st b0 (by simp) rfl,aL c0 rfl,SB,OF,S1 _ _ rfl,aL c01 rfl,SJ,OJ,S2 _ _ rfl,aL c02 rfl,SJ,O2,S3 _ _ rfl,aL c03 rfl,SB,OF,LY,rfl,a_st D0 (by simp) rfl,aL (D1 _) rfl,eqT h0,aL (D2 _ _ _ (by omega) c1) rfl,eqT h2,aN (D2 _ _ _ (by omega) c1) (by simp) rfl,a_st (D1 _) (by simp) rfl,stat82,a_againN agg49 X0 (by simp) rfl rfl,a_againN agg49 X0 (by simp) rfl rfl,a_againN agg49 (gNq X0 (by omega)) (by simp) rfl rfl,aN X1 (by simp) rfl,aN X0 (by simp) rfl,a_st X2 (by simp) rfl,a_st (gNq X3 (by omega)) (by simp) rfl,aN (gNq (gE X2) (by omega)) (by simp) rfl,aN (gE (gNq X3 (by omega))) (by simp) rfl,trivial⟩
  ·have eo:ovF fk ft y=(y.fk,y.ft):=by simp[ovF,h2]
   have X0:=D1 (efV ((y.ow+1:Nat):Int) ((k+1:Nat):Int) y.fk y.ft)
   have X1:=D2 (efV ((y.ow+1:Nat):Int) ((k+1:Nat):Int) y.fk y.ft) _ _ (by omega) c03
   have X2:=D2 (efV ((y.ow+1:Nat):Int) ((k+1:Nat):Int) y.fk y.ft) _ _ (by omega) c2
   have X3:=D2 (efV ((y.ow+1:Nat):Int) ((k+1:Nat):Int) y.fk y.ft) _ _ (by omega) c3
   have nx:=NX _ (efV ((y.ow+1:Nat):Int) ((k+1:Nat):Int) y.fk y.ft) (K7 (efV ((y.ow+1:Nat):Int) ((k+1:Nat):Int) y.fk y.ft)) (A7 _)
   rw[hH4] at nx X0 X1 X2 X3 c03 c1 D0 D1 D2 dl
   refine⟨σ',_,?_,nx⟩
   rw[hT,eo,hR']
   subst hR
   exact pvF 0 Try.func82 (q3p.ov_no (sA (σ .ts)) (sA (σ .lf)) t.tks.length t.tks.length (sZ (σ .ts) 6) (sZ (σ .lf) 2) o t.scs.length o1 t.tks.length o2 o3 h.length (h.length+1) (h.length+2) (h.length+3) _ (k*6) (y.ow*6) (y.ow*2) _ _ k y.ow fk y.fk y.ft ft x1 x2 x3 h g1)
    ⟨rfl,pL _ _,by simp[Asm.holds,SH.den],by simp[Asm.holds,SH.den],aL w0 rfl,SB,OF,LW,aN w0 (by simp) rfl,r1,a_st b0 (by simp) rfl,aL c0 rfl,SB,OF,S1 _ _ rfl,aL c01 rfl,SJ,OJ,S2 _ _ rfl,aL c02 rfl,SJ,O2,S3 _ _ rfl,aL c03 rfl,SB,OF,LY,rfl,a_st D0 (by simp) rfl,aL (D1 _) rfl,eqT h0,aL (D2 _ _ _ (by omega) c1) rfl,eqF h2,stat82,a_againN agg49 X0 (by simp) rfl rfl,a_againN agg49 X0 (by simp) rfl rfl,a_againN agg49 (gNq X0 (by omega)) (by simp) rfl rfl,aN X1 (by simp) rfl,aN X0 (by simp) rfl,a_st X2 (by simp) rfl,a_st (gNq X3 (by omega)) (by simp) rfl,aN (gNq (gE X2) (by omega)) (by simp) rfl,aN (gE (gNq X3 (by omega))) (by simp) rfl,trivial⟩
 ·have eo:ovF fk ft y=(y.fk,y.ft):=by simp[ovF,h0]
  have X0:=D1 (efV ((y.ow+1:Nat):Int) ((k+1:Nat):Int) y.fk y.ft)
  have X1:=D2 (efV ((y.ow+1:Nat):Int) ((k+1:Nat):Int) y.fk y.ft) _ _ (by omega) c03
  have X2:=D2 (efV ((y.ow+1:Nat):Int) ((k+1:Nat):Int) y.fk y.ft) _ _ (by omega) c2
  have X3:=D2 (efV ((y.ow+1:Nat):Int) ((k+1:Nat):Int) y.fk y.ft) _ _ (by omega) c3
  have nx:=NX _ (efV ((y.ow+1:Nat):Int) ((k+1:Nat):Int) y.fk y.ft) (K7 (efV ((y.ow+1:Nat):Int) ((k+1:Nat):Int) y.fk y.ft)) (A7 _)
  rw[hH4] at nx X0 X1 X2 X3 c03 c1 D0 D1 D2 dl
  refine⟨σ',_,?_,nx⟩
  rw[hT,eo,hR']
  subst hR
  exact pvF 0 Try.func82 (q3p.ov_had (sA (σ .ts)) (sA (σ .lf)) t.tks.length t.tks.length (sZ (σ .ts) 6) (sZ (σ .lf) 2) o t.scs.length o1 t.tks.length o2 o3 h.length (h.length+1) (h.length+2) (h.length+3) _ (k*6) (y.ow*6) (y.ow*2) _ _ k y.ow fk y.fk y.ft ft x1 x2 x3 h g1)
   ⟨rfl,pL _ _,by simp[Asm.holds,SH.den],by simp[Asm.holds,SH.den],aL w0 rfl,SB,OF,LW,aN w0 (by simp) rfl,r1,a_st b0 (by simp) rfl,aL c0 rfl,SB,OF,S1 _ _ rfl,aL c01 rfl,SJ,OJ,S2 _ _ rfl,aL c02 rfl,SJ,O2,S3 _ _ rfl,aL c03 rfl,SB,OF,LY,rfl,a_st D0 (by simp) rfl,aL (D1 _) rfl,eqF h0,stat82,a_againN agg49 X0 (by simp) rfl rfl,a_againN agg49 X0 (by simp) rfl rfl,a_againN agg49 (gNq X0 (by omega)) (by simp) rfl rfl,aN X1 (by simp) rfl,aN X0 (by simp) rfl,a_st X2 (by simp) rfl,a_st (gNq X3 (by omega)) (by simp) rfl,aN (gNq (gE X2) (by omega)) (by simp) rfl,aN (gE (gNq X3 (by omega))) (by simp) rfl,trivial⟩
end
end Go.Proofs.Ytahomnlkkafbjaa.rf
