import Derived.Test.YtlonjogfeidgfaaCopiesC
import Derived.Test.YtlonjogfeidgfaaProg
import Derived.KernelRfl
set_option linter.unusedVariables false
namespace Go.Proofs.Ytlonjogfeidgfaa.r2p
open Go Go.Ev
set_option maxRecDepth 100000
set_option linter.unusedVariables false
theorem ru_low(r to len q k:Nat)(n n1:Int)(g:Hp) :
  pvFn Try.prog (pvCall Try.prog 0) Try.f76 [.pointer (some ⟨r,0,none⟩),.int .i64 n] (.is g) [.bit true] =
  some (.tuple #[.pointer none,.int .i64 6],.is g,[],[.cmp .lss n 1 true]):=by intros;kernel_rfl
theorem ru_highn(r to len q k:Nat)(n n1:Int)(g:Hp) :
  pvFn Try.prog (pvCall Try.prog 0) Try.f76 [.pointer (some ⟨r,0,none⟩),.int .i64 n] (.is g) [.bit false,.val (.slice none 0 0),.bit true] =
  some (.tuple #[.pointer none,.int .i64 6],.is g,[],[.cmp .lss n 1 false,.ld1 (.is g) r 0 (.slice none 0 0),.cmp .gtr n 0 true]):=by intros;kernel_rfl
theorem ru_highs(r to len q k:Nat)(n n1:Int)(g:Hp) :
  let Z1:Value:=.slice (some ⟨to,0,none⟩) len 1
  pvFn Try.prog (pvCall Try.prog 0) Try.f76 [.pointer (some ⟨r,0,none⟩),.int .i64 n] (.is g) [.bit false,.val Z1,.bit true] =
  some (.tuple #[.pointer none,.int .i64 6],.is g,[],[.cmp .lss n 1 false,.ld1 (.is g) r 0 Z1,.cmp .gtr n (Int.ofNat len) true]):=by intros;kernel_rfl
theorem ru_end(r to len q k:Nat)(n n1:Int)(g:Hp) :
  let Z1:Value:=.slice (some ⟨to,0,none⟩) len 1
  let Z2:Value:=.pointer (some ⟨k,0,none⟩)
  pvFn Try.prog (pvCall Try.prog 0) Try.f76 [.pointer (some ⟨r,0,none⟩),.int .i64 n] (.is g) [.bit false,.val Z1,.bit false,.val Z1,.num n1,.offs q,.val Z2,.val (.bool true)] =
  some (.tuple #[.pointer none,.int .i64 6],.is g,[],[.cmp .lss n 1 false,.ld1 (.is g) r 0 Z1,.cmp .gtr n (Int.ofNat len) false,.ld1 (.is g) r 0 Z1,.arith .sub .i64 n 1 n1,.off q 0 n1 len 1,.ld1 (.is g) to q Z2,.ld1 (.is g) k 4 (.bool true)]):=by intros;kernel_rfl
theorem ru_ok(r to len q k:Nat)(n n1:Int)(g:Hp) :
  let Z1:Value:=.slice (some ⟨to,0,none⟩) len 1
  let Z2:Value:=.pointer (some ⟨k,0,none⟩)
  pvFn Try.prog (pvCall Try.prog 0) Try.f76 [.pointer (some ⟨r,0,none⟩),.int .i64 n] (.is g) [.bit false,.val Z1,.bit false,.val Z1,.num n1,.offs q,.val Z2,.val (.bool false),.val Z1,.num n1,.offs q,.val Z2] =
  some (.tuple #[Z2,.int .i64 0],.is g,[],[.cmp .lss n 1 false,.ld1 (.is g) r 0 Z1,.cmp .gtr n (Int.ofNat len) false,.ld1 (.is g) r 0 Z1,.arith .sub .i64 n 1 n1,.off q 0 n1 len 1,.ld1 (.is g) to q Z2,.ld1 (.is g) k 4 (.bool false),.ld1 (.is g) r 0 Z1,.arith .sub .i64 n 1 n1,.off q 0 n1 len 1,.ld1 (.is g) to q Z2]):=by intros;kernel_rfl
theorem ac_err(r k:Nat)(n e:Int)(g:Hp) :
  let Z1:List Value:=[.pointer (some ⟨r,0,none⟩),.int .i64 n]
  let Z2:Value:=.tuple #[.pointer none,.int .i64 e]
  pvFn Try.prog (pvCall Try.prog 0) Try.f78 Z1 (.is g) [.ret Z2 (.is g),.bit false] =
  some (Z2,.is g,[],[.call 76 Z1 (.is g) Z2 (.is g),.cmp .eql e 0 false]):=by intros;kernel_rfl
theorem ac_lv(r k:Nat)(n e:Int)(g:Hp) :
  let Z1:List Value:=[.pointer (some ⟨r,0,none⟩),.int .i64 n]
  let Z2:Value:=.tuple #[.pointer (some ⟨k,0,none⟩),.int .i64 0]
  pvFn Try.prog (pvCall Try.prog 0) Try.f78 Z1 (.is g) [.ret Z2 (.is g),.bit true,.val (.bool true)] =
  some (.tuple #[.pointer none,.int .i64 22],.is g,[],[.call 76 Z1 (.is g) Z2 (.is g),.cmp .eql 0 0 true,.ld1 (.is g) k 3 (.bool true)]):=by intros;kernel_rfl
theorem ac_ok(r k:Nat)(n e:Int)(g:Hp) :
  let Z1:List Value:=[.pointer (some ⟨r,0,none⟩),.int .i64 n]
  let Z2:Value:=.tuple #[.pointer (some ⟨k,0,none⟩),.int .i64 0]
  pvFn Try.prog (pvCall Try.prog 0) Try.f78 Z1 (.is g) [.ret Z2 (.is g),.bit true,.val (.bool false)] =
  some (Z2,.is g,[],[.call 76 Z1 (.is g) Z2 (.is g),.cmp .eql 0 0 true,.ld1 (.is g) k 3 (.bool false)]):=by intros;kernel_rfl
theorem sc_low(r to len q k:Nat)(n n1:Int)(g:Hp) :
  pvFn Try.prog (pvCall Try.prog 0) Try.f72 [.pointer (some ⟨r,0,none⟩),.int .i64 n] (.is g) [.bit true] =
  some (.tuple #[.pointer none,.int .i64 6],.is g,[],[.cmp .lss n 1 true]):=by intros;kernel_rfl
theorem sc_highn(r to len q k:Nat)(n n1:Int)(g:Hp) :
  pvFn Try.prog (pvCall Try.prog 0) Try.f72 [.pointer (some ⟨r,0,none⟩),.int .i64 n] (.is g) [.bit false,.val (.slice none 0 0),.bit true] =
  some (.tuple #[.pointer none,.int .i64 6],.is g,[],[.cmp .lss n 1 false,.ld1 (.is g) r 1 (.slice none 0 0),.cmp .gtr n 0 true]):=by intros;kernel_rfl
theorem sc_highs(r to len q k:Nat)(n n1:Int)(g:Hp) :
  let Z1:Value:=.slice (some ⟨to,0,none⟩) len 1
  pvFn Try.prog (pvCall Try.prog 0) Try.f72 [.pointer (some ⟨r,0,none⟩),.int .i64 n] (.is g) [.bit false,.val Z1,.bit true] =
  some (.tuple #[.pointer none,.int .i64 6],.is g,[],[.cmp .lss n 1 false,.ld1 (.is g) r 1 Z1,.cmp .gtr n (Int.ofNat len) true]):=by intros;kernel_rfl
theorem sc_ok(r to len q k:Nat)(n n1:Int)(g:Hp) :
  let Z1:Value:=.slice (some ⟨to,0,none⟩) len 1
  let Z2:Value:=.pointer (some ⟨k,0,none⟩)
  pvFn Try.prog (pvCall Try.prog 0) Try.f72 [.pointer (some ⟨r,0,none⟩),.int .i64 n] (.is g) [.bit false,.val Z1,.bit false,.val Z1,.num n1,.offs q,.val Z2] =
  some (.tuple #[Z2,.int .i64 0],.is g,[],[.cmp .lss n 1 false,.ld1 (.is g) r 1 Z1,.cmp .gtr n (Int.ofNat len) false,.ld1 (.is g) r 1 Z1,.arith .sub .i64 n 1 n1,.off q 0 n1 len 1,.ld1 (.is g) to q Z2]):=by intros;kernel_rfl
theorem in_nil(k o len q:Nat)(l1:Int)(v:Value)(g:Hp) :
  pvFn Try.prog (pvCall Try.prog 0) Try.f79 [.pointer (some ⟨k,0,none⟩)] (.is g) [.val (.slice none 0 0),.bit true] =
  some (.tuple #[.pointer none,.bool false],.is g,[],[.ld1 (.is g) k 2 (.slice none 0 0),.cmp .eql 0 0 true]):=by intros;kernel_rfl
theorem in_zero(k o len q:Nat)(l1:Int)(v:Value)(g:Hp) :
  let Z1:Value:=.slice (some ⟨o,0,none⟩) len 1
  pvFn Try.prog (pvCall Try.prog 0) Try.f79 [.pointer (some ⟨k,0,none⟩)] (.is g) [.val Z1,.bit true] =
  some (.tuple #[.pointer none,.bool false],.is g,[],[.ld1 (.is g) k 2 Z1,.cmp .eql (Int.ofNat len) 0 true]):=by intros;kernel_rfl
theorem in_some(k o len q:Nat)(l1:Int)(v:Value)(g:Hp) :
  let Z1:Value:=.slice (some ⟨o,0,none⟩) len 1
  pvFn Try.prog (pvCall Try.prog 0) Try.f79 [.pointer (some ⟨k,0,none⟩)] (.is g) [.val Z1,.bit false,.val Z1,.val Z1,.num l1,.offs q,.val v] =
  some (.tuple #[v,.bool true],.is g,[],[.ld1 (.is g) k 2 Z1,.cmp .eql (Int.ofNat len) 0 false,.stat (drawN Try.f79 0),.ld1 (.is g) k 2 Z1,.ld1 (.is g) k 2 Z1,.arith .sub .i64 (Int.ofNat len) 1 l1,.off q 0 l1 len 1,.ld1 (.is g) o q v]):=by intros;kernel_rfl
theorem ad_n(r to len b c z sid so sl d y:Nat)(n1 lv l1:Int)(cr cs cs2 cs3 ns news:List Value)(g:Hp)(cs3':List Value) :
  let Z1:SH:=.push (.is g) (.cells [.int .i64 n1,.pointer none,.slice none 0 0,.bool false,.bool false,.int .i64 0,.string { data:=#[] }] true)
  let Z2:SH:=.push Z1 (.cells [.pointer (some ⟨b,0,none⟩)] true)
  let Z3:SH:=.push Z2 (.cells news true)
  let Z4:SH:=.set Z3 r (.cells cr true)
  pvFn Try.prog (pvCall Try.prog 0) Try.f70 [.pointer (some ⟨r,0,none⟩),.pointer none] (.is g) [.val (.slice none 0 0),.num n1,.idx b,.val (.slice none 0 0),.idx c,.app [] news 0 z,.cells cr,.val (.int .i64 n1)] =
  some (.int .i64 n1,Z4,[],[.ld1 (.is g) r 0 (.slice none 0 0),.arith .add .i64 0 1 n1,.len (.is g) b,.ld1 Z1 r 0 (.slice none 0 0),.len Z1 c,.appNil Z2 c 0 1 0 1 8 news z,.st Z3 r 0 [.slice (some ⟨z,0,none⟩) 1 1] cr,.ld1 Z4 b 0 (.int .i64 n1)]):=by intros;kernel_rfl
theorem ad_s(r to len b c z sid so sl d y:Nat)(n1 lv l1:Int)(cr cs cs2 cs3 ns news:List Value)(g:Hp)(cs3':List Value) :
  let Z1:Value:=.slice (some ⟨to,0,none⟩) len 1
  let Z2:SH:=.push (.is g) (.cells [.int .i64 n1,.pointer none,.slice none 0 0,.bool false,.bool false,.int .i64 0,.string { data:=#[] }] true)
  let Z3:SH:=.push Z2 (.cells [.pointer (some ⟨b,0,none⟩)] true)
  let Z4:SH:=.push (.set Z3 to .dead) (.cells cs true)
  let Z5:SH:=.set Z4 r (.cells cr true)
  pvFn Try.prog (pvCall Try.prog 0) Try.f70 [.pointer (some ⟨r,0,none⟩),.pointer none] (.is g) [.val Z1,.num n1,.idx b,.val Z1,.idx c,.app cs news 0 z,.cells cr,.val (.int .i64 n1)] =
  some (.int .i64 n1,Z5,[],[.ld1 (.is g) r 0 Z1,.arith .add .i64 (Int.ofNat len) 1 n1,.len (.is g) b,.ld1 Z2 r 0 Z1,.len Z2 c,.app Z3 to 0 len c 0 1 0 1 8 cs news z,.st Z4 r 0 [.slice (some ⟨z,0,none⟩) (Nat.succ len) 1] cr,.ld1 Z5 b 0 (.int .i64 n1)]):=by intros;kernel_rfl
theorem ad_sn(r to len b c z sid so sl d y:Nat)(n1 lv l1:Int)(cr cs cs2 cs3 ns news:List Value)(g:Hp)(cs3':List Value) :
  let Z1:Value:=.pointer (some ⟨sid,0,none⟩)
  let Z2:Value:=.slice (some ⟨to,0,none⟩) len 1
  let Z3:SH:=.push (.is g) (.cells [.int .i64 n1,Z1,.slice none 0 0,.bool false,.bool false,.int .i64 0,.string { data:=#[] }] true)
  let Z4:AObj:=.cells [.pointer (some ⟨b,0,none⟩)] true
  let Z5:SH:=.push Z3 Z4
  let Z6:SH:=.push (.set Z5 to .dead) (.cells cs true)
  let Z7:SH:=.set Z6 r (.cells cr true)
  let Z8:SH:=.push Z7 Z4
  let Z9:SH:=.push Z8 (.cells ns true)
  let Z10:SH:=.set Z9 sid (.cells cs3 true)
  let Z11:SH:=.set Z10 sid (.cells cs3' true)
  pvFn Try.prog (pvCall Try.prog 0) Try.f70 [.pointer (some ⟨r,0,none⟩),Z1] (.is g) [.val Z2,.num n1,.idx b,.val Z2,.idx c,.app cs news 0 z,.cells cr,.val (.slice none 0 0),.idx d,.app [] ns 0 y,.cells cs3,.val (.int .i64 lv),.num l1,.cells cs3',.val (.int .i64 n1)] =
  some (.int .i64 n1,Z11,[],[.ld1 (.is g) r 0 Z2,.arith .add .i64 (Int.ofNat len) 1 n1,.len (.is g) b,.ld1 Z3 r 0 Z2,.len Z3 c,.app Z5 to 0 len c 0 1 0 1 8 cs news z,.st Z6 r 0 [.slice (some ⟨z,0,none⟩) (Nat.succ len) 1] cr,.ld1 Z7 sid 4 (.slice none 0 0),.len Z7 d,.appNil Z8 d 0 1 0 1 8 ns y,.st Z9 sid 4 [.slice (some ⟨y,0,none⟩) 1 1] cs3,.ld1 Z10 sid 5 (.int .i64 lv),.arith .add .i64 lv 1 l1,.st Z10 sid 5 [.int .i64 l1] cs3',.ld1 Z11 b 0 (.int .i64 n1)]):=by intros;kernel_rfl
theorem ad_ss(r to len b c z sid so sl d y:Nat)(n1 lv l1:Int)(cr cs cs2 cs3 ns news:List Value)(g:Hp)(cs3':List Value) :
  let Z1:Value:=.pointer (some ⟨sid,0,none⟩)
  let Z2:Value:=.slice (some ⟨to,0,none⟩) len 1
  let Z3:Value:=.slice (some ⟨so,0,none⟩) sl 1
  let Z4:SH:=.push (.is g) (.cells [.int .i64 n1,Z1,.slice none 0 0,.bool false,.bool false,.int .i64 0,.string { data:=#[] }] true)
  let Z5:AObj:=.cells [.pointer (some ⟨b,0,none⟩)] true
  let Z6:SH:=.push Z4 Z5
  let Z7:SH:=.push (.set Z6 to .dead) (.cells cs true)
  let Z8:SH:=.set Z7 r (.cells cr true)
  let Z9:SH:=.push Z8 Z5
  let Z10:SH:=.push (.set Z9 so .dead) (.cells cs2 true)
  let Z11:SH:=.set Z10 sid (.cells cs3 true)
  let Z12:SH:=.set Z11 sid (.cells cs3' true)
  pvFn Try.prog (pvCall Try.prog 0) Try.f70 [.pointer (some ⟨r,0,none⟩),Z1] (.is g) [.val Z2,.num n1,.idx b,.val Z2,.idx c,.app cs news 0 z,.cells cr,.val Z3,.idx d,.app cs2 ns 0 y,.cells cs3,.val (.int .i64 lv),.num l1,.cells cs3',.val (.int .i64 n1)] =
  some (.int .i64 n1,Z12,[],[.ld1 (.is g) r 0 Z2,.arith .add .i64 (Int.ofNat len) 1 n1,.len (.is g) b,.ld1 Z4 r 0 Z2,.len Z4 c,.app Z6 to 0 len c 0 1 0 1 8 cs news z,.st Z7 r 0 [.slice (some ⟨z,0,none⟩) (Nat.succ len) 1] cr,.ld1 Z8 sid 4 Z3,.len Z8 d,.app Z9 so 0 sl d 0 1 0 1 8 cs2 ns y,.st Z10 sid 4 [.slice (some ⟨y,0,none⟩) (Nat.succ sl) 1] cs3,.ld1 Z11 sid 5 (.int .i64 lv),.arith .add .i64 lv 1 l1,.st Z11 sid 5 [.int .i64 l1] cs3',.ld1 Z12 b 0 (.int .i64 n1)]):=by intros;kernel_rfl
theorem ro_full(r to len:Nat)(x:Int)(g g2:Hp) :
  let Z1:Value:=.slice (some ⟨to,0,none⟩) len 1
  pvFn Try.prog (pvCall Try.prog 0) Try.f68 [.pointer (some ⟨r,0,none⟩)] (.is g) [.val Z1,.bit true] =
  some (.tuple #[.int .i64 0,.int .i64 5],.is g,[],[.ld1 (.is g) r 0 Z1,.cmp .geq (Int.ofNat len) 64 true]):=by intros;kernel_rfl
theorem ro_oks(r to len:Nat)(x:Int)(g g2:Hp) :
  let Z1:Value:=.pointer (some ⟨r,0,none⟩)
  let Z2:Value:=.slice (some ⟨to,0,none⟩) len 1
  pvFn Try.prog (pvCall Try.prog 0) Try.f68 [Z1] (.is g) [.val Z2,.bit false,.ret (.int .i64 x) (.is g2)] =
  some (.tuple #[.int .i64 x,.int .i64 0],.is g2,[],[.ld1 (.is g) r 0 Z2,.cmp .geq (Int.ofNat len) 64 false,.call 70 [Z1,.pointer none] (.is g) (.int .i64 x) (.is g2)]):=by intros;kernel_rfl
theorem ro_okn(r to len:Nat)(x:Int)(g g2:Hp) :
  let Z1:Value:=.pointer (some ⟨r,0,none⟩)
  pvFn Try.prog (pvCall Try.prog 0) Try.f68 [Z1] (.is g) [.val (.slice none 0 0),.bit false,.ret (.int .i64 x) (.is g2)] =
  some (.tuple #[.int .i64 x,.int .i64 0],.is g2,[],[.ld1 (.is g) r 0 (.slice none 0 0),.cmp .geq 0 64 false,.call 70 [Z1,.pointer none] (.is g) (.int .i64 x) (.is g2)]):=by intros;kernel_rfl
theorem nw_low(b:Nat)(n:Int)(g g2:Hp) :
  pvFn Try.prog (pvCall Try.prog 0) Try.f43 [.int .i64 n] (.is g) [.bit true] =
  some (.tuple #[.pointer none,.int .i64 2],.is g,[],[.cmp .lss n 1 true]):=by intros;kernel_rfl
theorem nw_high(b:Nat)(n:Int)(g g2:Hp) :
  pvFn Try.prog (pvCall Try.prog 0) Try.f43 [.int .i64 n] (.is g) [.bit false,.bit true] =
  some (.tuple #[.pointer none,.int .i64 2],.is g,[],[.cmp .lss n 1 false,.cmp .gtr n 64 true]):=by intros;kernel_rfl
theorem nw_ok(b:Nat)(n:Int)(g g2:Hp) :
  let Z1:Value:=.pointer (some ⟨b,0,none⟩)
  let Z2:Env:=[(4,Z1)]
  pvFn Try.prog (pvCall Try.prog 0) Try.f43 [.int .i64 n] (.is g) [.bit false,.bit false,.idx b,.loop (.exit 0) Z2 (.is g2)] =
  some (.tuple #[Z1,.int .i64 0],.is g2,[],[.cmp .lss n 1 false,.cmp .gtr n 64 false,.len (.is g) b,.loop 20 false (loopN Try.f43 0) [(14,.int .i64 0),(13,.int .i64 n),(4,Z1),(12,Z1),(11,.agg #[.slice none 0 0,.slice none 0 0]),(10,.bool false),(9,.bool false),(8,.int .i64 n),(7,.bool false),(6,.bool false),(5,.int .i64 n),(3,.int .i64 0),(2,.pointer none),(0,.int .i64 n)] (.push (.is g) (.cells [.slice none 0 0,.slice none 0 0] true)) (.exit 0) Z2 (.is g2)]):=by intros;kernel_rfl
theorem nl_out(b:Nat)(n i:Int)(g:Hp) :
  pvCode Try.prog (pvCall Try.prog 0) 20 false (loopN Try.f43 0) [(14,.int .i64 i),(13,.int .i64 n),(4,.pointer (some ⟨b,0,none⟩))] (.is g) [.bit false] =
  some (.exit 0,[(15,.bool false),(14,.int .i64 i),(13,.int .i64 n),(4,.pointer (some ⟨b,0,none⟩))],.is g,[],[.cmp .lss i n false]):=by intros;kernel_rfl
theorem nl_go(b:Nat)(n i i1 x:Int)(g g2:Hp) :
  let Z1:Value:=.pointer (some ⟨b,0,none⟩)
  pvCode Try.prog (pvCall Try.prog 0) 20 false (loopN Try.f43 0) [(14,.int .i64 i),(13,.int .i64 n),(4,Z1)] (.is g) [.bit true,.ret (.int .i64 x) (.is g2),.num i1] =
  some (.normal,[(14,.int .i64 i1),(18,.int .i64 i1),(17,.int .i64 x),(16,Z1),(15,.bool true),(14,.int .i64 i),(13,.int .i64 n),(4,Z1)],.is g2,[],[.cmp .lss i n true,.call 70 [Z1,.pointer none] (.is g) (.int .i64 x) (.is g2),.arith .add .i64 i 1 i1]):=by intros;kernel_rfl
theorem op_err(r k so sl b c z oo ol d y:Nat)(n e n1:Int)(su:Bool)(cr ct cs cs2 news ns:List Value)(g:Hp) :
  let Z1:Value:=.pointer (some ⟨r,0,none⟩)
  let Z2:Value:=.tuple #[.pointer none,.int .i64 e]
  pvFn Try.prog (pvCall Try.prog 0) Try.f61 [Z1,.int .i64 n,.bool su] (.is g) [.ret Z2 (.is g),.bit true] =
  some (.tuple #[.int .i64 0,.int .i64 e],.is g,[],[.call 78 [Z1,.int .i64 n] (.is g) Z2 (.is g),.cmp .neq e 0 true]):=by intros;kernel_rfl
theorem op_full(r k so sl b c z oo ol d y:Nat)(n e n1:Int)(su:Bool)(cr ct cs cs2 news ns:List Value)(g:Hp) :
  let Z1:Value:=.pointer (some ⟨r,0,none⟩)
  let Z2:Value:=.tuple #[.pointer (some ⟨k,0,none⟩),.int .i64 0]
  let Z3:Value:=.slice (some ⟨so,0,none⟩) sl 1
  pvFn Try.prog (pvCall Try.prog 0) Try.f61 [Z1,.int .i64 n,.bool su] (.is g) [.ret Z2 (.is g),.bit false,.val Z3,.bit true] =
  some (.tuple #[.int .i64 0,.int .i64 5],.is g,[],[.call 78 [Z1,.int .i64 n] (.is g) Z2 (.is g),.cmp .neq 0 0 false,.ld1 (.is g) r 1 Z3,.cmp .geq (Int.ofNat sl) 200 true]):=by intros;kernel_rfl
theorem op_nn(r k so sl b c z oo ol d y:Nat)(n e n1:Int)(su:Bool)(cr ct cs cs2 news ns:List Value)(g:Hp) :
  let Z1:Value:=.pointer (some ⟨r,0,none⟩)
  let Z2:Value:=.pointer (some ⟨k,0,none⟩)
  let Z3:Value:=.tuple #[Z2,.int .i64 0]
  let Z4:SH:=.push (.is g) (.cells [.int .i64 n1,Z2,.bool su,.bool false,.slice none 0 0,.int .i64 0,.int .i64 0,.string { data:=#[] }] true)
  let Z5:AObj:=.cells [.pointer (some ⟨b,0,none⟩)] true
  let Z6:SH:=.push Z4 Z5
  let Z7:SH:=.push Z6 (.cells news true)
  let Z8:SH:=.set Z7 r (.cells cr true)
  let Z9:SH:=.push Z8 Z5
  let Z10:SH:=.push Z9 (.cells ns true)
  let Z11:SH:=.set Z10 k (.cells ct true)
  pvFn Try.prog (pvCall Try.prog 0) Try.f61 [Z1,.int .i64 n,.bool su] (.is g) [.ret Z3 (.is g),.bit false,.val (.slice none 0 0),.bit false,.val (.slice none 0 0),.num n1,.idx b,.val (.slice none 0 0),.idx c,.app [] news 0 z,.cells cr,.val (.slice none 0 0),.idx d,.app [] ns 0 y,.cells ct,.val (.int .i64 n1)] =
  some (.tuple #[.int .i64 n1,.int .i64 0],Z11,[],[.call 78 [Z1,.int .i64 n] (.is g) Z3 (.is g),.cmp .neq 0 0 false,.ld1 (.is g) r 1 (.slice none 0 0),.cmp .geq 0 200 false,.ld1 (.is g) r 1 (.slice none 0 0),.arith .add .i64 0 1 n1,.len (.is g) b,.ld1 Z4 r 1 (.slice none 0 0),.len Z4 c,.appNil Z6 c 0 1 0 1 8 news z,.st Z7 r 1 [.slice (some ⟨z,0,none⟩) 1 1] cr,.ld1 Z8 k 2 (.slice none 0 0),.len Z8 d,.appNil Z9 d 0 1 0 1 8 ns y,.st Z10 k 2 [.slice (some ⟨y,0,none⟩) 1 1] ct,.ld1 Z11 b 0 (.int .i64 n1)]):=by intros;kernel_rfl
theorem op_ns(r k so sl b c z oo ol d y:Nat)(n e n1:Int)(su:Bool)(cr ct cs cs2 news ns:List Value)(g:Hp) :
  let Z1:Value:=.pointer (some ⟨r,0,none⟩)
  let Z2:Value:=.pointer (some ⟨k,0,none⟩)
  let Z3:Value:=.tuple #[Z2,.int .i64 0]
  let Z4:Value:=.slice (some ⟨oo,0,none⟩) ol 1
  let Z5:SH:=.push (.is g) (.cells [.int .i64 n1,Z2,.bool su,.bool false,.slice none 0 0,.int .i64 0,.int .i64 0,.string { data:=#[] }] true)
  let Z6:AObj:=.cells [.pointer (some ⟨b,0,none⟩)] true
  let Z7:SH:=.push Z5 Z6
  let Z8:SH:=.push Z7 (.cells news true)
  let Z9:SH:=.set Z8 r (.cells cr true)
  let Z10:SH:=.push Z9 Z6
  let Z11:SH:=.push (.set Z10 oo .dead) (.cells cs2 true)
  let Z12:SH:=.set Z11 k (.cells ct true)
  pvFn Try.prog (pvCall Try.prog 0) Try.f61 [Z1,.int .i64 n,.bool su] (.is g) [.ret Z3 (.is g),.bit false,.val (.slice none 0 0),.bit false,.val (.slice none 0 0),.num n1,.idx b,.val (.slice none 0 0),.idx c,.app [] news 0 z,.cells cr,.val Z4,.idx d,.app cs2 ns 0 y,.cells ct,.val (.int .i64 n1)] =
  some (.tuple #[.int .i64 n1,.int .i64 0],Z12,[],[.call 78 [Z1,.int .i64 n] (.is g) Z3 (.is g),.cmp .neq 0 0 false,.ld1 (.is g) r 1 (.slice none 0 0),.cmp .geq 0 200 false,.ld1 (.is g) r 1 (.slice none 0 0),.arith .add .i64 0 1 n1,.len (.is g) b,.ld1 Z5 r 1 (.slice none 0 0),.len Z5 c,.appNil Z7 c 0 1 0 1 8 news z,.st Z8 r 1 [.slice (some ⟨z,0,none⟩) 1 1] cr,.ld1 Z9 k 2 Z4,.len Z9 d,.app Z10 oo 0 ol d 0 1 0 1 8 cs2 ns y,.st Z11 k 2 [.slice (some ⟨y,0,none⟩) (Nat.succ ol) 1] ct,.ld1 Z12 b 0 (.int .i64 n1)]):=by intros;kernel_rfl
theorem op_sn(r k so sl b c z oo ol d y:Nat)(n e n1:Int)(su:Bool)(cr ct cs cs2 news ns:List Value)(g:Hp) :
  let Z1:Value:=.pointer (some ⟨r,0,none⟩)
  let Z2:Value:=.pointer (some ⟨k,0,none⟩)
  let Z3:Value:=.tuple #[Z2,.int .i64 0]
  let Z4:Value:=.slice (some ⟨so,0,none⟩) sl 1
  let Z5:SH:=.push (.is g) (.cells [.int .i64 n1,Z2,.bool su,.bool false,.slice none 0 0,.int .i64 0,.int .i64 0,.string { data:=#[] }] true)
  let Z6:AObj:=.cells [.pointer (some ⟨b,0,none⟩)] true
  let Z7:SH:=.push Z5 Z6
  let Z8:SH:=.push (.set Z7 so .dead) (.cells cs true)
  let Z9:SH:=.set Z8 r (.cells cr true)
  let Z10:SH:=.push Z9 Z6
  let Z11:SH:=.push Z10 (.cells ns true)
  let Z12:SH:=.set Z11 k (.cells ct true)
  pvFn Try.prog (pvCall Try.prog 0) Try.f61 [Z1,.int .i64 n,.bool su] (.is g) [.ret Z3 (.is g),.bit false,.val Z4,.bit false,.val Z4,.num n1,.idx b,.val Z4,.idx c,.app cs news 0 z,.cells cr,.val (.slice none 0 0),.idx d,.app [] ns 0 y,.cells ct,.val (.int .i64 n1)] =
  some (.tuple #[.int .i64 n1,.int .i64 0],Z12,[],[.call 78 [Z1,.int .i64 n] (.is g) Z3 (.is g),.cmp .neq 0 0 false,.ld1 (.is g) r 1 Z4,.cmp .geq (Int.ofNat sl) 200 false,.ld1 (.is g) r 1 Z4,.arith .add .i64 (Int.ofNat sl) 1 n1,.len (.is g) b,.ld1 Z5 r 1 Z4,.len Z5 c,.app Z7 so 0 sl c 0 1 0 1 8 cs news z,.st Z8 r 1 [.slice (some ⟨z,0,none⟩) (Nat.succ sl) 1] cr,.ld1 Z9 k 2 (.slice none 0 0),.len Z9 d,.appNil Z10 d 0 1 0 1 8 ns y,.st Z11 k 2 [.slice (some ⟨y,0,none⟩) 1 1] ct,.ld1 Z12 b 0 (.int .i64 n1)]):=by intros;kernel_rfl
theorem op_ss(r k so sl b c z oo ol d y:Nat)(n e n1:Int)(su:Bool)(cr ct cs cs2 news ns:List Value)(g:Hp) :
  let Z1:Value:=.pointer (some ⟨r,0,none⟩)
  let Z2:Value:=.pointer (some ⟨k,0,none⟩)
  let Z3:Value:=.tuple #[Z2,.int .i64 0]
  let Z4:Value:=.slice (some ⟨so,0,none⟩) sl 1
  let Z5:Value:=.slice (some ⟨oo,0,none⟩) ol 1
  let Z6:SH:=.push (.is g) (.cells [.int .i64 n1,Z2,.bool su,.bool false,.slice none 0 0,.int .i64 0,.int .i64 0,.string { data:=#[] }] true)
  let Z7:AObj:=.cells [.pointer (some ⟨b,0,none⟩)] true
  let Z8:SH:=.push Z6 Z7
  let Z9:SH:=.push (.set Z8 so .dead) (.cells cs true)
  let Z10:SH:=.set Z9 r (.cells cr true)
  let Z11:SH:=.push Z10 Z7
  let Z12:SH:=.push (.set Z11 oo .dead) (.cells cs2 true)
  let Z13:SH:=.set Z12 k (.cells ct true)
  pvFn Try.prog (pvCall Try.prog 0) Try.f61 [Z1,.int .i64 n,.bool su] (.is g) [.ret Z3 (.is g),.bit false,.val Z4,.bit false,.val Z4,.num n1,.idx b,.val Z4,.idx c,.app cs news 0 z,.cells cr,.val Z5,.idx d,.app cs2 ns 0 y,.cells ct,.val (.int .i64 n1)] =
  some (.tuple #[.int .i64 n1,.int .i64 0],Z13,[],[.call 78 [Z1,.int .i64 n] (.is g) Z3 (.is g),.cmp .neq 0 0 false,.ld1 (.is g) r 1 Z4,.cmp .geq (Int.ofNat sl) 200 false,.ld1 (.is g) r 1 Z4,.arith .add .i64 (Int.ofNat sl) 1 n1,.len (.is g) b,.ld1 Z6 r 1 Z4,.len Z6 c,.app Z8 so 0 sl c 0 1 0 1 8 cs news z,.st Z9 r 1 [.slice (some ⟨z,0,none⟩) (Nat.succ sl) 1] cr,.ld1 Z10 k 2 Z5,.len Z10 d,.app Z11 oo 0 ol d 0 1 0 1 8 cs2 ns y,.st Z12 k 2 [.slice (some ⟨y,0,none⟩) (Nat.succ ol) 1] ct,.ld1 Z13 b 0 (.int .i64 n1)]):=by intros;kernel_rfl
theorem sh_err(r k oo ol c z:Nat)(n e m:Int)(ct cs news:List Value)(g g2:Hp) :
  let Z1:List Value:=[.pointer (some ⟨r,0,none⟩),.int .i64 n]
  let Z2:Value:=.tuple #[.pointer none,.int .i64 e]
  pvFn Try.prog (pvCall Try.prog 0) Try.f50 Z1 (.is g) [.ret Z2 (.is g),.bit true] =
  some (.int .i64 e,.is g,[],[.call 78 Z1 (.is g) Z2 (.is g),.cmp .neq e 0 true]):=by intros;kernel_rfl
theorem sh_full(r k oo ol c z:Nat)(n e m:Int)(ct cs news:List Value)(g g2:Hp) :
  let Z1:Value:=.pointer (some ⟨r,0,none⟩)
  let Z2:List Value:=[Z1,.int .i64 n]
  let Z3:Value:=.pointer (some ⟨k,0,none⟩)
  let Z4:Value:=.tuple #[Z3,.int .i64 0]
  let Z5:Value:=.slice (some ⟨oo,0,none⟩) ol 1
  let Z6:Env:=[(7,.int .i64 m),(5,Z3)]
  pvFn Try.prog (pvCall Try.prog 0) Try.f50 Z2 (.is g) [.ret Z4 (.is g),.bit false,.val Z5,.loop (.exit 0) Z6 (.is g),.bit true] =
  some (.int .i64 5,.is g,[],[.call 78 Z2 (.is g) Z4 (.is g),.cmp .neq 0 0 false,.ld1 (.is g) k 2 Z5,.loop 44 false (loopN Try.f50 0) [(24,.int .i64 0),(23,.int .i64 (Int.ofNat ol)),(22,Z5),(21,.pointer (some ⟨k,2,none⟩)),(20,Z3),(19,Z3),(7,.int .i64 0),(17,.bool false),(16,.int .i64 0),(6,.int .i64 0),(5,Z3),(15,.int .i64 0),(14,Z3),(10,Z4),(13,Z4),(12,.int .i64 n),(11,Z1),(4,.int .i64 0),(0,Z1),(1,.int .i64 n)] (.is g) (.exit 0) Z6 (.is g),.cmp .geq m 40 true]):=by intros;kernel_rfl
theorem sh_oks(r k oo ol c z:Nat)(n e m:Int)(ct cs news:List Value)(g g2:Hp) :
  let Z1:Value:=.pointer (some ⟨r,0,none⟩)
  let Z2:List Value:=[Z1,.int .i64 n]
  let Z3:Value:=.pointer (some ⟨k,0,none⟩)
  let Z4:Value:=.tuple #[Z3,.int .i64 0]
  let Z5:Value:=.slice (some ⟨oo,0,none⟩) ol 1
  let Z6:Env:=[(7,.int .i64 m),(5,Z3)]
  let Z7:SH:=.push (.is g) (.cells [.pointer none] true)
  let Z8:SH:=.push (.set Z7 oo .dead) (.cells cs true)
  pvFn Try.prog (pvCall Try.prog 0) Try.f50 Z2 (.is g) [.ret Z4 (.is g),.bit false,.val Z5,.loop (.exit 0) Z6 (.is g),.bit false,.val Z5,.idx c,.app cs news 0 z,.cells ct] =
  some (.int .i64 0,.set Z8 k (.cells ct true),[],[.call 78 Z2 (.is g) Z4 (.is g),.cmp .neq 0 0 false,.ld1 (.is g) k 2 Z5,.loop 44 false (loopN Try.f50 0) [(24,.int .i64 0),(23,.int .i64 (Int.ofNat ol)),(22,Z5),(21,.pointer (some ⟨k,2,none⟩)),(20,Z3),(19,Z3),(7,.int .i64 0),(17,.bool false),(16,.int .i64 0),(6,.int .i64 0),(5,Z3),(15,.int .i64 0),(14,Z3),(10,Z4),(13,Z4),(12,.int .i64 n),(11,Z1),(4,.int .i64 0),(0,Z1),(1,.int .i64 n)] (.is g) (.exit 0) Z6 (.is g),.cmp .geq m 40 false,.ld1 (.is g) k 2 Z5,.len (.is g) c,.app Z7 oo 0 ol c 0 1 0 1 8 cs news z,.st Z8 k 2 [.slice (some ⟨z,0,none⟩) (Nat.succ ol) 1] ct]):=by intros;kernel_rfl
theorem sh_okn(r k oo ol c z:Nat)(n e m:Int)(ct cs news:List Value)(g g2:Hp) :
  let Z1:List Value:=[.pointer (some ⟨r,0,none⟩),.int .i64 n]
  let Z2:Value:=.tuple #[.pointer (some ⟨k,0,none⟩),.int .i64 0]
  let Z3:SH:=.push (.is g) (.cells [.pointer none] true)
  let Z4:SH:=.push Z3 (.cells news true)
  pvFn Try.prog (pvCall Try.prog 0) Try.f50 Z1 (.is g) [.ret Z2 (.is g),.bit false,.val (.slice none 0 0),.unr 1,.bit false,.bit false,.val (.slice none 0 0),.idx c,.app [] news 0 z,.cells ct] =
  some (.int .i64 0,.set Z4 k (.cells ct true),[],[.call 78 Z1 (.is g) Z2 (.is g),.cmp .neq 0 0 false,.ld1 (.is g) k 2 (.slice none 0 0),.cmp .lss 0 0 false,.cmp .geq 0 40 false,.ld1 (.is g) k 2 (.slice none 0 0),.len (.is g) c,.appNil Z3 c 0 1 0 1 8 news z,.st Z4 k 2 [.slice (some ⟨z,0,none⟩) 1 1] ct]):=by intros;kernel_rfl
theorem sl_out(k oo ol q s:Nat)(i i1 m m1:Int)(g:Hp) :
  pvCode Try.prog (pvCall Try.prog 0) 44 false (loopN Try.f50 0) [(24,.int .i64 i),(23,.int .i64 (Int.ofNat ol)),(22,.slice (some ⟨oo,0,none⟩) ol 1),(7,.int .i64 m),(5,.pointer (some ⟨k,0,none⟩))] (.is g) [.bit false] =
  some (.exit 0,[(25,.bool false),(24,.int .i64 i),(23,.int .i64 (Int.ofNat ol)),(22,.slice (some ⟨oo,0,none⟩) ol 1),(7,.int .i64 m),(5,.pointer (some ⟨k,0,none⟩))],.is g,[],[.cmp .lss i (Int.ofNat ol) false]):=by intros;kernel_rfl
theorem sl_nil(k oo ol q s:Nat)(i i1 m m1:Int)(g:Hp) :
  pvCode Try.prog (pvCall Try.prog 0) 44 false (loopN Try.f50 0) [(24,.int .i64 i),(23,.int .i64 (Int.ofNat ol)),(22,.slice (some ⟨oo,0,none⟩) ol 1),(7,.int .i64 m),(5,.pointer (some ⟨k,0,none⟩))] (.is g) [.bit true,.offs q,.val (.pointer none),.num m1,.num i1] =
  some (.normal,[(24,.int .i64 i1),(32,.int .i64 i1),(7,.int .i64 m1),(31,.int .i64 m1),(30,.int .i64 m),(29,.bool true),(28,.pointer none),(9,.pointer none),(27,.pointer none),(26,.pointer (some ⟨oo,q,none⟩)),(25,.bool true),(24,.int .i64 i),(23,.int .i64 (Int.ofNat ol)),(22,.slice (some ⟨oo,0,none⟩) ol 1),(7,.int .i64 m),(5,.pointer (some ⟨k,0,none⟩))],.is g,[],[.cmp .lss i (Int.ofNat ol) true,.off q 0 i ol 1,.ld1 (.is g) oo q (.pointer none),.arith .add .i64 m 1 m1,.arith .add .i64 i 1 i1]):=by intros;kernel_rfl
theorem sl_some(k oo ol q s:Nat)(i i1 m m1:Int)(g:Hp) :
  let Z1:Value:=.pointer (some ⟨s,0,none⟩)
  pvCode Try.prog (pvCall Try.prog 0) 44 false (loopN Try.f50 0) [(24,.int .i64 i),(23,.int .i64 (Int.ofNat ol)),(22,.slice (some ⟨oo,0,none⟩) ol 1),(7,.int .i64 m),(5,.pointer (some ⟨k,0,none⟩))] (.is g) [.bit true,.offs q,.val Z1,.num i1] =
  some (.normal,[(24,.int .i64 i1),(32,.int .i64 i1),(29,.bool false),(28,Z1),(9,Z1),(27,Z1),(26,.pointer (some ⟨oo,q,none⟩)),(25,.bool true),(24,.int .i64 i),(23,.int .i64 (Int.ofNat ol)),(22,.slice (some ⟨oo,0,none⟩) ol 1),(7,.int .i64 m),(5,.pointer (some ⟨k,0,none⟩))],.is g,[],[.cmp .lss i (Int.ofNat ol) true,.off q 0 i ol 1,.ld1 (.is g) oo q Z1,.arith .add .i64 i 1 i1]):=by intros;kernel_rfl
theorem un_err(r k s oo ol e1:Nat)(n e l1:Int)(ct:List Value)(g:Hp) :
  let Z1:List Value:=[.pointer (some ⟨r,0,none⟩),.int .i64 n]
  let Z2:Value:=.tuple #[.pointer none,.int .i64 e]
  pvFn Try.prog (pvCall Try.prog 0) Try.f51 Z1 (.is g) [.ret Z2 (.is g),.bit true] =
  some (.int .i64 e,.is g,[],[.call 78 Z1 (.is g) Z2 (.is g),.cmp .neq e 0 true]):=by intros;kernel_rfl
theorem un_none(r k s oo ol e1:Nat)(n e l1:Int)(ct:List Value)(g:Hp) :
  let Z1:List Value:=[.pointer (some ⟨r,0,none⟩),.int .i64 n]
  let Z2:Value:=.pointer (some ⟨k,0,none⟩)
  let Z3:Value:=.tuple #[Z2,.int .i64 0]
  let Z4:Value:=.tuple #[.pointer none,.bool false]
  pvFn Try.prog (pvCall Try.prog 0) Try.f51 Z1 (.is g) [.ret Z3 (.is g),.bit false,.ret Z4 (.is g)] =
  some (.int .i64 22,.is g,[],[.call 78 Z1 (.is g) Z3 (.is g),.cmp .neq 0 0 false,.call 79 [Z2] (.is g) Z4 (.is g)]):=by intros;kernel_rfl
theorem un_scope(r k s oo ol e1:Nat)(n e l1:Int)(ct:List Value)(g:Hp) :
  let Z1:List Value:=[.pointer (some ⟨r,0,none⟩),.int .i64 n]
  let Z2:Value:=.pointer (some ⟨k,0,none⟩)
  let Z3:Value:=.tuple #[Z2,.int .i64 0]
  let Z4:Value:=.tuple #[.pointer (some ⟨s,0,none⟩),.bool true]
  pvFn Try.prog (pvCall Try.prog 0) Try.f51 Z1 (.is g) [.ret Z3 (.is g),.bit false,.ret Z4 (.is g)] =
  some (.int .i64 22,.is g,[],[.call 78 Z1 (.is g) Z3 (.is g),.cmp .neq 0 0 false,.call 79 [Z2] (.is g) Z4 (.is g)]):=by intros;kernel_rfl
theorem un_ok(r k s oo ol e1:Nat)(n e l1:Int)(ct:List Value)(g:Hp) :
  let Z1:List Value:=[.pointer (some ⟨r,0,none⟩),.int .i64 n]
  let Z2:Value:=.pointer (some ⟨k,0,none⟩)
  let Z3:Value:=.tuple #[Z2,.int .i64 0]
  let Z4:Value:=.tuple #[.pointer none,.bool true]
  let Z5:Value:=.slice (some ⟨oo,0,none⟩) ol 1
  pvFn Try.prog (pvCall Try.prog 0) Try.f51 Z1 (.is g) [.ret Z3 (.is g),.bit false,.ret Z4 (.is g),.val Z5,.val Z5,.num (Int.ofNat e1),.cut 0 e1,.cells ct] =
  some (.int .i64 0,.set (.is g) k (.cells ct true),[],[.call 78 Z1 (.is g) Z3 (.is g),.cmp .neq 0 0 false,.call 79 [Z2] (.is g) Z4 (.is g),.stat (drawN Try.f51 0),.ld1 (.is g) k 2 Z5,.ld1 (.is g) k 2 Z5,.arith .sub .i64 (Int.ofNat ol) 1 (Int.ofNat e1),.cut none (some (.int .i64 (Int.ofNat e1))) ol 0 e1,.st (.is g) k 2 [.slice (some ⟨oo,0,none⟩) e1 1] ct]):=by intros;kernel_rfl
theorem li_nil(b:Nat)(g:Hp) :
  let Z1:List Value:=[.int .i64 3,.int .i64 0]
  let Z2:SH:=.push (.is g) (.cells [.int .i64 0,.int .i64 0] true)
  let Z3:SH:=.set Z2 b (.cells Z1 true)
  pvFn Try.prog (pvCall Try.prog 0) Try.f71 [.pointer none] (.is g) [.idx b,.cells Z1,.cells Z1] =
  some (.agg #[.int .i64 3,.int .i64 0],Z3,[],[.len (.is g) b,.st Z2 b 0 Z1 Z1,.ldn Z3 b 0 2 Z1]):=by intros;kernel_rfl
theorem li_some(b s:Nat)(n:Int)(g:Hp) :
  let Z1:List Value:=[.int .i64 2,.int .i64 n]
  let Z2:SH:=.push (.is g) (.cells [.int .i64 0,.int .i64 0] true)
  let Z3:SH:=.set Z2 b (.cells Z1 true)
  pvFn Try.prog (pvCall Try.prog 0) Try.f71 [.pointer (some ⟨s,0,none⟩)] (.is g) [.idx b,.val (.int .i64 n),.cells Z1,.cells Z1] =
  some (.agg #[.int .i64 2,.int .i64 n],Z3,[],[.len (.is g) b,.ld1 Z2 s 0 (.int .i64 n),.st Z2 b 0 Z1 Z1,.ldn Z3 b 0 2 Z1]):=by intros;kernel_rfl
theorem bl_kind(s b:Nat)(fk sk:Int)(ft:ByteArray)(cs:List Value)(g:Hp) :
  let Z1:SH:=.push (.is g) (.cells [.int .i64 fk,.string ft] true)
  pvFn Try.prog (pvCall Try.prog 0) Try.f86 [.pointer (some ⟨s,0,none⟩),.agg #[.int .i64 fk,.string ft]] (.is g) [.idx b,.val (.int .i64 fk),.bit true] =
  some (.bool false,Z1,[],[.len (.is g) b,.ld1 Z1 b 0 (.int .i64 fk),.cmp .neq fk 1 true]):=by intros;kernel_rfl
theorem bl_has(s b:Nat)(fk sk:Int)(ft:ByteArray)(cs:List Value)(g:Hp) :
  let Z1:SH:=.push (.is g) (.cells [.int .i64 fk,.string ft] true)
  pvFn Try.prog (pvCall Try.prog 0) Try.f86 [.pointer (some ⟨s,0,none⟩),.agg #[.int .i64 fk,.string ft]] (.is g) [.idx b,.val (.int .i64 fk),.bit false,.val (.int .i64 sk),.bit true] =
  some (.bool false,Z1,[],[.len (.is g) b,.ld1 Z1 b 0 (.int .i64 fk),.cmp .neq fk 1 false,.ld1 Z1 s 6 (.int .i64 sk),.cmp .neq sk 0 true]):=by intros;kernel_rfl
theorem bl_ok(s b:Nat)(fk sk:Int)(ft:ByteArray)(cs:List Value)(g:Hp) :
  let Z1:List Value:=[.int .i64 fk,.string ft]
  let Z2:SH:=.push (.is g) (.cells Z1 true)
  pvFn Try.prog (pvCall Try.prog 0) Try.f86 [.pointer (some ⟨s,0,none⟩),.agg #[.int .i64 fk,.string ft]] (.is g) [.idx b,.val (.int .i64 fk),.bit false,.val (.int .i64 sk),.bit false,.cells Z1,.cells cs] =
  some (.bool true,.set Z2 s (.cells cs true),[],[.len (.is g) b,.ld1 Z2 b 0 (.int .i64 fk),.cmp .neq fk 1 false,.ld1 Z2 s 6 (.int .i64 sk),.cmp .neq sk 0 false,.ldn Z2 b 0 2 Z1,.st Z2 s 6 Z1 cs]):=by intros;kernel_rfl
theorem fa_none(b:Nat)(fk:Int)(ft:ByteArray)(z:Bool)(h:Hp) :
  let Z1:SH:=.push (.is h) (.cells [.int .i64 fk,.string ft] true)
  pvFn Try.prog (pvCall Try.prog 0) Try.f85 [.agg #[.int .i64 fk,.string ft]] (.is h) [.idx b,.val (.int .i64 fk),.bit true,.val (.string ft),.bit z] =
  some (.bool z,Z1,[],[.len (.is h) b,.ld1 Z1 b 0 (.int .i64 fk),.cmp .eql fk 0 true,.ld1 Z1 b 1 (.string ft),.scmp .eql ft { data:=#[] } z]):=by intros;kernel_rfl
theorem fa_cancel(b:Nat)(fk:Int)(ft:ByteArray)(z:Bool)(h:Hp) :
  let Z1:SH:=.push (.is h) (.cells [.int .i64 fk,.string ft] true)
  pvFn Try.prog (pvCall Try.prog 0) Try.f85 [.agg #[.int .i64 fk,.string ft]] (.is h) [.idx b,.val (.int .i64 fk),.bit false,.bit true,.val (.string ft),.bit z] =
  some (.bool z,Z1,[],[.len (.is h) b,.ld1 Z1 b 0 (.int .i64 fk),.cmp .eql fk 0 false,.cmp .eql fk 2 true,.ld1 Z1 b 1 (.string ft),.scmp .eql ft { data:=#[] } z]):=by intros;kernel_rfl
theorem fa_throw(b:Nat)(fk:Int)(ft:ByteArray)(z:Bool)(h h':Hp) :
  let Z1:SH:=.push (.is h) (.cells [.int .i64 fk,.string ft] true)
  pvFn Try.prog (pvCall Try.prog 0) Try.f85 [.agg #[.int .i64 fk,.string ft]] (.is h) [.idx b,.val (.int .i64 fk),.bit false,.bit false,.bit true,.val (.string ft),.ret (.bool z) (.is h')] =
  some (.bool z,.is h',[],[.len (.is h) b,.ld1 Z1 b 0 (.int .i64 fk),.cmp .eql fk 0 false,.cmp .eql fk 2 false,.cmp .eql fk 1 true,.ld1 Z1 b 1 (.string ft),.call 92 [.string ft] Z1 (.bool z) (.is h')]):=by intros;kernel_rfl
theorem fa_other(b:Nat)(fk:Int)(ft:ByteArray)(h:Hp) :
  let Z1:SH:=.push (.is h) (.cells [.int .i64 fk,.string ft] true)
  pvFn Try.prog (pvCall Try.prog 0) Try.f85 [.agg #[.int .i64 fk,.string ft]] (.is h) [.idx b,.val (.int .i64 fk),.bit false,.bit false,.bit false] =
  some (.bool false,Z1,[],[.len (.is h) b,.ld1 Z1 b 0 (.int .i64 fk),.cmp .eql fk 0 false,.cmp .eql fk 2 false,.cmp .eql fk 1 false]):=by intros;kernel_rfl
theorem fi_lv(s s2 k oo ol e1 f e:Nat)(xn sn sk xk live:Int)(st xt:ByteArray)(last:Value)(ok:Bool)(c1 c2 c3 c4:List Value)(g:Hp) :
  let Z1:Value:=.pointer (some ⟨k,0,none⟩)
  let Z2:Value:=.tuple #[last,.bool ok]
  pvFn Try.prog (pvCall Try.prog 0) Try.f87 [.pointer (some ⟨s,0,none⟩)] (.is g) [.val Z1,.ret Z2 (.is g),.val (.bool false)] =
  some (.slice none 0 0,.is g,[],[.ld1 (.is g) s 1 Z1,.call 79 [Z1] (.is g) Z2 (.is g),.ld1 (.is g) k 3 (.bool false)]):=by intros;kernel_rfl
theorem fi_no(s s2 k oo ol e1 f e:Nat)(xn sn sk xk live:Int)(st xt:ByteArray)(last:Value)(ok:Bool)(c1 c2 c3 c4:List Value)(g:Hp) :
  let Z1:Value:=.pointer (some ⟨k,0,none⟩)
  let Z2:Value:=.tuple #[last,.bool false]
  pvFn Try.prog (pvCall Try.prog 0) Try.f87 [.pointer (some ⟨s,0,none⟩)] (.is g) [.val Z1,.ret Z2 (.is g),.val (.bool true)] =
  some (.slice none 0 0,.is g,[],[.ld1 (.is g) s 1 Z1,.call 79 [Z1] (.is g) Z2 (.is g),.ld1 (.is g) k 3 (.bool true)]):=by intros;kernel_rfl
theorem fi_shield(s s2 k oo ol e1 f e:Nat)(xn sn sk xk live:Int)(st xt:ByteArray)(last:Value)(ok:Bool)(c1 c2 c3 c4:List Value)(g:Hp) :
  let Z1:Value:=.pointer (some ⟨k,0,none⟩)
  let Z2:Value:=.tuple #[.pointer none,.bool true]
  pvFn Try.prog (pvCall Try.prog 0) Try.f87 [.pointer (some ⟨s,0,none⟩)] (.is g) [.val Z1,.ret Z2 (.is g),.val (.bool true)] =
  some (.slice none 0 0,.is g,[],[.ld1 (.is g) s 1 Z1,.call 79 [Z1] (.is g) Z2 (.is g),.ld1 (.is g) k 3 (.bool true)]):=by intros;kernel_rfl
theorem fi_other(s s2 k oo ol e1 f e:Nat)(xn sn sk xk live:Int)(st xt:ByteArray)(last:Value)(ok:Bool)(c1 c2 c3 c4:List Value)(g:Hp) :
  let Z1:Value:=.pointer (some ⟨k,0,none⟩)
  let Z2:Value:=.tuple #[.pointer (some ⟨s2,0,none⟩),.bool true]
  pvFn Try.prog (pvCall Try.prog 0) Try.f87 [.pointer (some ⟨s,0,none⟩)] (.is g) [.val Z1,.ret Z2 (.is g),.val (.bool true),.bit true] =
  some (.slice none 0 0,.is g,[],[.ld1 (.is g) s 1 Z1,.call 79 [Z1] (.is g) Z2 (.is g),.ld1 (.is g) k 3 (.bool true),.peq (.is g) .neq 110 s2 0 s 0 true]):=by intros;kernel_rfl
theorem fi_live(s s2 k oo ol e1 f e:Nat)(xn sn sk xk live:Int)(st xt:ByteArray)(last:Value)(ok:Bool)(c1 c2 c3 c4:List Value)(g:Hp) :
  let Z1:Value:=.pointer (some ⟨s,0,none⟩)
  let Z2:Value:=.pointer (some ⟨k,0,none⟩)
  let Z3:Value:=.tuple #[Z1,.bool true]
  pvFn Try.prog (pvCall Try.prog 0) Try.f87 [Z1] (.is g) [.val Z2,.ret Z3 (.is g),.val (.bool true),.bit false,.val (.int .i64 live),.bit true] =
  some (.slice none 0 0,.is g,[],[.ld1 (.is g) s 1 Z2,.call 79 [Z2] (.is g) Z3 (.is g),.ld1 (.is g) k 3 (.bool true),.peq (.is g) .neq 110 s 0 s 0 false,.ld1 (.is g) s 5 (.int .i64 live),.cmp .gtr live 0 true]):=by intros;kernel_rfl
theorem fi_go0(s s2 k oo ol e1 f e:Nat)(xn sn sk xk live:Int)(st xt:ByteArray)(last:Value)(ok:Bool)(c1 c2 c3 c4:List Value)(g:Hp) :
  let Z1:Value:=.pointer (some ⟨s,0,none⟩)
  let Z2:Value:=.pointer (some ⟨k,0,none⟩)
  let Z3:Value:=.tuple #[Z1,.bool true]
  let Z4:Value:=.slice (some ⟨oo,0,none⟩) ol 1
  let Z5:List Value:=[.int .i64 sk,.string st]
  let Z6:SH:=.set (.is g) s (.cells c1 true)
  let Z7:SH:=.set Z6 k (.cells c2 true)
  let Z8:SH:=.set Z7 k (.cells c3 true)
  let Z9:List Value:=[.int .i64 0,.string { data:=#[] }]
  let Z10:SH:=.push Z8 (.cells Z9 true)
  let Z11:SH:=.set Z10 f (.cells Z5 true)
  let Z12:SH:=.set Z11 k (.cells c4 true)
  pvFn Try.prog (pvCall Try.prog 0) Try.f87 [Z1] (.is g) [.val Z2,.ret Z3 (.is g),.val (.bool true),.bit false,.val (.int .i64 live),.bit false,.cells c1,.val Z4,.val Z4,.num (Int.ofNat e1),.cut 0 e1,.cells c2,.cells c3,.cells Z5,.idx f,.cells Z5,.val (.int .i64 sk),.bit false,.cells c4,.val (.int .i64 xn),.val (.int .i64 sn),.cells Z5,.idx e] =
  some (.slice (some ⟨e,0,none⟩) 1 5,.push Z12 (.cells [.int .i64 3,.int .i64 xn,.int .i64 sn,.int .i64 sk,.string st] true),[],[.ld1 (.is g) s 1 Z2,.call 79 [Z2] (.is g) Z3 (.is g),.ld1 (.is g) k 3 (.bool true),.peq (.is g) .neq 110 s 0 s 0 false,.ld1 (.is g) s 5 (.int .i64 live),.cmp .gtr live 0 false,.st (.is g) s 3 [.bool true] c1,.stat (drawN Try.f87 0),.ld1 Z6 k 2 Z4,.ld1 Z6 k 2 Z4,.arith .sub .i64 (Int.ofNat ol) 1 (Int.ofNat e1),.cut none (some (.int .i64 (Int.ofNat e1))) ol 0 e1,.st Z6 k 2 [.slice (some ⟨oo,0,none⟩) e1 1] c2,.st Z7 k 3 [.bool false] c3,.ldn Z8 s 6 2 Z5,.len Z8 f,.st Z10 f 0 Z5 Z5,.ld1 Z11 f 0 (.int .i64 sk),.cmp .eql sk 0 false,.st Z11 k 5 Z9 c4,.stat (drawN Try.f87 1),.ld1 Z12 k 0 (.int .i64 xn),.ld1 Z12 s 0 (.int .i64 sn),.ldn Z12 f 0 2 Z5,.len Z12 e]):=by intros;kernel_rfl
theorem fi_go1(s s2 k oo ol e1 f e:Nat)(xn sn sk xk live:Int)(st xt:ByteArray)(last:Value)(ok:Bool)(c1 c2 c3 c4:List Value)(g:Hp) :
  let Z1:Value:=.pointer (some ⟨s,0,none⟩)
  let Z2:Value:=.pointer (some ⟨k,0,none⟩)
  let Z3:Value:=.tuple #[Z1,.bool true]
  let Z4:Value:=.slice (some ⟨oo,0,none⟩) ol 1
  let Z5:List Value:=[.int .i64 sk,.string st]
  let Z6:SH:=.set (.is g) s (.cells c1 true)
  let Z7:SH:=.set Z6 k (.cells c2 true)
  let Z8:SH:=.set Z7 k (.cells c3 true)
  let Z9:List Value:=[.int .i64 0,.string { data:=#[] }]
  let Z10:SH:=.push Z8 (.cells Z9 true)
  let Z11:SH:=.set Z10 f (.cells Z5 true)
  let Z12:SH:=.set Z11 k (.cells c4 true)
  pvFn Try.prog (pvCall Try.prog 0) Try.f87 [Z1] (.is g) [.val Z2,.ret Z3 (.is g),.val (.bool true),.bit false,.val (.int .i64 live),.bit false,.cells c1,.val Z4,.val Z4,.num (Int.ofNat e1),.cut 0 e1,.cells c2,.cells c3,.cells Z5,.idx f,.cells Z5,.val (.int .i64 sk),.bit true,.val (.int .i64 xk),.bit false,.cells c4,.val (.int .i64 xn),.val (.int .i64 sn),.cells Z5,.idx e] =
  some (.slice (some ⟨e,0,none⟩) 1 5,.push Z12 (.cells [.int .i64 3,.int .i64 xn,.int .i64 sn,.int .i64 sk,.string st] true),[],[.ld1 (.is g) s 1 Z2,.call 79 [Z2] (.is g) Z3 (.is g),.ld1 (.is g) k 3 (.bool true),.peq (.is g) .neq 110 s 0 s 0 false,.ld1 (.is g) s 5 (.int .i64 live),.cmp .gtr live 0 false,.st (.is g) s 3 [.bool true] c1,.stat (drawN Try.f87 0),.ld1 Z6 k 2 Z4,.ld1 Z6 k 2 Z4,.arith .sub .i64 (Int.ofNat ol) 1 (Int.ofNat e1),.cut none (some (.int .i64 (Int.ofNat e1))) ol 0 e1,.st Z6 k 2 [.slice (some ⟨oo,0,none⟩) e1 1] c2,.st Z7 k 3 [.bool false] c3,.ldn Z8 s 6 2 Z5,.len Z8 f,.st Z10 f 0 Z5 Z5,.ld1 Z11 f 0 (.int .i64 sk),.cmp .eql sk 0 true,.ld1 Z11 k 5 (.int .i64 xk),.cmp .eql xk 2 false,.st Z11 k 5 Z9 c4,.stat (drawN Try.f87 1),.ld1 Z12 k 0 (.int .i64 xn),.ld1 Z12 s 0 (.int .i64 sn),.ldn Z12 f 0 2 Z5,.len Z12 e]):=by intros;kernel_rfl
theorem fi_go2(s s2 k oo ol e1 f e:Nat)(xn sn sk xk live:Int)(st xt:ByteArray)(last:Value)(ok:Bool)(c1 c2 c3 c4:List Value)(g:Hp) :
  let Z1:Value:=.pointer (some ⟨s,0,none⟩)
  let Z2:Value:=.pointer (some ⟨k,0,none⟩)
  let Z3:Value:=.tuple #[Z1,.bool true]
  let Z4:Value:=.slice (some ⟨oo,0,none⟩) ol 1
  let Z5:List Value:=[.int .i64 sk,.string st]
  let Z6:List Value:=[.int .i64 xk,.string xt]
  let Z7:SH:=.set (.is g) s (.cells c1 true)
  let Z8:SH:=.set Z7 k (.cells c2 true)
  let Z9:SH:=.set Z8 k (.cells c3 true)
  let Z10:List Value:=[.int .i64 0,.string { data:=#[] }]
  let Z11:SH:=.push Z9 (.cells Z10 true)
  let Z12:SH:=.set Z11 f (.cells Z5 true)
  let Z13:SH:=.set Z12 f (.cells Z6 true)
  let Z14:SH:=.set Z13 k (.cells c4 true)
  pvFn Try.prog (pvCall Try.prog 0) Try.f87 [Z1] (.is g) [.val Z2,.ret Z3 (.is g),.val (.bool true),.bit false,.val (.int .i64 live),.bit false,.cells c1,.val Z4,.val Z4,.num (Int.ofNat e1),.cut 0 e1,.cells c2,.cells c3,.cells Z5,.idx f,.cells Z5,.val (.int .i64 sk),.bit true,.val (.int .i64 xk),.bit true,.cells Z6,.cells Z6,.cells c4,.val (.int .i64 xn),.val (.int .i64 sn),.cells Z6,.idx e] =
  some (.slice (some ⟨e,0,none⟩) 1 5,.push Z14 (.cells [.int .i64 3,.int .i64 xn,.int .i64 sn,.int .i64 xk,.string xt] true),[],[.ld1 (.is g) s 1 Z2,.call 79 [Z2] (.is g) Z3 (.is g),.ld1 (.is g) k 3 (.bool true),.peq (.is g) .neq 110 s 0 s 0 false,.ld1 (.is g) s 5 (.int .i64 live),.cmp .gtr live 0 false,.st (.is g) s 3 [.bool true] c1,.stat (drawN Try.f87 0),.ld1 Z7 k 2 Z4,.ld1 Z7 k 2 Z4,.arith .sub .i64 (Int.ofNat ol) 1 (Int.ofNat e1),.cut none (some (.int .i64 (Int.ofNat e1))) ol 0 e1,.st Z7 k 2 [.slice (some ⟨oo,0,none⟩) e1 1] c2,.st Z8 k 3 [.bool false] c3,.ldn Z9 s 6 2 Z5,.len Z9 f,.st Z11 f 0 Z5 Z5,.ld1 Z12 f 0 (.int .i64 sk),.cmp .eql sk 0 true,.ld1 Z12 k 5 (.int .i64 xk),.cmp .eql xk 2 true,.ldn Z12 k 5 2 Z6,.st Z12 f 0 Z6 Z6,.st Z13 k 5 Z10 c4,.stat (drawN Try.f87 1),.ld1 Z14 k 0 (.int .i64 xn),.ld1 Z14 s 0 (.int .i64 sn),.ldn Z14 f 0 2 Z6,.len Z14 e]):=by intros;kernel_rfl
theorem fl_err(r s b e1:Nat)(n e fk:Int)(ft:ByteArray)(g g2 g3:Hp) :
  let Z1:Value:=.pointer (some ⟨r,0,none⟩)
  let Z2:Value:=.tuple #[.pointer none,.int .i64 e]
  pvFn Try.prog (pvCall Try.prog 0) Try.f67 [Z1,.int .i64 n,.agg #[.int .i64 fk,.string ft]] (.is g) [.idx b,.ret Z2 (.is g2),.bit true] =
  some (.tuple #[.slice none 0 0,.int .i64 e],.is g2,[],[.len (.is g) b,.call 72 [Z1,.int .i64 n] (.push (.is g) (.cells [.int .i64 fk,.string ft] true)) Z2 (.is g2),.cmp .neq e 0 true]):=by intros;kernel_rfl
theorem fl_over(r s b e1:Nat)(n e fk:Int)(ft:ByteArray)(g g2 g3:Hp) :
  let Z1:Value:=.pointer (some ⟨r,0,none⟩)
  let Z2:Value:=.tuple #[.pointer (some ⟨s,0,none⟩),.int .i64 0]
  pvFn Try.prog (pvCall Try.prog 0) Try.f67 [Z1,.int .i64 n,.agg #[.int .i64 fk,.string ft]] (.is g) [.idx b,.ret Z2 (.is g2),.bit false,.val (.bool true)] =
  some (.tuple #[.slice none 0 0,.int .i64 6],.is g2,[],[.len (.is g) b,.call 72 [Z1,.int .i64 n] (.push (.is g) (.cells [.int .i64 fk,.string ft] true)) Z2 (.is g2),.cmp .neq 0 0 false,.ld1 (.is g2) s 3 (.bool true)]):=by intros;kernel_rfl
theorem fl_kind(r s b e1:Nat)(n e fk:Int)(ft:ByteArray)(g g2 g3:Hp) :
  let Z1:Value:=.pointer (some ⟨r,0,none⟩)
  let Z2:Value:=.tuple #[.pointer (some ⟨s,0,none⟩),.int .i64 0]
  pvFn Try.prog (pvCall Try.prog 0) Try.f67 [Z1,.int .i64 n,.agg #[.int .i64 fk,.string ft]] (.is g) [.idx b,.ret Z2 (.is g2),.bit false,.val (.bool false),.val (.int .i64 fk),.bit true] =
  some (.tuple #[.slice none 0 0,.int .i64 2],.is g2,[],[.len (.is g) b,.call 72 [Z1,.int .i64 n] (.push (.is g) (.cells [.int .i64 fk,.string ft] true)) Z2 (.is g2),.cmp .neq 0 0 false,.ld1 (.is g2) s 3 (.bool false),.ld1 (.is g2) b 0 (.int .i64 fk),.cmp .neq fk 1 true]):=by intros;kernel_rfl
theorem fl_bad(r s b e1:Nat)(n e fk:Int)(ft:ByteArray)(g g2 g3:Hp) :
  let Z1:Value:=.pointer (some ⟨r,0,none⟩)
  let Z2:Value:=.agg #[.int .i64 fk,.string ft]
  let Z3:Value:=.tuple #[.pointer (some ⟨s,0,none⟩),.int .i64 0]
  let Z4:List Value:=[.int .i64 fk,.string ft]
  pvFn Try.prog (pvCall Try.prog 0) Try.f67 [Z1,.int .i64 n,Z2] (.is g) [.idx b,.ret Z3 (.is g2),.bit false,.val (.bool false),.val (.int .i64 fk),.bit false,.cells Z4,.ret (.bool false) (.is g3)] =
  some (.tuple #[.slice none 0 0,.int .i64 2],.is g3,[],[.len (.is g) b,.call 72 [Z1,.int .i64 n] (.push (.is g) (.cells Z4 true)) Z3 (.is g2),.cmp .neq 0 0 false,.ld1 (.is g2) s 3 (.bool false),.ld1 (.is g2) b 0 (.int .i64 fk),.cmp .neq fk 1 false,.ldn (.is g2) b 0 2 Z4,.call 85 [Z2] (.is g2) (.bool false) (.is g3)]):=by intros;kernel_rfl
theorem fl_no(r s b e1:Nat)(n e fk:Int)(ft:ByteArray)(g g2 g3:Hp)(g4:Hp) :
  let Z1:Value:=.pointer (some ⟨r,0,none⟩)
  let Z2:Value:=.agg #[.int .i64 fk,.string ft]
  let Z3:Value:=.pointer (some ⟨s,0,none⟩)
  let Z4:Value:=.tuple #[Z3,.int .i64 0]
  let Z5:List Value:=[.int .i64 fk,.string ft]
  pvFn Try.prog (pvCall Try.prog 0) Try.f67 [Z1,.int .i64 n,Z2] (.is g) [.idx b,.ret Z4 (.is g2),.bit false,.val (.bool false),.val (.int .i64 fk),.bit false,.cells Z5,.ret (.bool true) (.is g3),.cells Z5,.ret (.bool false) (.is g4)] =
  some (.tuple #[.slice none 0 0,.int .i64 0],.is g4,[],[.len (.is g) b,.call 72 [Z1,.int .i64 n] (.push (.is g) (.cells Z5 true)) Z4 (.is g2),.cmp .neq 0 0 false,.ld1 (.is g2) s 3 (.bool false),.ld1 (.is g2) b 0 (.int .i64 fk),.cmp .neq fk 1 false,.ldn (.is g2) b 0 2 Z5,.call 85 [Z2] (.is g2) (.bool true) (.is g3),.ldn (.is g3) b 0 2 Z5,.call 86 [Z3,Z2] (.is g3) (.bool false) (.is g4)]):=by intros;kernel_rfl
theorem fl_yes(r s b e1:Nat)(n e fk:Int)(ft:ByteArray)(g g2 g3:Hp)(g4:Hp) :
  let Z1:Value:=.pointer (some ⟨r,0,none⟩)
  let Z2:Value:=.agg #[.int .i64 fk,.string ft]
  let Z3:Value:=.pointer (some ⟨s,0,none⟩)
  let Z4:Value:=.tuple #[Z3,.int .i64 0]
  let Z5:List Value:=[.int .i64 fk,.string ft]
  pvFn Try.prog (pvCall Try.prog 0) Try.f67 [Z1,.int .i64 n,Z2] (.is g) [.idx b,.ret Z4 (.is g2),.bit false,.val (.bool false),.val (.int .i64 fk),.bit false,.cells Z5,.ret (.bool true) (.is g3),.cells Z5,.ret (.bool true) (.is g4),.idx e1] =
  some (.tuple #[.slice (some ⟨e1,0,none⟩) 1 5,.int .i64 0],.push (.is g4) (.cells [.int .i64 1,.int .i64 n,.int .i64 0,.int .i64 0,.string { data:=#[] }] true),[],[.len (.is g) b,.call 72 [Z1,.int .i64 n] (.push (.is g) (.cells Z5 true)) Z4 (.is g2),.cmp .neq 0 0 false,.ld1 (.is g2) s 3 (.bool false),.ld1 (.is g2) b 0 (.int .i64 fk),.cmp .neq fk 1 false,.ldn (.is g2) b 0 2 Z5,.call 85 [Z2] (.is g2) (.bool true) (.is g3),.ldn (.is g3) b 0 2 Z5,.call 86 [Z3,Z2] (.is g3) (.bool true) (.is g4),.len (.is g4) e1]):=by intros;kernel_rfl
theorem le_err(r k s b e1 y:Nat)(n e fk live sn:Int)(ft:ByteArray)(bl:Bool)(fv:Value)(c1 c2 news:List Value)(kk z:Nat)(g g2 g3 g4 g5:Hp) :
  let Z1:Value:=.pointer (some ⟨r,0,none⟩)
  let Z2:Value:=.tuple #[.pointer none,.int .i64 e]
  pvFn Try.prog (pvCall Try.prog 0) Try.f66 [Z1,.int .i64 n,.agg #[.int .i64 fk,.string ft]] (.is g) [.idx b,.ret Z2 (.is g2),.bit true] =
  some (.tuple #[.slice none 0 0,.int .i64 e],.is g2,[],[.len (.is g) b,.call 76 [Z1,.int .i64 n] (.push (.is g) (.cells [.int .i64 fk,.string ft] true)) Z2 (.is g2),.cmp .neq e 0 true]):=by intros;kernel_rfl
theorem le_bad(r k s b e1 y:Nat)(n e fk live sn:Int)(ft:ByteArray)(bl:Bool)(fv:Value)(c1 c2 news:List Value)(kk z:Nat)(g g2 g3 g4 g5:Hp) :
  let Z1:Value:=.pointer (some ⟨r,0,none⟩)
  let Z2:Value:=.agg #[.int .i64 fk,.string ft]
  let Z3:Value:=.tuple #[.pointer (some ⟨k,0,none⟩),.int .i64 0]
  let Z4:List Value:=[.int .i64 fk,.string ft]
  pvFn Try.prog (pvCall Try.prog 0) Try.f66 [Z1,.int .i64 n,Z2] (.is g) [.idx b,.ret Z3 (.is g2),.bit false,.cells Z4,.ret (.bool false) (.is g3)] =
  some (.tuple #[.slice none 0 0,.int .i64 2],.is g3,[],[.len (.is g) b,.call 76 [Z1,.int .i64 n] (.push (.is g) (.cells Z4 true)) Z3 (.is g2),.cmp .neq 0 0 false,.ldn (.is g2) b 0 2 Z4,.call 85 [Z2] (.is g2) (.bool false) (.is g3)]):=by intros;kernel_rfl
theorem le_lv(r k s b e1 y:Nat)(n e fk live sn:Int)(ft:ByteArray)(bl:Bool)(fv:Value)(c1 c2 news:List Value)(kk z:Nat)(g g2 g3 g4 g5:Hp)(last:Value)(ok:Bool) :
  let Z1:Value:=.pointer (some ⟨r,0,none⟩)
  let Z2:Value:=.agg #[.int .i64 fk,.string ft]
  let Z3:Value:=.pointer (some ⟨k,0,none⟩)
  let Z4:Value:=.tuple #[Z3,.int .i64 0]
  let Z5:List Value:=[.int .i64 fk,.string ft]
  let Z6:Value:=.tuple #[last,.bool ok]
  pvFn Try.prog (pvCall Try.prog 0) Try.f66 [Z1,.int .i64 n,Z2] (.is g) [.idx b,.ret Z4 (.is g2),.bit false,.cells Z5,.ret (.bool true) (.is g3),.ret Z6 (.is g3),.val (.bool true)] =
  some (.tuple #[.slice none 0 0,.int .i64 22],.is g3,[],[.len (.is g) b,.call 76 [Z1,.int .i64 n] (.push (.is g) (.cells Z5 true)) Z4 (.is g2),.cmp .neq 0 0 false,.ldn (.is g2) b 0 2 Z5,.call 85 [Z2] (.is g2) (.bool true) (.is g3),.call 79 [Z3] (.is g3) Z6 (.is g3),.ld1 (.is g3) k 3 (.bool true)]):=by intros;kernel_rfl
theorem le_none(r k s b e1 y:Nat)(n e fk live sn:Int)(ft:ByteArray)(bl:Bool)(fv:Value)(c1 c2 news:List Value)(kk z:Nat)(g g2 g3 g4 g5:Hp)(last:Value) :
  let Z1:Value:=.pointer (some ⟨r,0,none⟩)
  let Z2:Value:=.agg #[.int .i64 fk,.string ft]
  let Z3:Value:=.pointer (some ⟨k,0,none⟩)
  let Z4:Value:=.tuple #[Z3,.int .i64 0]
  let Z5:List Value:=[.int .i64 fk,.string ft]
  let Z6:Value:=.tuple #[last,.bool false]
  pvFn Try.prog (pvCall Try.prog 0) Try.f66 [Z1,.int .i64 n,Z2] (.is g) [.idx b,.ret Z4 (.is g2),.bit false,.cells Z5,.ret (.bool true) (.is g3),.ret Z6 (.is g3),.val (.bool false)] =
  some (.tuple #[.slice none 0 0,.int .i64 22],.is g3,[],[.len (.is g) b,.call 76 [Z1,.int .i64 n] (.push (.is g) (.cells Z5 true)) Z4 (.is g2),.cmp .neq 0 0 false,.ldn (.is g2) b 0 2 Z5,.call 85 [Z2] (.is g2) (.bool true) (.is g3),.call 79 [Z3] (.is g3) Z6 (.is g3),.ld1 (.is g3) k 3 (.bool false)]):=by intros;kernel_rfl
theorem le_shield(r k s b e1 y:Nat)(n e fk live sn:Int)(ft:ByteArray)(bl:Bool)(fv:Value)(c1 c2 news:List Value)(kk z:Nat)(g g2 g3 g4 g5:Hp) :
  let Z1:Value:=.pointer (some ⟨r,0,none⟩)
  let Z2:Value:=.agg #[.int .i64 fk,.string ft]
  let Z3:Value:=.pointer (some ⟨k,0,none⟩)
  let Z4:Value:=.tuple #[Z3,.int .i64 0]
  let Z5:List Value:=[.int .i64 fk,.string ft]
  let Z6:Value:=.tuple #[.pointer none,.bool true]
  pvFn Try.prog (pvCall Try.prog 0) Try.f66 [Z1,.int .i64 n,Z2] (.is g) [.idx b,.ret Z4 (.is g2),.bit false,.cells Z5,.ret (.bool true) (.is g3),.ret Z6 (.is g3),.val (.bool false)] =
  some (.tuple #[.slice none 0 0,.int .i64 22],.is g3,[],[.len (.is g) b,.call 76 [Z1,.int .i64 n] (.push (.is g) (.cells Z5 true)) Z4 (.is g2),.cmp .neq 0 0 false,.ldn (.is g2) b 0 2 Z5,.call 85 [Z2] (.is g2) (.bool true) (.is g3),.call 79 [Z3] (.is g3) Z6 (.is g3),.ld1 (.is g3) k 3 (.bool false)]):=by intros;kernel_rfl
theorem le_zn(r k s b e1 y:Nat)(n e fk live sn:Int)(ft:ByteArray)(bl:Bool)(fv:Value)(c1 c2 news:List Value)(kk z:Nat)(g g2 g3 g4 g5:Hp) :
  let Z1:Value:=.pointer (some ⟨r,0,none⟩)
  let Z2:Value:=.agg #[.int .i64 fk,.string ft]
  let Z3:Value:=.pointer (some ⟨k,0,none⟩)
  let Z4:Value:=.tuple #[Z3,.int .i64 0]
  let Z5:List Value:=[.int .i64 fk,.string ft]
  let Z6:Value:=.pointer (some ⟨s,0,none⟩)
  let Z7:Value:=.tuple #[Z6,.bool true]
  let Z8:Value:=.pointer (some ⟨b,0,none⟩)
  let Z9:SH:=.set (.is g4) k (.cells c1 true)
  pvFn Try.prog (pvCall Try.prog 0) Try.f66 [Z1,.int .i64 n,Z2] (.is g) [.idx b,.ret Z4 (.is g2),.bit false,.cells Z5,.ret (.bool true) (.is g3),.ret Z7 (.is g3),.val (.bool false),.cells Z5,.ret (.bool bl) (.is g4),.val (.int .i64 fk),.bit false,.cells Z5,.cells c1,.cells c2,.ret (.slice none 0 0) (.is g5),.app0] =
  some (.tuple #[.slice none 0 0,.int .i64 0],.is g5,[],[.len (.is g) b,.call 76 [Z1,.int .i64 n] (.push (.is g) (.cells Z5 true)) Z4 (.is g2),.cmp .neq 0 0 false,.ldn (.is g2) b 0 2 Z5,.call 85 [Z2] (.is g2) (.bool true) (.is g3),.call 79 [Z3] (.is g3) Z7 (.is g3),.ld1 (.is g3) k 3 (.bool false),.ldn (.is g3) b 0 2 Z5,.call 86 [Z6,Z2] (.is g3) (.bool bl) (.is g4),.ld1 (.is g4) b 0 (.int .i64 fk),.cmp .neq fk 0 false,.stat (drawN Try.f66 0),.again (.is g4) 29 Z8 Z2,.again (.is g4) 29 Z8 Z2,.again Z9 29 Z8 Z2,.ldn (.is g4) b 0 2 Z5,.st (.is g4) k 3 [.bool true] c1,.st Z9 k 5 Z5 c2,.call 87 [Z6] (.set Z9 k (.cells c2 true)) (.slice none 0 0) (.is g5)]):=by intros;kernel_rfl
theorem le_zs(r k s b e1 y:Nat)(n e fk live sn:Int)(ft:ByteArray)(bl:Bool)(fv:Value)(c1 c2 news:List Value)(kk z:Nat)(g g2 g3 g4 g5:Hp)(w wl:Nat)(cs n3:List Value) :
  let Z1:Value:=.pointer (some ⟨r,0,none⟩)
  let Z2:Value:=.agg #[.int .i64 fk,.string ft]
  let Z3:Value:=.pointer (some ⟨k,0,none⟩)
  let Z4:Value:=.tuple #[Z3,.int .i64 0]
  let Z5:List Value:=[.int .i64 fk,.string ft]
  let Z6:Value:=.pointer (some ⟨s,0,none⟩)
  let Z7:Value:=.tuple #[Z6,.bool true]
  let Z8:Value:=.slice (some ⟨w,0,none⟩) wl 5
  let Z9:Value:=.pointer (some ⟨b,0,none⟩)
  let Z10:SH:=.set (.is g4) k (.cells c1 true)
  pvFn Try.prog (pvCall Try.prog 0) Try.f66 [Z1,.int .i64 n,Z2] (.is g) [.idx b,.ret Z4 (.is g2),.bit false,.cells Z5,.ret (.bool true) (.is g3),.ret Z7 (.is g3),.val (.bool false),.cells Z5,.ret (.bool bl) (.is g4),.val (.int .i64 fk),.bit false,.cells Z5,.cells c1,.cells c2,.ret Z8 (.is g5),.app [] n3 kk z] =
  some (.tuple #[.slice (some ⟨z,0,none⟩) wl 5,.int .i64 0],.push (.is g5) (.cells n3 true),[],[.len (.is g) b,.call 76 [Z1,.int .i64 n] (.push (.is g) (.cells Z5 true)) Z4 (.is g2),.cmp .neq 0 0 false,.ldn (.is g2) b 0 2 Z5,.call 85 [Z2] (.is g2) (.bool true) (.is g3),.call 79 [Z3] (.is g3) Z7 (.is g3),.ld1 (.is g3) k 3 (.bool false),.ldn (.is g3) b 0 2 Z5,.call 86 [Z6,Z2] (.is g3) (.bool bl) (.is g4),.ld1 (.is g4) b 0 (.int .i64 fk),.cmp .neq fk 0 false,.stat (drawN Try.f66 0),.again (.is g4) 29 Z9 Z2,.again (.is g4) 29 Z9 Z2,.again Z10 29 Z9 Z2,.ldn (.is g4) b 0 2 Z5,.st (.is g4) k 3 [.bool true] c1,.st Z10 k 5 Z5 c2,.call 87 [Z6] (.set Z10 k (.cells c2 true)) Z8 (.is g5),.appNil (.is g5) w 0 wl kk 5 48 n3 z]):=by intros;kernel_rfl
theorem le_nn(r k s b e1 y:Nat)(n e fk live sn:Int)(ft:ByteArray)(bl:Bool)(fv:Value)(c1 c2 news:List Value)(kk z:Nat)(g g2 g3 g4 g5:Hp) :
  let Z1:Value:=.pointer (some ⟨r,0,none⟩)
  let Z2:Value:=.agg #[.int .i64 fk,.string ft]
  let Z3:Value:=.pointer (some ⟨k,0,none⟩)
  let Z4:Value:=.tuple #[Z3,.int .i64 0]
  let Z5:List Value:=[.int .i64 fk,.string ft]
  let Z6:Value:=.pointer (some ⟨s,0,none⟩)
  let Z7:Value:=.tuple #[Z6,.bool true]
  let Z8:Value:=.pointer (some ⟨b,0,none⟩)
  let Z9:SH:=.set (.is g4) k (.cells c1 true)
  pvFn Try.prog (pvCall Try.prog 0) Try.f66 [Z1,.int .i64 n,Z2] (.is g) [.idx b,.ret Z4 (.is g2),.bit false,.cells Z5,.ret (.bool true) (.is g3),.ret Z7 (.is g3),.val (.bool false),.cells Z5,.ret (.bool bl) (.is g4),.val (.int .i64 fk),.bit true,.val (.int .i64 live),.bit false,.cells Z5,.cells c1,.cells c2,.ret (.slice none 0 0) (.is g5),.app0] =
  some (.tuple #[.slice none 0 0,.int .i64 0],.is g5,[],[.len (.is g) b,.call 76 [Z1,.int .i64 n] (.push (.is g) (.cells Z5 true)) Z4 (.is g2),.cmp .neq 0 0 false,.ldn (.is g2) b 0 2 Z5,.call 85 [Z2] (.is g2) (.bool true) (.is g3),.call 79 [Z3] (.is g3) Z7 (.is g3),.ld1 (.is g3) k 3 (.bool false),.ldn (.is g3) b 0 2 Z5,.call 86 [Z6,Z2] (.is g3) (.bool bl) (.is g4),.ld1 (.is g4) b 0 (.int .i64 fk),.cmp .neq fk 0 true,.ld1 (.is g4) s 5 (.int .i64 live),.cmp .gtr live 0 false,.stat (drawN Try.f66 0),.again (.is g4) 29 Z8 Z2,.again (.is g4) 29 Z8 Z2,.again Z9 29 Z8 Z2,.ldn (.is g4) b 0 2 Z5,.st (.is g4) k 3 [.bool true] c1,.st Z9 k 5 Z5 c2,.call 87 [Z6] (.set Z9 k (.cells c2 true)) (.slice none 0 0) (.is g5)]):=by intros;kernel_rfl
theorem le_ns(r k s b e1 y:Nat)(n e fk live sn:Int)(ft:ByteArray)(bl:Bool)(fv:Value)(c1 c2 news:List Value)(kk z:Nat)(g g2 g3 g4 g5:Hp)(w wl:Nat)(cs n3:List Value) :
  let Z1:Value:=.pointer (some ⟨r,0,none⟩)
  let Z2:Value:=.agg #[.int .i64 fk,.string ft]
  let Z3:Value:=.pointer (some ⟨k,0,none⟩)
  let Z4:Value:=.tuple #[Z3,.int .i64 0]
  let Z5:List Value:=[.int .i64 fk,.string ft]
  let Z6:Value:=.pointer (some ⟨s,0,none⟩)
  let Z7:Value:=.tuple #[Z6,.bool true]
  let Z8:Value:=.slice (some ⟨w,0,none⟩) wl 5
  let Z9:Value:=.pointer (some ⟨b,0,none⟩)
  let Z10:SH:=.set (.is g4) k (.cells c1 true)
  pvFn Try.prog (pvCall Try.prog 0) Try.f66 [Z1,.int .i64 n,Z2] (.is g) [.idx b,.ret Z4 (.is g2),.bit false,.cells Z5,.ret (.bool true) (.is g3),.ret Z7 (.is g3),.val (.bool false),.cells Z5,.ret (.bool bl) (.is g4),.val (.int .i64 fk),.bit true,.val (.int .i64 live),.bit false,.cells Z5,.cells c1,.cells c2,.ret Z8 (.is g5),.app [] n3 kk z] =
  some (.tuple #[.slice (some ⟨z,0,none⟩) wl 5,.int .i64 0],.push (.is g5) (.cells n3 true),[],[.len (.is g) b,.call 76 [Z1,.int .i64 n] (.push (.is g) (.cells Z5 true)) Z4 (.is g2),.cmp .neq 0 0 false,.ldn (.is g2) b 0 2 Z5,.call 85 [Z2] (.is g2) (.bool true) (.is g3),.call 79 [Z3] (.is g3) Z7 (.is g3),.ld1 (.is g3) k 3 (.bool false),.ldn (.is g3) b 0 2 Z5,.call 86 [Z6,Z2] (.is g3) (.bool bl) (.is g4),.ld1 (.is g4) b 0 (.int .i64 fk),.cmp .neq fk 0 true,.ld1 (.is g4) s 5 (.int .i64 live),.cmp .gtr live 0 false,.stat (drawN Try.f66 0),.again (.is g4) 29 Z9 Z2,.again (.is g4) 29 Z9 Z2,.again Z10 29 Z9 Z2,.ldn (.is g4) b 0 2 Z5,.st (.is g4) k 3 [.bool true] c1,.st Z10 k 5 Z5 c2,.call 87 [Z6] (.set Z10 k (.cells c2 true)) Z8 (.is g5),.appNil (.is g5) w 0 wl kk 5 48 n3 z]):=by intros;kernel_rfl
theorem le_en(r k s b e1 y:Nat)(n e fk live sn:Int)(ft:ByteArray)(bl:Bool)(fv:Value)(c1 c2 news:List Value)(kk z:Nat)(g g2 g3 g4 g5:Hp) :
  let Z1:Value:=.pointer (some ⟨r,0,none⟩)
  let Z2:Value:=.agg #[.int .i64 fk,.string ft]
  let Z3:Value:=.pointer (some ⟨k,0,none⟩)
  let Z4:Value:=.tuple #[Z3,.int .i64 0]
  let Z5:List Value:=[.int .i64 fk,.string ft]
  let Z6:Value:=.pointer (some ⟨s,0,none⟩)
  let Z7:Value:=.tuple #[Z6,.bool true]
  let Z8:SH:=.push (.is g4) (.cells [.int .i64 1,.int .i64 sn,.int .i64 0,.int .i64 0,.string { data:=#[] }] true)
  let Z9:SH:=.push Z8 (.cells news true)
  let Z10:Value:=.pointer (some ⟨b,0,none⟩)
  let Z11:SH:=.set Z9 k (.cells c1 true)
  pvFn Try.prog (pvCall Try.prog 0) Try.f66 [Z1,.int .i64 n,Z2] (.is g) [.idx b,.ret Z4 (.is g2),.bit false,.cells Z5,.ret (.bool true) (.is g3),.ret Z7 (.is g3),.val (.bool false),.cells Z5,.ret (.bool bl) (.is g4),.val (.int .i64 fk),.bit true,.val (.int .i64 live),.bit true,.val (.int .i64 sn),.idx e1,.app [] news 0 y,.cells Z5,.cells c1,.cells c2,.ret (.slice none 0 0) (.is g5),.app0] =
  some (.tuple #[.slice (some ⟨y,0,none⟩) 1 5,.int .i64 0],.is g5,[],[.len (.is g) b,.call 76 [Z1,.int .i64 n] (.push (.is g) (.cells Z5 true)) Z4 (.is g2),.cmp .neq 0 0 false,.ldn (.is g2) b 0 2 Z5,.call 85 [Z2] (.is g2) (.bool true) (.is g3),.call 79 [Z3] (.is g3) Z7 (.is g3),.ld1 (.is g3) k 3 (.bool false),.ldn (.is g3) b 0 2 Z5,.call 86 [Z6,Z2] (.is g3) (.bool bl) (.is g4),.ld1 (.is g4) b 0 (.int .i64 fk),.cmp .neq fk 0 true,.ld1 (.is g4) s 5 (.int .i64 live),.cmp .gtr live 0 true,.ld1 (.is g4) s 0 (.int .i64 sn),.len (.is g4) e1,.appNil Z8 e1 0 1 0 5 48 news y,.stat (drawN Try.f66 0),.again Z9 29 Z10 Z2,.again Z9 29 Z10 Z2,.again Z11 29 Z10 Z2,.ldn Z9 b 0 2 Z5,.st Z9 k 3 [.bool true] c1,.st Z11 k 5 Z5 c2,.call 87 [Z6] (.set Z11 k (.cells c2 true)) (.slice none 0 0) (.is g5)]):=by intros;kernel_rfl
theorem le_es(r k s b e1 y:Nat)(n e fk live sn:Int)(ft:ByteArray)(bl:Bool)(fv:Value)(c1 c2 news:List Value)(kk z:Nat)(g g2 g3 g4 g5:Hp)(w wl:Nat)(cs n3:List Value) :
  let Z1:Value:=.pointer (some ⟨r,0,none⟩)
  let Z2:Value:=.agg #[.int .i64 fk,.string ft]
  let Z3:Value:=.pointer (some ⟨k,0,none⟩)
  let Z4:Value:=.tuple #[Z3,.int .i64 0]
  let Z5:List Value:=[.int .i64 fk,.string ft]
  let Z6:Value:=.pointer (some ⟨s,0,none⟩)
  let Z7:Value:=.tuple #[Z6,.bool true]
  let Z8:Value:=.slice (some ⟨w,0,none⟩) wl 5
  let Z9:SH:=.push (.is g4) (.cells [.int .i64 1,.int .i64 sn,.int .i64 0,.int .i64 0,.string { data:=#[] }] true)
  let Z10:SH:=.push Z9 (.cells news true)
  let Z11:Value:=.pointer (some ⟨b,0,none⟩)
  let Z12:SH:=.set Z10 k (.cells c1 true)
  pvFn Try.prog (pvCall Try.prog 0) Try.f66 [Z1,.int .i64 n,Z2] (.is g) [.idx b,.ret Z4 (.is g2),.bit false,.cells Z5,.ret (.bool true) (.is g3),.ret Z7 (.is g3),.val (.bool false),.cells Z5,.ret (.bool bl) (.is g4),.val (.int .i64 fk),.bit true,.val (.int .i64 live),.bit true,.val (.int .i64 sn),.idx e1,.app [] news 0 y,.cells Z5,.cells c1,.cells c2,.ret Z8 (.is g5),.app cs n3 kk z] =
  some (.tuple #[.slice (some ⟨z,0,none⟩) (1+wl) 5,.int .i64 0],.push (.set (.is g5) y .dead) (.cells cs true),[],[.len (.is g) b,.call 76 [Z1,.int .i64 n] (.push (.is g) (.cells Z5 true)) Z4 (.is g2),.cmp .neq 0 0 false,.ldn (.is g2) b 0 2 Z5,.call 85 [Z2] (.is g2) (.bool true) (.is g3),.call 79 [Z3] (.is g3) Z7 (.is g3),.ld1 (.is g3) k 3 (.bool false),.ldn (.is g3) b 0 2 Z5,.call 86 [Z6,Z2] (.is g3) (.bool bl) (.is g4),.ld1 (.is g4) b 0 (.int .i64 fk),.cmp .neq fk 0 true,.ld1 (.is g4) s 5 (.int .i64 live),.cmp .gtr live 0 true,.ld1 (.is g4) s 0 (.int .i64 sn),.len (.is g4) e1,.appNil Z9 e1 0 1 0 5 48 news y,.stat (drawN Try.f66 0),.again Z10 29 Z11 Z2,.again Z10 29 Z11 Z2,.again Z12 29 Z11 Z2,.ldn Z10 b 0 2 Z5,.st Z10 k 3 [.bool true] c1,.st Z12 k 5 Z5 c2,.call 87 [Z6] (.set Z12 k (.cells c2 true)) Z8 (.is g5),.app (.is g5) y 0 1 w 0 wl kk 5 48 cs n3 z]):=by intros;kernel_rfl
theorem en_err(r k s b e1 y:Nat)(n e fk live sn:Int)(ft:ByteArray)(bl:Bool)(fv:Value)(c1 c2 news:List Value)(kk z:Nat)(g g2 g3 g4 g5:Hp) :
  let Z1:Value:=.pointer (some ⟨r,0,none⟩)
  let Z2:Value:=.tuple #[.pointer none,.int .i64 e]
  pvFn Try.prog (pvCall Try.prog 0) Try.f65 [Z1,.int .i64 n,.agg #[.int .i64 fk,.string ft]] (.is g) [.idx b,.ret Z2 (.is g2),.bit true] =
  some (.tuple #[.slice none 0 0,.int .i64 e],.is g2,[],[.len (.is g) b,.call 76 [Z1,.int .i64 n] (.push (.is g) (.cells [.int .i64 fk,.string ft] true)) Z2 (.is g2),.cmp .neq e 0 true]):=by intros;kernel_rfl
theorem en_bad(r k s b e1 y:Nat)(n e fk live sn:Int)(ft:ByteArray)(bl:Bool)(fv:Value)(c1 c2 news:List Value)(kk z:Nat)(g g2 g3 g4 g5:Hp) :
  let Z1:Value:=.pointer (some ⟨r,0,none⟩)
  let Z2:Value:=.agg #[.int .i64 fk,.string ft]
  let Z3:Value:=.tuple #[.pointer (some ⟨k,0,none⟩),.int .i64 0]
  let Z4:List Value:=[.int .i64 fk,.string ft]
  pvFn Try.prog (pvCall Try.prog 0) Try.f65 [Z1,.int .i64 n,Z2] (.is g) [.idx b,.ret Z3 (.is g2),.bit false,.cells Z4,.ret (.bool false) (.is g3)] =
  some (.tuple #[.slice none 0 0,.int .i64 2],.is g3,[],[.len (.is g) b,.call 76 [Z1,.int .i64 n] (.push (.is g) (.cells Z4 true)) Z3 (.is g2),.cmp .neq 0 0 false,.ldn (.is g2) b 0 2 Z4,.call 85 [Z2] (.is g2) (.bool false) (.is g3)]):=by intros;kernel_rfl
theorem en_open(r k s b e1 y:Nat)(n e fk live sn:Int)(ft:ByteArray)(bl:Bool)(fv:Value)(c1 c2 news:List Value)(kk z:Nat)(g g2 g3 g4 g5:Hp)(oo ol:Nat) :
  let Z1:Value:=.pointer (some ⟨r,0,none⟩)
  let Z2:Value:=.agg #[.int .i64 fk,.string ft]
  let Z3:Value:=.tuple #[.pointer (some ⟨k,0,none⟩),.int .i64 0]
  let Z4:List Value:=[.int .i64 fk,.string ft]
  let Z5:Value:=.slice (some ⟨oo,0,none⟩) ol 1
  pvFn Try.prog (pvCall Try.prog 0) Try.f65 [Z1,.int .i64 n,Z2] (.is g) [.idx b,.ret Z3 (.is g2),.bit false,.cells Z4,.ret (.bool true) (.is g3),.val Z5,.bit true] =
  some (.tuple #[.slice none 0 0,.int .i64 22],.is g3,[],[.len (.is g) b,.call 76 [Z1,.int .i64 n] (.push (.is g) (.cells Z4 true)) Z3 (.is g2),.cmp .neq 0 0 false,.ldn (.is g2) b 0 2 Z4,.call 85 [Z2] (.is g2) (.bool true) (.is g3),.ld1 (.is g3) k 2 Z5,.cmp .gtr (Int.ofNat ol) 0 true]):=by intros;kernel_rfl
theorem en_rootn(r k s b e1 y:Nat)(n e fk live sn:Int)(ft:ByteArray)(bl:Bool)(fv:Value)(c1 c2 news:List Value)(kk z:Nat)(g g2 g3 g4 g5:Hp)(oo ol:Nat) :
  let Z1:Value:=.pointer (some ⟨r,0,none⟩)
  let Z2:Value:=.agg #[.int .i64 fk,.string ft]
  let Z3:Value:=.tuple #[.pointer (some ⟨k,0,none⟩),.int .i64 0]
  let Z4:List Value:=[.int .i64 fk,.string ft]
  let Z5:SH:=.set (.is g3) k (.cells c1 true)
  let Z6:SH:=.set Z5 k (.cells c2 true)
  let Z7:Value:=.pointer (some ⟨b,0,none⟩)
  pvFn Try.prog (pvCall Try.prog 0) Try.f65 [Z1,.int .i64 n,Z2] (.is g) [.idx b,.ret Z3 (.is g2),.bit false,.cells Z4,.ret (.bool true) (.is g3),.val (.slice none 0 0),.bit false,.cells Z4,.cells c1,.cells c2,.val (.pointer none)] =
  some (.tuple #[.slice none 0 0,.int .i64 0],Z6,[],[.len (.is g) b,.call 76 [Z1,.int .i64 n] (.push (.is g) (.cells Z4 true)) Z3 (.is g2),.cmp .neq 0 0 false,.ldn (.is g2) b 0 2 Z4,.call 85 [Z2] (.is g2) (.bool true) (.is g3),.ld1 (.is g3) k 2 (.slice none 0 0),.cmp .gtr 0 0 false,.stat (drawN Try.f65 0),.again (.is g3) 29 Z7 Z2,.again (.is g3) 29 Z7 Z2,.again Z5 29 Z7 Z2,.ldn (.is g3) b 0 2 Z4,.st (.is g3) k 4 [.bool true] c1,.st Z5 k 5 Z4 c2,.ld1 Z6 k 1 (.pointer none)]):=by intros;kernel_rfl
theorem en_nun(r k s b e1 y:Nat)(n e fk live sn:Int)(ft:ByteArray)(bl:Bool)(fv:Value)(c1 c2 news:List Value)(kk z:Nat)(g g2 g3 g4 g5:Hp)(oo ol:Nat)(l1:Int)(c3:List Value) :
  let Z1:Value:=.pointer (some ⟨r,0,none⟩)
  let Z2:Value:=.agg #[.int .i64 fk,.string ft]
  let Z3:Value:=.tuple #[.pointer (some ⟨k,0,none⟩),.int .i64 0]
  let Z4:List Value:=[.int .i64 fk,.string ft]
  let Z5:Value:=.pointer (some ⟨s,0,none⟩)
  let Z6:Value:=.pointer (some ⟨b,0,none⟩)
  let Z7:SH:=.set (.is g3) k (.cells c1 true)
  let Z8:SH:=.set Z7 k (.cells c2 true)
  let Z9:SH:=.set Z8 s (.cells c3 true)
  pvFn Try.prog (pvCall Try.prog 0) Try.f65 [Z1,.int .i64 n,Z2] (.is g) [.idx b,.ret Z3 (.is g2),.bit false,.cells Z4,.ret (.bool true) (.is g3),.val (.slice none 0 0),.bit false,.cells Z4,.cells c1,.cells c2,.val Z5,.val (.int .i64 live),.num l1,.cells c3,.val (.bool true),.ret (.slice none 0 0) (.is g5),.app0] =
  some (.tuple #[.slice none 0 0,.int .i64 0],.is g5,[],[.len (.is g) b,.call 76 [Z1,.int .i64 n] (.push (.is g) (.cells Z4 true)) Z3 (.is g2),.cmp .neq 0 0 false,.ldn (.is g2) b 0 2 Z4,.call 85 [Z2] (.is g2) (.bool true) (.is g3),.ld1 (.is g3) k 2 (.slice none 0 0),.cmp .gtr 0 0 false,.stat (drawN Try.f65 0),.again (.is g3) 29 Z6 Z2,.again (.is g3) 29 Z6 Z2,.again Z7 29 Z6 Z2,.ldn (.is g3) b 0 2 Z4,.st (.is g3) k 4 [.bool true] c1,.st Z7 k 5 Z4 c2,.ld1 Z8 k 1 Z5,.ld1 Z8 s 5 (.int .i64 live),.arith .sub .i64 live 1 l1,.st Z8 s 5 [.int .i64 l1] c3,.ld1 Z9 s 2 (.bool true),.call 87 [Z5] Z9 (.slice none 0 0) (.is g5)]):=by intros;kernel_rfl
theorem en_nus(r k s b e1 y:Nat)(n e fk live sn:Int)(ft:ByteArray)(bl:Bool)(fv:Value)(c1 c2 news:List Value)(kk z:Nat)(g g2 g3 g4 g5:Hp)(oo ol:Nat)(l1:Int)(c3:List Value)(w wl:Nat)(cs n3:List Value) :
  let Z1:Value:=.pointer (some ⟨r,0,none⟩)
  let Z2:Value:=.agg #[.int .i64 fk,.string ft]
  let Z3:Value:=.tuple #[.pointer (some ⟨k,0,none⟩),.int .i64 0]
  let Z4:List Value:=[.int .i64 fk,.string ft]
  let Z5:Value:=.pointer (some ⟨s,0,none⟩)
  let Z6:Value:=.slice (some ⟨w,0,none⟩) wl 5
  let Z7:Value:=.pointer (some ⟨b,0,none⟩)
  let Z8:SH:=.set (.is g3) k (.cells c1 true)
  let Z9:SH:=.set Z8 k (.cells c2 true)
  let Z10:SH:=.set Z9 s (.cells c3 true)
  pvFn Try.prog (pvCall Try.prog 0) Try.f65 [Z1,.int .i64 n,Z2] (.is g) [.idx b,.ret Z3 (.is g2),.bit false,.cells Z4,.ret (.bool true) (.is g3),.val (.slice none 0 0),.bit false,.cells Z4,.cells c1,.cells c2,.val Z5,.val (.int .i64 live),.num l1,.cells c3,.val (.bool true),.ret Z6 (.is g5),.app [] n3 kk z] =
  some (.tuple #[.slice (some ⟨z,0,none⟩) wl 5,.int .i64 0],.push (.is g5) (.cells n3 true),[],[.len (.is g) b,.call 76 [Z1,.int .i64 n] (.push (.is g) (.cells Z4 true)) Z3 (.is g2),.cmp .neq 0 0 false,.ldn (.is g2) b 0 2 Z4,.call 85 [Z2] (.is g2) (.bool true) (.is g3),.ld1 (.is g3) k 2 (.slice none 0 0),.cmp .gtr 0 0 false,.stat (drawN Try.f65 0),.again (.is g3) 29 Z7 Z2,.again (.is g3) 29 Z7 Z2,.again Z8 29 Z7 Z2,.ldn (.is g3) b 0 2 Z4,.st (.is g3) k 4 [.bool true] c1,.st Z8 k 5 Z4 c2,.ld1 Z9 k 1 Z5,.ld1 Z9 s 5 (.int .i64 live),.arith .sub .i64 live 1 l1,.st Z9 s 5 [.int .i64 l1] c3,.ld1 Z10 s 2 (.bool true),.call 87 [Z5] Z10 Z6 (.is g5),.appNil (.is g5) w 0 wl kk 5 48 n3 z]):=by intros;kernel_rfl
theorem en_nkn(r k s b e1 y:Nat)(n e fk live sn:Int)(ft:ByteArray)(bl:Bool)(fv:Value)(c1 c2 news:List Value)(kk z:Nat)(g g2 g3 g4 g5:Hp)(oo ol:Nat)(l1:Int)(c3:List Value) :
  let Z1:Value:=.pointer (some ⟨r,0,none⟩)
  let Z2:Value:=.agg #[.int .i64 fk,.string ft]
  let Z3:Value:=.tuple #[.pointer (some ⟨k,0,none⟩),.int .i64 0]
  let Z4:List Value:=[.int .i64 fk,.string ft]
  let Z5:Value:=.pointer (some ⟨s,0,none⟩)
  let Z6:Value:=.pointer (some ⟨b,0,none⟩)
  let Z7:SH:=.set (.is g3) k (.cells c1 true)
  let Z8:SH:=.set Z7 k (.cells c2 true)
  let Z9:SH:=.set Z8 s (.cells c3 true)
  pvFn Try.prog (pvCall Try.prog 0) Try.f65 [Z1,.int .i64 n,Z2] (.is g) [.idx b,.ret Z3 (.is g2),.bit false,.cells Z4,.ret (.bool true) (.is g3),.val (.slice none 0 0),.bit false,.cells Z4,.cells c1,.cells c2,.val Z5,.val (.int .i64 live),.num l1,.cells c3,.val (.bool false),.cells Z4,.ret (.bool false) (.is g4),.ret (.slice none 0 0) (.is g5),.app0] =
  some (.tuple #[.slice none 0 0,.int .i64 0],.is g5,[],[.len (.is g) b,.call 76 [Z1,.int .i64 n] (.push (.is g) (.cells Z4 true)) Z3 (.is g2),.cmp .neq 0 0 false,.ldn (.is g2) b 0 2 Z4,.call 85 [Z2] (.is g2) (.bool true) (.is g3),.ld1 (.is g3) k 2 (.slice none 0 0),.cmp .gtr 0 0 false,.stat (drawN Try.f65 0),.again (.is g3) 29 Z6 Z2,.again (.is g3) 29 Z6 Z2,.again Z7 29 Z6 Z2,.ldn (.is g3) b 0 2 Z4,.st (.is g3) k 4 [.bool true] c1,.st Z7 k 5 Z4 c2,.ld1 Z8 k 1 Z5,.ld1 Z8 s 5 (.int .i64 live),.arith .sub .i64 live 1 l1,.st Z8 s 5 [.int .i64 l1] c3,.ld1 Z9 s 2 (.bool false),.ldn Z9 b 0 2 Z4,.call 86 [Z5,Z2] Z9 (.bool false) (.is g4),.call 87 [Z5] (.is g4) (.slice none 0 0) (.is g5)]):=by intros;kernel_rfl
theorem en_nks(r k s b e1 y:Nat)(n e fk live sn:Int)(ft:ByteArray)(bl:Bool)(fv:Value)(c1 c2 news:List Value)(kk z:Nat)(g g2 g3 g4 g5:Hp)(oo ol:Nat)(l1:Int)(c3:List Value)(w wl:Nat)(cs n3:List Value) :
  let Z1:Value:=.pointer (some ⟨r,0,none⟩)
  let Z2:Value:=.agg #[.int .i64 fk,.string ft]
  let Z3:Value:=.tuple #[.pointer (some ⟨k,0,none⟩),.int .i64 0]
  let Z4:List Value:=[.int .i64 fk,.string ft]
  let Z5:Value:=.pointer (some ⟨s,0,none⟩)
  let Z6:Value:=.slice (some ⟨w,0,none⟩) wl 5
  let Z7:Value:=.pointer (some ⟨b,0,none⟩)
  let Z8:SH:=.set (.is g3) k (.cells c1 true)
  let Z9:SH:=.set Z8 k (.cells c2 true)
  let Z10:SH:=.set Z9 s (.cells c3 true)
  pvFn Try.prog (pvCall Try.prog 0) Try.f65 [Z1,.int .i64 n,Z2] (.is g) [.idx b,.ret Z3 (.is g2),.bit false,.cells Z4,.ret (.bool true) (.is g3),.val (.slice none 0 0),.bit false,.cells Z4,.cells c1,.cells c2,.val Z5,.val (.int .i64 live),.num l1,.cells c3,.val (.bool false),.cells Z4,.ret (.bool false) (.is g4),.ret Z6 (.is g5),.app [] n3 kk z] =
  some (.tuple #[.slice (some ⟨z,0,none⟩) wl 5,.int .i64 0],.push (.is g5) (.cells n3 true),[],[.len (.is g) b,.call 76 [Z1,.int .i64 n] (.push (.is g) (.cells Z4 true)) Z3 (.is g2),.cmp .neq 0 0 false,.ldn (.is g2) b 0 2 Z4,.call 85 [Z2] (.is g2) (.bool true) (.is g3),.ld1 (.is g3) k 2 (.slice none 0 0),.cmp .gtr 0 0 false,.stat (drawN Try.f65 0),.again (.is g3) 29 Z7 Z2,.again (.is g3) 29 Z7 Z2,.again Z8 29 Z7 Z2,.ldn (.is g3) b 0 2 Z4,.st (.is g3) k 4 [.bool true] c1,.st Z8 k 5 Z4 c2,.ld1 Z9 k 1 Z5,.ld1 Z9 s 5 (.int .i64 live),.arith .sub .i64 live 1 l1,.st Z9 s 5 [.int .i64 l1] c3,.ld1 Z10 s 2 (.bool false),.ldn Z10 b 0 2 Z4,.call 86 [Z5,Z2] Z10 (.bool false) (.is g4),.call 87 [Z5] (.is g4) Z6 (.is g5),.appNil (.is g5) w 0 wl kk 5 48 n3 z]):=by intros;kernel_rfl
theorem en_nbn(r k s b e1 y:Nat)(n e fk live sn:Int)(ft:ByteArray)(bl:Bool)(fv:Value)(c1 c2 news:List Value)(kk z:Nat)(g g2 g3 g4 g5:Hp)(oo ol:Nat)(l1:Int)(c3:List Value) :
  let Z1:Value:=.pointer (some ⟨r,0,none⟩)
  let Z2:Value:=.agg #[.int .i64 fk,.string ft]
  let Z3:Value:=.tuple #[.pointer (some ⟨k,0,none⟩),.int .i64 0]
  let Z4:List Value:=[.int .i64 fk,.string ft]
  let Z5:Value:=.pointer (some ⟨s,0,none⟩)
  let Z6:Value:=.pointer (some ⟨b,0,none⟩)
  let Z7:SH:=.set (.is g3) k (.cells c1 true)
  let Z8:SH:=.set Z7 k (.cells c2 true)
  let Z9:SH:=.set Z8 s (.cells c3 true)
  let Z10:SH:=.push (.is g4) (.cells [.int .i64 1,.int .i64 sn,.int .i64 0,.int .i64 0,.string { data:=#[] }] true)
  pvFn Try.prog (pvCall Try.prog 0) Try.f65 [Z1,.int .i64 n,Z2] (.is g) [.idx b,.ret Z3 (.is g2),.bit false,.cells Z4,.ret (.bool true) (.is g3),.val (.slice none 0 0),.bit false,.cells Z4,.cells c1,.cells c2,.val Z5,.val (.int .i64 live),.num l1,.cells c3,.val (.bool false),.cells Z4,.ret (.bool true) (.is g4),.val (.int .i64 sn),.idx e1,.app [] news 0 y,.ret (.slice none 0 0) (.is g5),.app0] =
  some (.tuple #[.slice (some ⟨y,0,none⟩) 1 5,.int .i64 0],.is g5,[],[.len (.is g) b,.call 76 [Z1,.int .i64 n] (.push (.is g) (.cells Z4 true)) Z3 (.is g2),.cmp .neq 0 0 false,.ldn (.is g2) b 0 2 Z4,.call 85 [Z2] (.is g2) (.bool true) (.is g3),.ld1 (.is g3) k 2 (.slice none 0 0),.cmp .gtr 0 0 false,.stat (drawN Try.f65 0),.again (.is g3) 29 Z6 Z2,.again (.is g3) 29 Z6 Z2,.again Z7 29 Z6 Z2,.ldn (.is g3) b 0 2 Z4,.st (.is g3) k 4 [.bool true] c1,.st Z7 k 5 Z4 c2,.ld1 Z8 k 1 Z5,.ld1 Z8 s 5 (.int .i64 live),.arith .sub .i64 live 1 l1,.st Z8 s 5 [.int .i64 l1] c3,.ld1 Z9 s 2 (.bool false),.ldn Z9 b 0 2 Z4,.call 86 [Z5,Z2] Z9 (.bool true) (.is g4),.ld1 (.is g4) s 0 (.int .i64 sn),.len (.is g4) e1,.appNil Z10 e1 0 1 0 5 48 news y,.call 87 [Z5] (.push Z10 (.cells news true)) (.slice none 0 0) (.is g5)]):=by intros;kernel_rfl
theorem en_nbs(r k s b e1 y:Nat)(n e fk live sn:Int)(ft:ByteArray)(bl:Bool)(fv:Value)(c1 c2 news:List Value)(kk z:Nat)(g g2 g3 g4 g5:Hp)(oo ol:Nat)(l1:Int)(c3:List Value)(w wl:Nat)(cs n3:List Value) :
  let Z1:Value:=.pointer (some ⟨r,0,none⟩)
  let Z2:Value:=.agg #[.int .i64 fk,.string ft]
  let Z3:Value:=.tuple #[.pointer (some ⟨k,0,none⟩),.int .i64 0]
  let Z4:List Value:=[.int .i64 fk,.string ft]
  let Z5:Value:=.pointer (some ⟨s,0,none⟩)
  let Z6:Value:=.slice (some ⟨w,0,none⟩) wl 5
  let Z7:Value:=.pointer (some ⟨b,0,none⟩)
  let Z8:SH:=.set (.is g3) k (.cells c1 true)
  let Z9:SH:=.set Z8 k (.cells c2 true)
  let Z10:SH:=.set Z9 s (.cells c3 true)
  let Z11:SH:=.push (.is g4) (.cells [.int .i64 1,.int .i64 sn,.int .i64 0,.int .i64 0,.string { data:=#[] }] true)
  pvFn Try.prog (pvCall Try.prog 0) Try.f65 [Z1,.int .i64 n,Z2] (.is g) [.idx b,.ret Z3 (.is g2),.bit false,.cells Z4,.ret (.bool true) (.is g3),.val (.slice none 0 0),.bit false,.cells Z4,.cells c1,.cells c2,.val Z5,.val (.int .i64 live),.num l1,.cells c3,.val (.bool false),.cells Z4,.ret (.bool true) (.is g4),.val (.int .i64 sn),.idx e1,.app [] news 0 y,.ret Z6 (.is g5),.app cs n3 kk z] =
  some (.tuple #[.slice (some ⟨z,0,none⟩) (1+wl) 5,.int .i64 0],.push (.set (.is g5) y .dead) (.cells cs true),[],[.len (.is g) b,.call 76 [Z1,.int .i64 n] (.push (.is g) (.cells Z4 true)) Z3 (.is g2),.cmp .neq 0 0 false,.ldn (.is g2) b 0 2 Z4,.call 85 [Z2] (.is g2) (.bool true) (.is g3),.ld1 (.is g3) k 2 (.slice none 0 0),.cmp .gtr 0 0 false,.stat (drawN Try.f65 0),.again (.is g3) 29 Z7 Z2,.again (.is g3) 29 Z7 Z2,.again Z8 29 Z7 Z2,.ldn (.is g3) b 0 2 Z4,.st (.is g3) k 4 [.bool true] c1,.st Z8 k 5 Z4 c2,.ld1 Z9 k 1 Z5,.ld1 Z9 s 5 (.int .i64 live),.arith .sub .i64 live 1 l1,.st Z9 s 5 [.int .i64 l1] c3,.ld1 Z10 s 2 (.bool false),.ldn Z10 b 0 2 Z4,.call 86 [Z5,Z2] Z10 (.bool true) (.is g4),.ld1 (.is g4) s 0 (.int .i64 sn),.len (.is g4) e1,.appNil Z11 e1 0 1 0 5 48 news y,.call 87 [Z5] (.push Z11 (.cells news true)) Z6 (.is g5),.app (.is g5) y 0 1 w 0 wl kk 5 48 cs n3 z]):=by intros;kernel_rfl
theorem en_roots(r k s b e1 y:Nat)(n e fk live sn:Int)(ft:ByteArray)(bl:Bool)(fv:Value)(c1 c2 news:List Value)(kk z:Nat)(g g2 g3 g4 g5:Hp)(oo ol:Nat) :
  let Z1:Value:=.pointer (some ⟨r,0,none⟩)
  let Z2:Value:=.agg #[.int .i64 fk,.string ft]
  let Z3:Value:=.tuple #[.pointer (some ⟨k,0,none⟩),.int .i64 0]
  let Z4:List Value:=[.int .i64 fk,.string ft]
  let Z5:Value:=.slice (some ⟨oo,0,none⟩) ol 1
  let Z6:SH:=.set (.is g3) k (.cells c1 true)
  let Z7:SH:=.set Z6 k (.cells c2 true)
  let Z8:Value:=.pointer (some ⟨b,0,none⟩)
  pvFn Try.prog (pvCall Try.prog 0) Try.f65 [Z1,.int .i64 n,Z2] (.is g) [.idx b,.ret Z3 (.is g2),.bit false,.cells Z4,.ret (.bool true) (.is g3),.val Z5,.bit false,.cells Z4,.cells c1,.cells c2,.val (.pointer none)] =
  some (.tuple #[.slice none 0 0,.int .i64 0],Z7,[],[.len (.is g) b,.call 76 [Z1,.int .i64 n] (.push (.is g) (.cells Z4 true)) Z3 (.is g2),.cmp .neq 0 0 false,.ldn (.is g2) b 0 2 Z4,.call 85 [Z2] (.is g2) (.bool true) (.is g3),.ld1 (.is g3) k 2 Z5,.cmp .gtr (Int.ofNat ol) 0 false,.stat (drawN Try.f65 0),.again (.is g3) 29 Z8 Z2,.again (.is g3) 29 Z8 Z2,.again Z6 29 Z8 Z2,.ldn (.is g3) b 0 2 Z4,.st (.is g3) k 4 [.bool true] c1,.st Z6 k 5 Z4 c2,.ld1 Z7 k 1 (.pointer none)]):=by intros;kernel_rfl
theorem en_sun(r k s b e1 y:Nat)(n e fk live sn:Int)(ft:ByteArray)(bl:Bool)(fv:Value)(c1 c2 news:List Value)(kk z:Nat)(g g2 g3 g4 g5:Hp)(oo ol:Nat)(l1:Int)(c3:List Value) :
  let Z1:Value:=.pointer (some ⟨r,0,none⟩)
  let Z2:Value:=.agg #[.int .i64 fk,.string ft]
  let Z3:Value:=.tuple #[.pointer (some ⟨k,0,none⟩),.int .i64 0]
  let Z4:List Value:=[.int .i64 fk,.string ft]
  let Z5:Value:=.slice (some ⟨oo,0,none⟩) ol 1
  let Z6:Value:=.pointer (some ⟨s,0,none⟩)
  let Z7:Value:=.pointer (some ⟨b,0,none⟩)
  let Z8:SH:=.set (.is g3) k (.cells c1 true)
  let Z9:SH:=.set Z8 k (.cells c2 true)
  let Z10:SH:=.set Z9 s (.cells c3 true)
  pvFn Try.prog (pvCall Try.prog 0) Try.f65 [Z1,.int .i64 n,Z2] (.is g) [.idx b,.ret Z3 (.is g2),.bit false,.cells Z4,.ret (.bool true) (.is g3),.val Z5,.bit false,.cells Z4,.cells c1,.cells c2,.val Z6,.val (.int .i64 live),.num l1,.cells c3,.val (.bool true),.ret (.slice none 0 0) (.is g5),.app0] =
  some (.tuple #[.slice none 0 0,.int .i64 0],.is g5,[],[.len (.is g) b,.call 76 [Z1,.int .i64 n] (.push (.is g) (.cells Z4 true)) Z3 (.is g2),.cmp .neq 0 0 false,.ldn (.is g2) b 0 2 Z4,.call 85 [Z2] (.is g2) (.bool true) (.is g3),.ld1 (.is g3) k 2 Z5,.cmp .gtr (Int.ofNat ol) 0 false,.stat (drawN Try.f65 0),.again (.is g3) 29 Z7 Z2,.again (.is g3) 29 Z7 Z2,.again Z8 29 Z7 Z2,.ldn (.is g3) b 0 2 Z4,.st (.is g3) k 4 [.bool true] c1,.st Z8 k 5 Z4 c2,.ld1 Z9 k 1 Z6,.ld1 Z9 s 5 (.int .i64 live),.arith .sub .i64 live 1 l1,.st Z9 s 5 [.int .i64 l1] c3,.ld1 Z10 s 2 (.bool true),.call 87 [Z6] Z10 (.slice none 0 0) (.is g5)]):=by intros;kernel_rfl
theorem en_sus(r k s b e1 y:Nat)(n e fk live sn:Int)(ft:ByteArray)(bl:Bool)(fv:Value)(c1 c2 news:List Value)(kk z:Nat)(g g2 g3 g4 g5:Hp)(oo ol:Nat)(l1:Int)(c3:List Value)(w wl:Nat)(cs n3:List Value) :
  let Z1:Value:=.pointer (some ⟨r,0,none⟩)
  let Z2:Value:=.agg #[.int .i64 fk,.string ft]
  let Z3:Value:=.tuple #[.pointer (some ⟨k,0,none⟩),.int .i64 0]
  let Z4:List Value:=[.int .i64 fk,.string ft]
  let Z5:Value:=.slice (some ⟨oo,0,none⟩) ol 1
  let Z6:Value:=.pointer (some ⟨s,0,none⟩)
  let Z7:Value:=.slice (some ⟨w,0,none⟩) wl 5
  let Z8:Value:=.pointer (some ⟨b,0,none⟩)
  let Z9:SH:=.set (.is g3) k (.cells c1 true)
  let Z10:SH:=.set Z9 k (.cells c2 true)
  let Z11:SH:=.set Z10 s (.cells c3 true)
  pvFn Try.prog (pvCall Try.prog 0) Try.f65 [Z1,.int .i64 n,Z2] (.is g) [.idx b,.ret Z3 (.is g2),.bit false,.cells Z4,.ret (.bool true) (.is g3),.val Z5,.bit false,.cells Z4,.cells c1,.cells c2,.val Z6,.val (.int .i64 live),.num l1,.cells c3,.val (.bool true),.ret Z7 (.is g5),.app [] n3 kk z] =
  some (.tuple #[.slice (some ⟨z,0,none⟩) wl 5,.int .i64 0],.push (.is g5) (.cells n3 true),[],[.len (.is g) b,.call 76 [Z1,.int .i64 n] (.push (.is g) (.cells Z4 true)) Z3 (.is g2),.cmp .neq 0 0 false,.ldn (.is g2) b 0 2 Z4,.call 85 [Z2] (.is g2) (.bool true) (.is g3),.ld1 (.is g3) k 2 Z5,.cmp .gtr (Int.ofNat ol) 0 false,.stat (drawN Try.f65 0),.again (.is g3) 29 Z8 Z2,.again (.is g3) 29 Z8 Z2,.again Z9 29 Z8 Z2,.ldn (.is g3) b 0 2 Z4,.st (.is g3) k 4 [.bool true] c1,.st Z9 k 5 Z4 c2,.ld1 Z10 k 1 Z6,.ld1 Z10 s 5 (.int .i64 live),.arith .sub .i64 live 1 l1,.st Z10 s 5 [.int .i64 l1] c3,.ld1 Z11 s 2 (.bool true),.call 87 [Z6] Z11 Z7 (.is g5),.appNil (.is g5) w 0 wl kk 5 48 n3 z]):=by intros;kernel_rfl
theorem en_skn(r k s b e1 y:Nat)(n e fk live sn:Int)(ft:ByteArray)(bl:Bool)(fv:Value)(c1 c2 news:List Value)(kk z:Nat)(g g2 g3 g4 g5:Hp)(oo ol:Nat)(l1:Int)(c3:List Value) :
  let Z1:Value:=.pointer (some ⟨r,0,none⟩)
  let Z2:Value:=.agg #[.int .i64 fk,.string ft]
  let Z3:Value:=.tuple #[.pointer (some ⟨k,0,none⟩),.int .i64 0]
  let Z4:List Value:=[.int .i64 fk,.string ft]
  let Z5:Value:=.slice (some ⟨oo,0,none⟩) ol 1
  let Z6:Value:=.pointer (some ⟨s,0,none⟩)
  let Z7:Value:=.pointer (some ⟨b,0,none⟩)
  let Z8:SH:=.set (.is g3) k (.cells c1 true)
  let Z9:SH:=.set Z8 k (.cells c2 true)
  let Z10:SH:=.set Z9 s (.cells c3 true)
  pvFn Try.prog (pvCall Try.prog 0) Try.f65 [Z1,.int .i64 n,Z2] (.is g) [.idx b,.ret Z3 (.is g2),.bit false,.cells Z4,.ret (.bool true) (.is g3),.val Z5,.bit false,.cells Z4,.cells c1,.cells c2,.val Z6,.val (.int .i64 live),.num l1,.cells c3,.val (.bool false),.cells Z4,.ret (.bool false) (.is g4),.ret (.slice none 0 0) (.is g5),.app0] =
  some (.tuple #[.slice none 0 0,.int .i64 0],.is g5,[],[.len (.is g) b,.call 76 [Z1,.int .i64 n] (.push (.is g) (.cells Z4 true)) Z3 (.is g2),.cmp .neq 0 0 false,.ldn (.is g2) b 0 2 Z4,.call 85 [Z2] (.is g2) (.bool true) (.is g3),.ld1 (.is g3) k 2 Z5,.cmp .gtr (Int.ofNat ol) 0 false,.stat (drawN Try.f65 0),.again (.is g3) 29 Z7 Z2,.again (.is g3) 29 Z7 Z2,.again Z8 29 Z7 Z2,.ldn (.is g3) b 0 2 Z4,.st (.is g3) k 4 [.bool true] c1,.st Z8 k 5 Z4 c2,.ld1 Z9 k 1 Z6,.ld1 Z9 s 5 (.int .i64 live),.arith .sub .i64 live 1 l1,.st Z9 s 5 [.int .i64 l1] c3,.ld1 Z10 s 2 (.bool false),.ldn Z10 b 0 2 Z4,.call 86 [Z6,Z2] Z10 (.bool false) (.is g4),.call 87 [Z6] (.is g4) (.slice none 0 0) (.is g5)]):=by intros;kernel_rfl
theorem en_sks(r k s b e1 y:Nat)(n e fk live sn:Int)(ft:ByteArray)(bl:Bool)(fv:Value)(c1 c2 news:List Value)(kk z:Nat)(g g2 g3 g4 g5:Hp)(oo ol:Nat)(l1:Int)(c3:List Value)(w wl:Nat)(cs n3:List Value) :
  let Z1:Value:=.pointer (some ⟨r,0,none⟩)
  let Z2:Value:=.agg #[.int .i64 fk,.string ft]
  let Z3:Value:=.tuple #[.pointer (some ⟨k,0,none⟩),.int .i64 0]
  let Z4:List Value:=[.int .i64 fk,.string ft]
  let Z5:Value:=.slice (some ⟨oo,0,none⟩) ol 1
  let Z6:Value:=.pointer (some ⟨s,0,none⟩)
  let Z7:Value:=.slice (some ⟨w,0,none⟩) wl 5
  let Z8:Value:=.pointer (some ⟨b,0,none⟩)
  let Z9:SH:=.set (.is g3) k (.cells c1 true)
  let Z10:SH:=.set Z9 k (.cells c2 true)
  let Z11:SH:=.set Z10 s (.cells c3 true)
  pvFn Try.prog (pvCall Try.prog 0) Try.f65 [Z1,.int .i64 n,Z2] (.is g) [.idx b,.ret Z3 (.is g2),.bit false,.cells Z4,.ret (.bool true) (.is g3),.val Z5,.bit false,.cells Z4,.cells c1,.cells c2,.val Z6,.val (.int .i64 live),.num l1,.cells c3,.val (.bool false),.cells Z4,.ret (.bool false) (.is g4),.ret Z7 (.is g5),.app [] n3 kk z] =
  some (.tuple #[.slice (some ⟨z,0,none⟩) wl 5,.int .i64 0],.push (.is g5) (.cells n3 true),[],[.len (.is g) b,.call 76 [Z1,.int .i64 n] (.push (.is g) (.cells Z4 true)) Z3 (.is g2),.cmp .neq 0 0 false,.ldn (.is g2) b 0 2 Z4,.call 85 [Z2] (.is g2) (.bool true) (.is g3),.ld1 (.is g3) k 2 Z5,.cmp .gtr (Int.ofNat ol) 0 false,.stat (drawN Try.f65 0),.again (.is g3) 29 Z8 Z2,.again (.is g3) 29 Z8 Z2,.again Z9 29 Z8 Z2,.ldn (.is g3) b 0 2 Z4,.st (.is g3) k 4 [.bool true] c1,.st Z9 k 5 Z4 c2,.ld1 Z10 k 1 Z6,.ld1 Z10 s 5 (.int .i64 live),.arith .sub .i64 live 1 l1,.st Z10 s 5 [.int .i64 l1] c3,.ld1 Z11 s 2 (.bool false),.ldn Z11 b 0 2 Z4,.call 86 [Z6,Z2] Z11 (.bool false) (.is g4),.call 87 [Z6] (.is g4) Z7 (.is g5),.appNil (.is g5) w 0 wl kk 5 48 n3 z]):=by intros;kernel_rfl
theorem en_sbn(r k s b e1 y:Nat)(n e fk live sn:Int)(ft:ByteArray)(bl:Bool)(fv:Value)(c1 c2 news:List Value)(kk z:Nat)(g g2 g3 g4 g5:Hp)(oo ol:Nat)(l1:Int)(c3:List Value) :
  let Z1:Value:=.pointer (some ⟨r,0,none⟩)
  let Z2:Value:=.agg #[.int .i64 fk,.string ft]
  let Z3:Value:=.tuple #[.pointer (some ⟨k,0,none⟩),.int .i64 0]
  let Z4:List Value:=[.int .i64 fk,.string ft]
  let Z5:Value:=.slice (some ⟨oo,0,none⟩) ol 1
  let Z6:Value:=.pointer (some ⟨s,0,none⟩)
  let Z7:Value:=.pointer (some ⟨b,0,none⟩)
  let Z8:SH:=.set (.is g3) k (.cells c1 true)
  let Z9:SH:=.set Z8 k (.cells c2 true)
  let Z10:SH:=.set Z9 s (.cells c3 true)
  let Z11:SH:=.push (.is g4) (.cells [.int .i64 1,.int .i64 sn,.int .i64 0,.int .i64 0,.string { data:=#[] }] true)
  pvFn Try.prog (pvCall Try.prog 0) Try.f65 [Z1,.int .i64 n,Z2] (.is g) [.idx b,.ret Z3 (.is g2),.bit false,.cells Z4,.ret (.bool true) (.is g3),.val Z5,.bit false,.cells Z4,.cells c1,.cells c2,.val Z6,.val (.int .i64 live),.num l1,.cells c3,.val (.bool false),.cells Z4,.ret (.bool true) (.is g4),.val (.int .i64 sn),.idx e1,.app [] news 0 y,.ret (.slice none 0 0) (.is g5),.app0] =
  some (.tuple #[.slice (some ⟨y,0,none⟩) 1 5,.int .i64 0],.is g5,[],[.len (.is g) b,.call 76 [Z1,.int .i64 n] (.push (.is g) (.cells Z4 true)) Z3 (.is g2),.cmp .neq 0 0 false,.ldn (.is g2) b 0 2 Z4,.call 85 [Z2] (.is g2) (.bool true) (.is g3),.ld1 (.is g3) k 2 Z5,.cmp .gtr (Int.ofNat ol) 0 false,.stat (drawN Try.f65 0),.again (.is g3) 29 Z7 Z2,.again (.is g3) 29 Z7 Z2,.again Z8 29 Z7 Z2,.ldn (.is g3) b 0 2 Z4,.st (.is g3) k 4 [.bool true] c1,.st Z8 k 5 Z4 c2,.ld1 Z9 k 1 Z6,.ld1 Z9 s 5 (.int .i64 live),.arith .sub .i64 live 1 l1,.st Z9 s 5 [.int .i64 l1] c3,.ld1 Z10 s 2 (.bool false),.ldn Z10 b 0 2 Z4,.call 86 [Z6,Z2] Z10 (.bool true) (.is g4),.ld1 (.is g4) s 0 (.int .i64 sn),.len (.is g4) e1,.appNil Z11 e1 0 1 0 5 48 news y,.call 87 [Z6] (.push Z11 (.cells news true)) (.slice none 0 0) (.is g5)]):=by intros;kernel_rfl
theorem en_sbs(r k s b e1 y:Nat)(n e fk live sn:Int)(ft:ByteArray)(bl:Bool)(fv:Value)(c1 c2 news:List Value)(kk z:Nat)(g g2 g3 g4 g5:Hp)(oo ol:Nat)(l1:Int)(c3:List Value)(w wl:Nat)(cs n3:List Value) :
  let Z1:Value:=.pointer (some ⟨r,0,none⟩)
  let Z2:Value:=.agg #[.int .i64 fk,.string ft]
  let Z3:Value:=.tuple #[.pointer (some ⟨k,0,none⟩),.int .i64 0]
  let Z4:List Value:=[.int .i64 fk,.string ft]
  let Z5:Value:=.slice (some ⟨oo,0,none⟩) ol 1
  let Z6:Value:=.pointer (some ⟨s,0,none⟩)
  let Z7:Value:=.slice (some ⟨w,0,none⟩) wl 5
  let Z8:Value:=.pointer (some ⟨b,0,none⟩)
  let Z9:SH:=.set (.is g3) k (.cells c1 true)
  let Z10:SH:=.set Z9 k (.cells c2 true)
  let Z11:SH:=.set Z10 s (.cells c3 true)
  let Z12:SH:=.push (.is g4) (.cells [.int .i64 1,.int .i64 sn,.int .i64 0,.int .i64 0,.string { data:=#[] }] true)
  pvFn Try.prog (pvCall Try.prog 0) Try.f65 [Z1,.int .i64 n,Z2] (.is g) [.idx b,.ret Z3 (.is g2),.bit false,.cells Z4,.ret (.bool true) (.is g3),.val Z5,.bit false,.cells Z4,.cells c1,.cells c2,.val Z6,.val (.int .i64 live),.num l1,.cells c3,.val (.bool false),.cells Z4,.ret (.bool true) (.is g4),.val (.int .i64 sn),.idx e1,.app [] news 0 y,.ret Z7 (.is g5),.app cs n3 kk z] =
  some (.tuple #[.slice (some ⟨z,0,none⟩) (1+wl) 5,.int .i64 0],.push (.set (.is g5) y .dead) (.cells cs true),[],[.len (.is g) b,.call 76 [Z1,.int .i64 n] (.push (.is g) (.cells Z4 true)) Z3 (.is g2),.cmp .neq 0 0 false,.ldn (.is g2) b 0 2 Z4,.call 85 [Z2] (.is g2) (.bool true) (.is g3),.ld1 (.is g3) k 2 Z5,.cmp .gtr (Int.ofNat ol) 0 false,.stat (drawN Try.f65 0),.again (.is g3) 29 Z8 Z2,.again (.is g3) 29 Z8 Z2,.again Z9 29 Z8 Z2,.ldn (.is g3) b 0 2 Z4,.st (.is g3) k 4 [.bool true] c1,.st Z9 k 5 Z4 c2,.ld1 Z10 k 1 Z6,.ld1 Z10 s 5 (.int .i64 live),.arith .sub .i64 live 1 l1,.st Z10 s 5 [.int .i64 l1] c3,.ld1 Z11 s 2 (.bool false),.ldn Z11 b 0 2 Z4,.call 86 [Z6,Z2] Z11 (.bool true) (.is g4),.ld1 (.is g4) s 0 (.int .i64 sn),.len (.is g4) e1,.appNil Z12 e1 0 1 0 5 48 news y,.call 87 [Z6] (.push Z12 (.cells news true)) Z7 (.is g5),.app (.is g5) y 0 1 w 0 wl kk 5 48 cs n3 z]):=by intros;kernel_rfl
end Go.Proofs.Ytlonjogfeidgfaa.r2p
namespace Go.Proofs.Ytlonjogfeidgfaa.tr
open Go Go.Ev
set_option linter.unusedVariables false
set_option linter.constructorNameAsVariable false
def Tk0(inn:Option Nat):Tk:=⟨inn,[],false,false,0,⟨#[]⟩⟩
def Sc0(k:Nat)(su:Bool):Sc:=⟨k,su,false,[],0,0,⟨#[]⟩⟩
def TS.upT(t:TS)(k:Nat)(f:Tk->Tk):TS:={ t with tks:=t.tks.modify k f }
def TS.upS(t:TS)(k:Nat)(f:Sc->Sc):TS:={ t with scs:=t.scs.modify k f }
def TS.newT(t:TS)(inn:Option Nat):TS:={ t with tks:=t.tks++[Tk0 inn] }
def TS.newS(t:TS)(k:Nat)(su:Bool):TS:={ t with scs:=t.scs++[Sc0 k su] }
section
variable {t:TS} {k j:Nat} {f:Tk->Tk} {g:Sc->Sc}
theorem upT_get:(t.upT k f).tks[j]?=(t.tks[j]?).map fun x=>if k=j then f x else x:=by simp[TS.upT,List.getElem?_modify]
theorem upS_get:(t.upS k g).scs[j]?=(t.scs[j]?).map fun x=>if k=j then g x else x:=by simp[TS.upS,List.getElem?_modify]
theorem upT_at{x:Tk}(h:t.tks[k]?=some x):(t.upT k f).tks[k]?=some (f x):=by rw[upT_get,h];simp
theorem upS_at{x:Sc}(h:t.scs[k]?=some x):(t.upS k g).scs[k]?=some (g x):=by rw[upS_get,h];simp
theorem upT_ne(h:k≠j):(t.upT k f).tks[j]?=t.tks[j]?:=by rw[upT_get];simp[h]
theorem upS_ne(h:k≠j):(t.upS k g).scs[j]?=t.scs[j]?:=by rw[upS_get];simp[h]
theorem upT_len:(t.upT k f).tks.length=t.tks.length:=by simp[TS.upT]
theorem upS_len:(t.upS k g).scs.length=t.scs.length:=by simp[TS.upS]
theorem upT_scs:(t.upT k f).scs=t.scs:=rfl
theorem upS_tks:(t.upS k g).tks=t.tks:=rfl
theorem newT_get{inn:Option Nat}{y:Tk}:(t.newT inn).tks[j]?=some y->(t.tks[j]?=some y)\/(j=t.tks.length/\y=Tk0 inn):=by
 intro h
 simp only[TS.newT,List.getElem?_append] at h
 split at h
 ·exact .inl h
 ·have:=gT h
  simp at this
  have e:j=t.tks.length:=by omega
  subst e
  simp at h
  exact .inr ⟨rfl,h.symm⟩
theorem newS_get{su:Bool}{y:Sc}:(t.newS k su).scs[j]?=some y->(t.scs[j]?=some y)\/(j=t.scs.length/\y=Sc0 k su):=by
 intro h
 simp only[TS.newS,List.getElem?_append] at h
 split at h
 ·exact .inl h
 ·have:=gT h
  simp at this
  have e:j=t.scs.length:=by omega
  subst e
  simp at h
  exact .inr ⟨rfl,h.symm⟩
theorem newT_old{inn:Option Nat}{y:Tk}(h:t.tks[j]?=some y):(t.newT inn).tks[j]?=some y:=by
 simp only[TS.newT]
 rw[List.getElem?_append_left (gT h)]
 exact h
theorem newS_old{su:Bool}{y:Sc}(h:t.scs[j]?=some y):(t.newS k su).scs[j]?=some y:=by
 simp only[TS.newS]
 rw[List.getElem?_append_left (gT h)]
 exact h
theorem newT_new{inn:Option Nat}:(t.newT inn).tks[t.tks.length]?=some (Tk0 inn):=by simp[TS.newT]
theorem newS_new{su:Bool}:(t.newS k su).scs[t.scs.length]?=some (Sc0 k su):=by simp[TS.newS]
theorem newT_len{inn:Option Nat}:(t.newT inn).tks.length=t.tks.length+1:=by simp[TS.newT]
theorem newS_len{su:Bool}:(t.newS k su).scs.length=t.scs.length+1:=by simp[TS.newS]
end
theorem cont_upT{ρ:Lay}{t:TS}{k:Nat}{f:Tk->Tk}{r:Rl}(h1:r≠.tk k)(h2:r≠.op k):cont ρ (t.upT k f) r=cont ρ t r:=by
 cases r with
 | tk j=>simp only[cont,upT_ne (t:=t) (f:=f) (show k≠j from fun e=>h1 (by rw[e]))]
 | op j=>simp only[cont,upT_ne (t:=t) (f:=f) (show k≠j from fun e=>h2 (by rw[e]))]
 | root=>simp only[cont,upT_len,upT_scs]
 | ts=>simp only[cont,upT_len]
 | ss=>rfl
 | sc j=>rfl
 | st j=>rfl
theorem cont_upS{ρ:Lay}{t:TS}{k:Nat}{f:Sc->Sc}{r:Rl}(h1:r≠.sc k)(h2:r≠.st k):cont ρ (t.upS k f) r=cont ρ t r:=by
 cases r with
 | sc j=>simp only[cont,upS_ne (t:=t) (g:=f) (show k≠j from fun e=>h1 (by rw[e]))]
 | st j=>simp only[cont,upS_ne (t:=t) (g:=f) (show k≠j from fun e=>h2 (by rw[e]))]
 | root=>simp only[cont,upS_len,upS_tks]
 | ss=>simp only[cont,upS_len]
 | ts=>rfl
 | tk j=>rfl
 | op j=>rfl
theorem Sh.upT{ρ:Lay}{t:TS}(s:Sh ρ t){k:Nat}{f:Tk->Tk}(hf:∀ x,t.tks[k]?=some x->ρ (.op k)=none->(f x).opn=[]):Sh ρ (t.upT k f):=by
 have hn:t.tks=[]->(t.upT k f).tks=[]:=fun e=>by simp[TS.upT,e]
 refine⟨s.root,by rw[upT_len];exact s.tk,s.sc,fun e=>hn (s.ts e),s.ss,fun j x hx e=>?_,s.st,by rw[upT_len];exact s.otk,s.osc⟩
 rw[upT_get] at hx
 cases hy:t.tks[j]? with
 | none=>rw[hy] at hx;cases hx
 | some y =>
  rw[hy] at hx
  simp only[Option.map_some,Option.some.injEq] at hx
  subst hx
  split
  ·rename_i e';subst e';exact hf y hy e
  ·exact s.op j y hy e
theorem Sh.upS{ρ:Lay}{t:TS}(s:Sh ρ t){k:Nat}{f:Sc->Sc}(hf:∀ x,t.scs[k]?=some x->ρ (.st k)=none->(f x).tks=[]):Sh ρ (t.upS k f):=by
 have hn:t.scs=[]->(t.upS k f).scs=[]:=fun e=>by simp[TS.upS,e]
 refine⟨s.root,s.tk,by rw[upS_len];exact s.sc,s.ts,fun e=>hn (s.ss e),s.op,fun j x hx e=>?_,s.otk,by rw[upS_len];exact s.osc⟩
 rw[upS_get] at hx
 cases hy:t.scs[j]? with
 | none=>rw[hy] at hx;cases hx
 | some y =>
  rw[hy] at hx
  simp only[Option.map_some,Option.some.injEq] at hx
  subst hx
  split
  ·rename_i e';subst e';exact hf y hy e
  ·exact s.st j y hy e
theorem TAt.wTk{h:Hp}{ρ:Lay}{t:TS}(a:TAt h ρ t){k i d:Nat}{x x':Tk}{l:List Value}(f:Tk->Tk)(hi:ρ (.tk k)=some i)(hx:t.tks[k]?=some x)(hf:f x=x')(hp:∃ y,x.opn=x'.opn++y)
  (hd:d+l.length<=7) (hl:(tkC ρ k x).take d++l++(tkC ρ k x).drop (d+l.length)=tkC ρ k x') :
  ∃ c,(∀ (P:Program) (s:SH),s.den=h->(Asm.st s i d l c).holds P)/\TAt (h.set i (.cells c true)) ρ (t.upT k f):=by
 obtain⟨junk,hj⟩:=a.obj _ _ hi
 rw[cT hx] at hj
 obtain⟨y,hy⟩:=hp
 have hx':(t.upT k f).tks[k]?=some x':=by rw[upT_at hx,hf]
 refine⟨tkC ρ k x'++junk,fun P s e=>?_,?_⟩
 ·rw[<- e] at hj
  refine a_st hj (by simp[tkC];omega) ?_
  rw[<- hl,List.take_append_of_le_length (by simp[tkC];omega),List.drop_append_of_le_length (by simp[tkC];omega)]
  simp
 ·refine a.set1 hi (a.sh.upT fun z hz e=>?_) ⟨junk,by rw[cT hx']⟩ fun r' n=>?_
  ·rw[hx] at hz;cases hz
   have:=a.sh.op k x hx e
   rw[hf]
   rw[this] at hy
   exact (List.append_eq_nil_iff.1 hy.symm).1
  ·by_cases e:r'=.op k
   ·subst e
    rw[cont_op hx,cont_op hx',hy]
    exact⟨y.map (inP ρ),fun junk=>by simp⟩
   ·exact⟨[],fun junk=>by rw[cont_upT n e];rfl⟩
theorem TAt.wSc{h:Hp}{ρ:Lay}{t:TS}(a:TAt h ρ t){k i d:Nat}{x x':Sc}{l:List Value}(f:Sc->Sc)(hi:ρ (.sc k)=some i)(hx:t.scs[k]?=some x)(hf:f x=x')(hp:x.tks=x'.tks)
  (hd:d+l.length<=8) (hl:(scC ρ k x).take d++l++(scC ρ k x).drop (d+l.length)=scC ρ k x') :
  ∃ c,(∀ (P:Program) (s:SH),s.den=h->(Asm.st s i d l c).holds P)/\TAt (h.set i (.cells c true)) ρ (t.upS k f):=by
 obtain⟨junk,hj⟩:=a.obj _ _ hi
 rw[cSq hx] at hj
 have hx':(t.upS k f).scs[k]?=some x':=by rw[upS_at hx,hf]
 refine⟨scC ρ k x'++junk,fun P s e=>?_,?_⟩
 ·rw[<- e] at hj
  refine a_st hj (by simp[scC];omega) ?_
  rw[<- hl,List.take_append_of_le_length (by simp[scC];omega),List.drop_append_of_le_length (by simp[scC];omega)]
  simp
 ·refine a.set1 hi (a.sh.upS fun z hz e=>?_) ⟨junk,by rw[cSq hx']⟩ fun r' n=>?_
  ·rw[hx] at hz;cases hz
   have:=a.sh.st k x hx e
   rw[hf,<- hp]
   exact this
  ·by_cases e:r'=.st k
   ·subst e
    rw[cont_st hx,cont_st hx',hp]
    exact⟨[],fun junk=>by simp⟩
   ·exact⟨[],fun junk=>by rw[cont_upS n e];rfl⟩
def gApp(g:Hp)(o:Option Nat)(cs:List Value):Hp:=match o with
 | none=>g++[.cells cs true]
 | some so=>g.set so .dead++[.cells cs true]
theorem gApp_len{g:Hp}{o:Option Nat}{cs:List Value}:(gApp g o cs).length=g.length+1:=by cases o<;>simp[gApp]
theorem gApp_get{g:Hp}{o:Option Nat}{cs:List Value}{q:Nat}{x:AObj}(h:g[q]?=some x)(n:o≠some q):(gApp g o cs)[q]?=some x:=by
 cases o with
 | none=>exact gP h
 | some so=>exact gP (gNq h fun e=>n (by rw[e]))
theorem gApp_new{g:Hp}{o:Option Nat}{cs:List Value}:(gApp g o cs)[g.length]?=some (.cells cs true):=by
 cases o with
 | none=>exact gW _ _
 | some so=>exact gV _ (by simp)
theorem TAt.appG{h:Hp}{ρ ρ':Lay}{t t':TS}(a:TAt h ρ t){rh rs:Rl}{rn:Option Rl}{i d z b n:Nat}{os:Hp}
  (hi:ρ rh=some i) (hne:rh≠rs) (hz:(h++os).length=z) (hrs:ρ' rs=some z) (hot:∀ r,r≠rs->some r≠rn->ρ' r=ρ r)
  (hnew:∀ r,rn=some r->r≠rs/\r≠rh/\ρ r=none/\ρ' r=some b/\h.length<=b/\b<z/\(h++os)[b]?=some (.cells (cont ρ' t' r) true))
  (same:∀ r,r≠rs->r≠rh->some r≠rn->ρ r≠none->cont ρ' t' r=cont ρ t r)
  (hd:d<(cont ρ t rh).length) (hch:cont ρ' t' rh=(cont ρ t rh).take d++[.slice (some ⟨z,0,none⟩) (n+1) 1]++(cont ρ t rh).drop (d+1)) (sh:Sh ρ' t') :
  ∃ cr,(∀ (P:Program) (s:SH),s.den=gApp (h++os) (ρ rs) (cont ρ' t' rs)->(Asm.st s i d [.slice (some ⟨z,0,none⟩) (n+1) 1] cr).holds P)/\TAt ((gApp (h++os) (ρ rs) (cont ρ' t' rs)).set i (.cells cr true)) ρ' t':=by
 obtain⟨junk,hj⟩:=a.obj _ _ hi
 have hil:=get_lt hj
 have hzl:h.length<=z:=by rw[<- hz];simp
 have hns:ρ rs≠some i:=fun e=>hne (a.inj _ _ _ hi e)
 have hsl:∀ q,ρ rs=some q->q<h.length:=fun q e=>a.lt e
 obtain⟨g,hg⟩:∃ g,g=gApp (h++os) (ρ rs) (cont ρ' t' rs):=⟨_,rfl⟩
 have gi:g[i]?=some (.cells (cont ρ t rh++junk) true):=by
  rw[hg]
  exact gApp_get (by rw[List.getElem?_append_left hil];exact hj) hns
 have gl:g.length=z+1:=by rw[hg,gApp_len,hz]
 have hrh:some rh≠rn:=fun e=>(hnew rh e.symm).2.1 rfl
 have hi':ρ' rh=some i:=by rw[hot rh hne hrh];exact hi
 have K:Keep (fun q=>ρ rs=some q) h g:=by
  rw[hg]
  refine⟨by rw[gApp_len];simp;omega,fun q o hq hn=>gApp_get (by rw[List.getElem?_append_left (get_lt hq)];exact hq) hn⟩
 rw[<- hg]
 refine⟨cont ρ' t' rh++junk,fun P s e=>?_,?_⟩
 ·rw[<- e] at gi
  refine a_st gi (by simp;omega) ?_
  rw[hch,List.take_append_of_le_length (by omega),List.drop_append_of_le_length (by simp;omega)]
  simp
 ·refine a.upd (fp:=fun q=>q=i\/ρ rs=some q) (fun r=>r=rs\/r=rh\/some r=rn) ((K.mono fun _ _ e=>.inr e).trans (Keep.set (.inl rfl) _)) (fun r q e f=>?_) sh (fun r n=>?_) fun r q dr e=>?_
  ·rcases f with f | f
   ·subst f;exact .inr (.inl (a.inj _ _ _ e hi))
   ·exact .inl (a.inj _ _ _ e f)
  ·simp only[not_or] at n
   exact⟨hot r n.1 n.2.2,fun e=>⟨[],fun junk=>by rw[same r n.1 n.2.1 n.2.2 e];rfl⟩⟩
  ·have old:∀ r',r'≠rs->some r'≠rn->ρ' r'=some q->q<h.length/\ρ r'=some q:=fun r' n1 n2 e'=>by
    rw[hot r' n1 n2] at e'
    exact⟨a.lt e',e'⟩
   rcases dr with rfl | rfl | dr
   ·rw[hrs] at e;cases e
    refine⟨⟨[],?_⟩,fun r' e'=>?_⟩
    ·rw[List.append_nil]
     refine gNq ?_ (by omega)
     rw[hg,<- hz]
     exact gApp_new
    ·by_cases n1:r'=r
     ·exact n1
     ·by_cases n2:some r'=rn
      ·obtain⟨_,_,_,f,_,f2,_⟩:=hnew r' n2.symm
       rw[f] at e';cases e'
       omega
      ·have:=(old r' n1 n2 e').1
       omega
   ·rw[hi'] at e;cases e
    refine⟨⟨junk,gE gi⟩,fun r' e'=>?_⟩
    by_cases n1:r'=rs
    ·rw[n1,hrs] at e';cases e';omega
    ·by_cases n2:some r'=rn
     ·obtain⟨_,_,_,f,f1,_⟩:=hnew r' n2.symm
      rw[f] at e';cases e'
      omega
     ·exact a.inj _ _ _ (old r' n1 n2 e').2 hi
   ·obtain⟨m1,m2,m3,f,f1,f2,f3⟩:=hnew r dr.symm
    rw[f] at e;cases e
    refine⟨⟨[],?_⟩,fun r' e'=>?_⟩
    ·rw[List.append_nil]
     refine gNq ?_ (by omega)
     rw[hg]
     exact gApp_get f3 fun e=>by have:=hsl b e;omega
    ·by_cases n1:r'=rs
     ·rw[n1,hrs] at e';cases e';omega
     ·by_cases n2:some r'=rn
      ·exact Option.some.inj (n2.trans dr.symm)
      ·have:=(old r' n1 n2 e').1
       omega
end Go.Proofs.Ytlonjogfeidgfaa.tr
namespace Go.Proofs.Ytlonjogfeidgfaa.tr
open Go Go.Ev
set_option maxRecDepth 100000
set_option linter.unusedVariables false
set_option linter.constructorNameAsVariable false
def tkP(ρ:Lay):Option Nat->Value
 | some k=>pvv (ρ (.tk k))
 | none=>.pointer none
def TS.runs(t:TS)(n:Int):Option Nat×Int :=
 if n<1\/(t.tks.length:Int)<n then (none,6) else
 match t.tks[(n-1).toNat]? with
 | some x=>if x.en then (none,6) else (some (n-1).toNat,0)
 | none=>(none,6)
def TS.acts(t:TS)(n:Int):Option Nat×Int:=match t.runs n with
 | (some k,_)=>match t.tks[k]? with
  | some x=>if x.lv then (none,22) else (some k,0)
  | none=>(none,6)
 | (none,e)=>(none,e)
def TS.scope(t:TS)(n:Int):Option Nat×Int:=if n<1\/(t.scs.length:Int)<n then (none,6) else (some (n-1).toNat,0)
def innV(ρ:Lay):Option (Option Nat)->Value
 | some l=>.tuple #[inP ρ l,.bool true]
 | none=>.tuple #[.pointer none,.bool false]
theorem runs_some{t:TS}{n:Int}{k:Nat}{e:Int}(h:t.runs n=(some k,e)):e=0/\n=k+1/\∃ x,t.tks[k]?=some x/\x.en=false:=by
 unfold TS.runs at h
 split at h
 ·simp at h
 ·rename_i g
  split at h
  ·rename_i x hx
   split at h
   ·simp at h
   ·rename_i he
    simp only[Prod.mk.injEq,Option.some.injEq] at h
    obtain⟨rfl,rfl⟩:=h
    exact⟨rfl,by omega,x,hx,by simpa using he⟩
  ·simp at h
theorem runs_none{t:TS}{n:Int}{e:Int}(h:t.runs n=(none,e)):e=6:=by
 unfold TS.runs at h
 split at h
 ·simp at h;exact h.symm
 ·split at h
  ·split at h<;>simp at h;exact h.symm
  ·simp at h;exact h.symm
theorem acts_some{t:TS}{n:Int}{k:Nat}{e:Int}(h:t.acts n=(some k,e)):e=0/\n=k+1/\∃ x,t.tks[k]?=some x/\x.en=false/\x.lv=false:=by
 unfold TS.acts at h
 split at h
 ·rename_i j e' hr
  obtain⟨rfl,hn,x,hx,he⟩:=runs_some hr
  rw[hx] at h
  simp only at h
  split at h
  ·simp at h
  ·rename_i hl
   simp only[Prod.mk.injEq,Option.some.injEq] at h
   obtain⟨rfl,rfl⟩:=h
   exact⟨rfl,hn,x,hx,he,by simpa using hl⟩
 ·simp at h
theorem acts_none{t:TS}{n:Int}{e:Int}(h:t.acts n=(none,e)):e=6\/e=22:=by
 unfold TS.acts at h
 split at h
 ·split at h
  ·split at h<;>simp at h
   exact .inr h.symm
  ·simp at h;exact .inl h.symm
 ·rename_i hr
  simp at h
  subst h
  exact .inl (runs_none hr)
theorem scope_some{t:TS}{n:Int}{k:Nat}{e:Int}(h:t.scope n=(some k,e)):e=0/\n=k+1/\k<t.scs.length:=by
 unfold TS.scope at h
 split at h
 ·simp at h
 ·simp only[Prod.mk.injEq,Option.some.injEq] at h
  omega
theorem scope_none{t:TS}{n:Int}{e:Int}(h:t.scope n=(none,e)):e=6:=by
 unfold TS.scope at h
 split at h
 ·simp at h;exact h.symm
 ·simp at h
section
variable {h:Hp} {ρ:Lay} {t:TS} {c r:Nat}
theorem TAt.hdT(a:TAt h ρ t)(hr:ρ .root=some r){P:Program}{s:SH}(hs:s.den=h):(Asm.ld1 s r 0 (slv (ρ .ts) t.tks.length)).holds P:=a.ld1 hs hr rfl
theorem TAt.hdS(a:TAt h ρ t)(hr:ρ .root=some r){P:Program}{s:SH}(hs:s.den=h):(Asm.ld1 s r 1 (slv (ρ .ss) t.scs.length)).holds P:=a.ld1 hs hr rfl
theorem runs_run(a:TAt h ρ t)(ok:TOk c t)(hr:ρ .root=some r)(n:Int):Run Try.prog 76 [.pointer (some ⟨r,0,none⟩),.int .i64 n] h (.tuple #[tkP ρ (t.runs n).1,.int .i64 (t.runs n).2]) h:=by
 have n64:=ok.n64
 have hd:=a.hdT hr (P:=Try.prog) (s:=.is h) rfl
 by_cases c1:n<1
 ·have e:t.runs n=(none,6):=by simp[TS.runs,c1]
  rw[e]
  exact pvF 0 Try.func76 (r2p.ru_low r 0 0 0 0 n 0 h) ⟨ltT c1,trivial⟩
 ·by_cases c2:(t.tks.length:Int)<n
  ·have e:t.runs n=(none,6):=by simp[TS.runs,c2]
   rw[e]
   cases ht:ρ .ts with
   | none =>
    have h0:=a.sh.ts ht
    rw[ht,h0] at hd
    rw[h0] at c2
    exact pvF 0 Try.func76 (r2p.ru_highn r 0 0 0 0 n 0 h) ⟨ltF (by omega),hd,gtT (by simpa using c2),trivial⟩
   | some to =>
    rw[ht] at hd
    exact pvF 0 Try.func76 (r2p.ru_highs r to t.tks.length 0 0 n 0 h) ⟨ltF (by omega),hd,gtT c2,trivial⟩
  ·have hk:(n-1).toNat<t.tks.length:=by omega
   obtain⟨x,hx⟩:∃ x,t.tks[(n-1).toNat]?=some x:=⟨_,List.getElem?_eq_getElem hk⟩
   obtain⟨to,ht⟩:=a.sh.ts' hk
   obtain⟨i,hi⟩:=a.sh.tk _ hk
   rw[ht] at hd
   have p1:(Asm.arith .sub .i64 n 1 (n-1)).holds Try.prog:=subI rfl (by omega) (by omega)
   have p2:(Asm.off (n-1).toNat 0 (n-1) t.tks.length 1).holds Try.prog:=offI (q:=(n-1).toNat) (by omega) hk (by omega)
   have p3:(Asm.ld1 (.is h) to (n-1).toNat (.pointer (some ⟨i,0,none⟩))).holds Try.prog:=by
    have:=a.ld1 (P:=Try.prog) (s:=.is h) rfl ht (cont_ts hk)
    rwa [hi] at this
   have p4:(Asm.ld1 (.is h) i 4 (.bool x.en)).holds Try.prog:=a.ld1 rfl hi (by rw[cT hx];rfl)
   have g1:(Asm.cmp .lss n 1 false).holds Try.prog:=ltF (by omega)
   have g2:(Asm.cmp .gtr n (Int.ofNat t.tks.length) false).holds Try.prog:=gtF (by simp;omega)
   cases he:x.en with
   | true =>
    have e:t.runs n=(none,6):=by simp only[TS.runs,c1,c2,or_self,if_false,hx,he,reduceIte,Bool.false_eq_true]
    rw[e]
    rw[he] at p4
    exact pvF 0 Try.func76 (r2p.ru_end r to t.tks.length (n-1).toNat i n (n-1) h) ⟨g1,hd,g2,hd,p1,p2,p3,p4,trivial⟩
   | false =>
    have e:t.runs n=(some (n-1).toNat,0):=by simp only[TS.runs,c1,c2,or_self,if_false,hx,he,reduceIte,Bool.false_eq_true]
    rw[e]
    rw[he] at p4
    simp only[tkP,hi,pvv]
    exact pvF 0 Try.func76 (r2p.ru_ok r to t.tks.length (n-1).toNat i n (n-1) h) ⟨g1,hd,g2,hd,p1,p2,p3,p4,hd,p1,p2,p3,trivial⟩
theorem acts_run(a:TAt h ρ t)(ok:TOk c t)(hr:ρ .root=some r)(n:Int):Run Try.prog 78 [.pointer (some ⟨r,0,none⟩),.int .i64 n] h (.tuple #[tkP ρ (t.acts n).1,.int .i64 (t.acts n).2]) h:=by
 have R:=runs_run a ok hr n
 rcases hq:t.runs n with⟨k | k,e⟩
 ·have e6:=runs_none hq
  subst e6
  have e:t.acts n=(none,6):=by simp[TS.acts,hq]
  rw[e]
  rw[hq] at R
  exact pvF 0 Try.func78 (r2p.ac_err r 0 n 6 h) ⟨R,eqF (by omega),trivial⟩
 ·obtain⟨rfl,hn,x,hx,he⟩:=runs_some hq
  obtain⟨i,hi⟩:=a.sh.tk k (gT hx)
  rw[hq] at R
  simp only[tkP,hi,pvv] at R
  have p4:(Asm.ld1 (.is h) i 3 (.bool x.lv)).holds Try.prog:=a.ld1 rfl hi (by rw[cT hx];rfl)
  cases hl:x.lv with
  | true =>
   have e:t.acts n=(none,22):=by simp[TS.acts,hq,hx,hl]
   rw[e]
   rw[hl] at p4
   exact pvF 0 Try.func78 (r2p.ac_lv r i n 0 h) ⟨R,eqT rfl,p4,trivial⟩
  | false =>
   have e:t.acts n=(some k,0):=by simp[TS.acts,hq,hx,hl]
   rw[e]
   rw[hl] at p4
   simp only[tkP,hi,pvv]
   exact pvF 0 Try.func78 (r2p.ac_ok r i n 0 h) ⟨R,eqT rfl,p4,trivial⟩
theorem scope_run(a:TAt h ρ t)(ok:TOk c t)(hr:ρ .root=some r)(n:Int):Run Try.prog 72 [.pointer (some ⟨r,0,none⟩),.int .i64 n] h (.tuple #[inP ρ (t.scope n).1,.int .i64 (t.scope n).2]) h:=by
 have n200:=ok.n200
 have hd:=a.hdS hr (P:=Try.prog) (s:=.is h) rfl
 by_cases c1:n<1
 ·have e:t.scope n=(none,6):=by simp[TS.scope,c1]
  rw[e]
  exact pvF 0 Try.func72 (r2p.sc_low r 0 0 0 0 n 0 h) ⟨ltT c1,trivial⟩
 ·by_cases c2:(t.scs.length:Int)<n
  ·have e:t.scope n=(none,6):=by simp[TS.scope,c2]
   rw[e]
   cases ht:ρ .ss with
   | none =>
    have h0:=a.sh.ss ht
    rw[ht,h0] at hd
    rw[h0] at c2
    exact pvF 0 Try.func72 (r2p.sc_highn r 0 0 0 0 n 0 h) ⟨ltF (by omega),hd,gtT (by simpa using c2),trivial⟩
   | some to =>
    rw[ht] at hd
    exact pvF 0 Try.func72 (r2p.sc_highs r to t.scs.length 0 0 n 0 h) ⟨ltF (by omega),hd,gtT c2,trivial⟩
  ·have hk:(n-1).toNat<t.scs.length:=by omega
   obtain⟨to,ht⟩:=a.sh.ss' hk
   obtain⟨i,hi⟩:=a.sh.sc _ hk
   rw[ht] at hd
   have e:t.scope n=(some (n-1).toNat,0):=by simp[TS.scope,c1,c2]
   rw[e]
   simp only[inP,hi,pvv]
   exact pvF 0 Try.func72 (r2p.sc_ok r to t.scs.length (n-1).toNat i n (n-1) h) ⟨ltF (by omega),hd,gtF (by simp;omega),hd,subI rfl (by omega) (by omega),offI (q:=(n-1).toNat) (by omega) hk (by omega),
    by have:=a.ld1 (P:=Try.prog) (s:=.is h) rfl ht (cont_ss hk);rwa [hi] at this,trivial⟩
theorem stat47:(Asm.stat (drawN Try.f79 0)).holds Try.prog:=show statOk (drawN Try.f79 0)=true by kernel_rfl
theorem inner_run(a:TAt h ρ t)(ok:TOk c t)(hc:c<=1000000){k i:Nat}{x:Tk}(hx:t.tks[k]?=some x)(hi:ρ (.tk k)=some i):Run Try.prog 79 [.pointer (some ⟨i,0,none⟩)] h (innV ρ x.opn.getLast?) h:=by
 have hl:=ok.len k x hx
 have hd:(Asm.ld1 (.is h) i 2 (slv (ρ (.op k)) x.opn.length)).holds Try.prog:=a.ld1 rfl hi (by rw[cT hx];rfl)
 cases ho:ρ (.op k) with
 | none =>
  have h0:=a.sh.op k x hx ho
  rw[ho,h0] at hd
  rw[h0]
  exact pvF 0 Try.func79 (r2p.in_nil i 0 0 0 0 (.bool true) h) ⟨hd,eqT rfl,trivial⟩
 | some o =>
  rw[ho] at hd
  by_cases h0:x.opn=[]
  ·rw[h0] at hd
   rw[h0]
   exact pvF 0 Try.func79 (r2p.in_zero i o 0 0 0 (.bool true) h) ⟨hd,eqT rfl,trivial⟩
  ·have hl0:x.opn.length≠0:=fun e=>h0 (List.length_eq_zero_iff.1 e)
   obtain⟨v,hv⟩:∃ v,x.opn.getLast?=some v:=⟨_,List.getLast?_eq_some_getLast h0⟩
   have hv':x.opn[x.opn.length-1]?=some v:=by rw[<- hv,List.getLast?_eq_getElem?]
   rw[hv]
   have p3:(Asm.ld1 (.is h) o (x.opn.length-1) (inP ρ v)).holds Try.prog:=a.ld1 rfl ho (by rw[cont_op hx,List.getElem?_map,hv'];rfl)
   exact pvF 0 Try.func79 (r2p.in_some i o x.opn.length (x.opn.length-1) ((x.opn.length:Int)-1) (inP ρ v) h) ⟨hd,eqF (by simp;omega),stat47,hd,hd,subI rfl (by omega) (by omega),offI (q:=x.opn.length-1) (by omega) (by omega) (by omega),p3,trivial⟩
end
end Go.Proofs.Ytlonjogfeidgfaa.tr
namespace Go.Proofs.Ytlonjogfeidgfaa.tr
open Go Go.Ev
set_option maxRecDepth 100000
set_option linter.unusedVariables false
set_option linter.constructorNameAsVariable false
structure Step(ρ:Lay)(h:Hp)(ρ':Lay)(h':Hp):Prop where
 keep:Keep (fpT ρ) h h'
 new:∀ q,fpT ρ' q->fpT ρ q\/h.length<=q
 root:ρ' .root=ρ .root
theorem Step.refl(ρ:Lay)(h:Hp):Step ρ h ρ h:=⟨Keep.refl _ _,fun _ e=>.inl e,rfl⟩
theorem Step.trans{ρ ρ1 ρ2:Lay}{h h1 h2:Hp}(a:Step ρ h ρ1 h1)(b:Step ρ1 h1 ρ2 h2):Step ρ h ρ2 h2 :=
 ⟨a.keep.trans_new b.keep fun q hq e=>(a.new q e).elim id fun e=>by omega,
  fun q e=>(b.new q e).elim (a.new q) fun e=>.inr (Nat.le_trans a.keep.1 e),b.root.trans a.root⟩
theorem Step.grow{ρ:Lay}{h h':Hp}(K:Keep (fun _=>False) h h'):Step ρ h ρ h':=⟨K.mono fun _ _ e=>e.elim,fun _ e=>.inl e,rfl⟩
theorem Step.set{ρ:Lay}{h:Hp}{r:Rl}{i:Nat}(hi:ρ r=some i)(o:AObj):Step ρ h ρ (h.set i o):=⟨Keep.set ⟨r,hi⟩ _,fun _ e=>.inl e,rfl⟩
theorem appG_step{h:Hp}{ρ ρ':Lay}{rh rs:Rl}{rn:Option Rl}{i z b:Nat}{os:Hp}{cs:List Value}{o:AObj}(hi:ρ rh=some i)(hz:(h++os).length=z)(hrs:ρ' rs=some z)(hot:∀ r,r≠rs->some r≠rn->ρ' r=ρ r)
  (hnew:∀ r,rn=some r->ρ' r=some b/\h.length<=b) (hroot:ρ' .root=ρ .root):Step ρ h ρ' ((gApp (h++os) (ρ rs) cs).set i o):=by
 refine⟨⟨by simp[gApp_len];omega,fun q x hq hn=>?_⟩,fun q ⟨r,e⟩=>?_,hroot⟩
 ·have h1:i≠q:=fun e=>hn ⟨rh,by rw[hi,e]⟩
  have h2:ρ rs≠some q:=fun e=>hn ⟨rs,e⟩
  exact gNq (gApp_get (by rw[List.getElem?_append_left (get_lt hq)];exact hq) h2) h1
 ·by_cases n1:r=rs
  ·rw[n1,hrs] at e;cases e
   right;rw[<- hz];simp
  ·by_cases n2:some r=rn
   ·obtain⟨f,f1⟩:=hnew r n2.symm
    rw[f] at e;cases e
    exact .inr f1
   ·rw[hot r n1 n2] at e
    exact .inl ⟨r,e⟩
def put2(ρ:Lay)(r1:Rl)(i1:Nat)(r2:Rl)(i2:Nat):Lay:=fun r=>if r=r1 then some i1 else if r=r2 then some i2 else ρ r
def put1(ρ:Lay)(r1:Rl)(i1:Nat):Lay:=fun r=>if r=r1 then some i1 else ρ r
theorem put2_1{ρ:Lay}{r1 r2:Rl}{i1 i2:Nat}:put2 ρ r1 i1 r2 i2 r1=some i1:=by simp[put2]
theorem put2_2{ρ:Lay}{r1 r2:Rl}{i1 i2:Nat}(h:r2≠r1):put2 ρ r1 i1 r2 i2 r2=some i2:=by simp[put2,h]
theorem put2_o{ρ:Lay}{r r1 r2:Rl}{i1 i2:Nat}(h:r≠r1)(k:r≠r2):put2 ρ r1 i1 r2 i2 r=ρ r:=by simp[put2,h,k]
theorem put1_1{ρ:Lay}{r1:Rl}{i1:Nat}:put1 ρ r1 i1 r1=some i1:=by simp[put1]
theorem put1_o{ρ:Lay}{r r1:Rl}{i1:Nat}(h:r≠r1):put1 ρ r1 i1 r=ρ r:=by simp[put1,h]
def sameAt(ρ ρ':Lay):Rl->Prop
 | .root=>ρ' .ts=ρ .ts/\ρ' .ss=ρ .ss
 | .tk k=>ρ' (.op k)=ρ (.op k)
 | .sc k=>ρ' (.st k)=ρ (.st k)
 | _=>True
theorem inP_eq{ρ ρ':Lay}{v:Option Nat}(h:∀ s,v=some s->ρ' (.sc s)=ρ (.sc s)):inP ρ' v=inP ρ v:=by
 cases v with
 | none=>rfl
 | some s=>simp only[inP,h s rfl]
theorem cont_eq{ρ ρ':Lay}{t:TS}{c:Nat}(ok:TOk c t)(hs:∀ s,s<t.scs.length->ρ' (.sc s)=ρ (.sc s))(hk:∀ k,k<t.tks.length->ρ' (.tk k)=ρ (.tk k)){r:Rl}(hr:sameAt ρ ρ' r):cont ρ' t r=cont ρ t r:=by
 cases r with
 | root=>simp only[cont,hr.1,hr.2]
 | ts=>exact List.map_congr_left fun k hk'=>by rw[hk k (List.mem_range.1 hk')]
 | ss=>exact List.map_congr_left fun k hk'=>by rw[hs k (List.mem_range.1 hk')]
 | tk k =>
  cases hx:t.tks[k]? with
  | none=>simp only[cont,hx]
  | some x =>
   rw[cT hx,cT hx,tkC,tkC,inP_eq fun s e=>hs s (ok.inn k x s hx e),show ρ' (.op k)=ρ (.op k) from hr]
 | op k =>
  cases hx:t.tks[k]? with
  | none=>simp only[cont,hx]
  | some x =>
   rw[cont_op hx,cont_op hx]
   exact List.map_congr_left fun v hv=>inP_eq fun s e=>hs s (ok.opn k x s hx (by rw[<- e];exact hv))
 | sc k =>
  cases hx:t.scs[k]? with
  | none=>simp only[cont,hx]
  | some x =>
   rw[cSq hx,cSq hx,scC,scC,hk _ (ok.ow k x hx),show ρ' (.st k)=ρ (.st k) from hr]
 | st k =>
  cases hx:t.scs[k]? with
  | none=>simp only[cont,hx]
  | some x =>
   rw[cont_st hx,cont_st hx]
   exact List.map_congr_left fun j hj=>by rw[hk j (ok.mem k x j hx hj)]
theorem cont_newT{ρ:Lay}{t:TS}{inn:Option Nat}{r:Rl}(h1:r≠.root)(h2:r≠.ts)(h3:r≠.tk t.tks.length)(h4:r≠.op t.tks.length):cont ρ (t.newT inn) r=cont ρ t r:=by
 have g:∀ j,j≠t.tks.length->(t.newT inn).tks[j]?=t.tks[j]?:=fun j hj=>by
  simp only[TS.newT,List.getElem?_append]
  split
  ·rfl
  ·rw[List.getElem?_eq_none (by simp;omega),List.getElem?_eq_none (by omega)]
 cases r with
 | root=>exact absurd rfl h1
 | ts=>exact absurd rfl h2
 | ss=>rfl
 | tk j=>simp only[cont,g j fun e=>h3 (by rw[e])]
 | op j=>simp only[cont,g j fun e=>h4 (by rw[e])]
 | sc j=>rfl
 | st j=>rfl
theorem cont_newS{ρ:Lay}{t:TS}{k:Nat}{su:Bool}{r:Rl}(h1:r≠.root)(h2:r≠.ss)(h3:r≠.sc t.scs.length)(h4:r≠.st t.scs.length):cont ρ (t.newS k su) r=cont ρ t r:=by
 have g:∀ j,j≠t.scs.length->(t.newS k su).scs[j]?=t.scs[j]?:=fun j hj=>by
  simp only[TS.newS,List.getElem?_append]
  split
  ·rfl
  ·rw[List.getElem?_eq_none (by simp;omega),List.getElem?_eq_none (by omega)]
 cases r with
 | root=>exact absurd rfl h1
 | ss=>exact absurd rfl h2
 | ts=>rfl
 | sc j=>simp only[cont,g j fun e=>h3 (by rw[e])]
 | st j=>simp only[cont,g j fun e=>h4 (by rw[e])]
 | tk j=>rfl
 | op j=>rfl
section
variable {h:Hp} {ρ:Lay} {t:TS} {c r:Nat}
abbrev objT(ρ:Lay)(m:Nat)(inn:Option Nat):List Value:=[.int .i64 ((m+1:Nat):Int),inP ρ inn,.slice none 0 0,.bool false,.bool false,.int .i64 0,.string ⟨#[]⟩]
abbrev objS(k:Value)(m:Nat)(su:Bool):List Value:=[.int .i64 ((m+1:Nat):Int),k,.bool su,.bool false,.slice none 0 0,.int .i64 0,.int .i64 0,.string ⟨#[]⟩]
abbrev ptr(i:Nat):Value:=.pointer (some ⟨i,0,none⟩)
theorem TAt.appTs(a:TAt h ρ t)(ok:TOk c t)(hr:ρ .root=some r){inn:Option Nat}(hinn:∀ s,inn=some s->s<t.scs.length) :
  ∃ ρ' cr,(∀ (P:Program) (s:SH),s.den=gApp (h++[.cells (objT ρ t.tks.length inn) true]++[.cells [ptr h.length] true]) (ρ .ts) (cont ρ t .ts++[ptr h.length])->(Asm.st s r 0 [.slice (some ⟨h.length+2,0,none⟩) (t.tks.length+1) 1] cr).holds P) /\
   TAt ((gApp (h++[.cells (objT ρ t.tks.length inn) true]++[.cells [ptr h.length] true]) (ρ .ts) (cont ρ t .ts++[ptr h.length])).set r (.cells cr true)) ρ' (t.newT inn) /\
   Step ρ h ρ' ((gApp (h++[.cells (objT ρ t.tks.length inn) true]++[.cells [ptr h.length] true]) (ρ .ts) (cont ρ t .ts++[ptr h.length])).set r (.cells cr true)) /\
   (∀ q,q≠.ts->q≠.tk t.tks.length->ρ' q=ρ q)/\ρ' (.tk t.tks.length)=some h.length:=by
 obtain⟨m,hm⟩:∃ m,m=t.tks.length:=⟨_,rfl⟩
 obtain⟨ρ',hρ⟩:∃ ρ',ρ'=put2 ρ .ts (h.length+2) (.tk m) h.length:=⟨_,rfl⟩
 have e1:ρ' .ts=some (h.length+2):=by rw[hρ];exact put2_1
 have e2:ρ' (.tk m)=some h.length:=by rw[hρ];exact put2_2 (by simp)
 have eo:∀ q,q≠.ts->q≠.tk m->ρ' q=ρ q:=fun q h1 h2=>by rw[hρ];exact put2_o h1 h2
 have es:∀ s,s<t.scs.length->ρ' (.sc s)=ρ (.sc s):=fun s _=>eo _ (by simp) (by simp)
 have ek:∀ k,k<t.tks.length->ρ' (.tk k)=ρ (.tk k):=fun k hk=>eo _ (by simp) (by simp;omega)
 obtain⟨hom,hoo⟩:=a.sh.otk m (by omega)
 have cts:cont ρ' (t.newT inn) .ts=cont ρ t .ts++[ptr h.length]:=by
  simp only[cont,newT_len,List.range_succ,List.map_append,List.map_cons,List.map_nil,<- hm,e2,pvv]
  congr 1
  exact List.map_congr_left fun k hk=>by rw[ek k (by rw[<- hm];exact List.mem_range.1 hk)]
 have ctk:cont ρ' (t.newT inn) (.tk m)=objT ρ m inn:=by
  rw[hm,cT newT_new,tkC,show (Tk0 inn).inn=inn from rfl,inP_eq (ρ:=ρ) fun s e=>es s (hinn s e),<- hm,eo (.op m) (by simp) (by simp),hoo]
  rfl
 have sh:Sh ρ' (t.newT inn):=by
  refine⟨by rw[eo _ (by simp) (by simp)];exact a.sh.root,fun k hk=>?_,fun k hk=>?_,fun e=>?_,fun e=>?_,fun k x hx e=>?_,fun k x hx e=>?_,fun k hk=>?_,fun k hk=>?_⟩
  ·rw[newT_len,<- hm] at hk
   by_cases ekm:k=m
   ·subst ekm;exact⟨_,e2⟩
   ·rw[ek k (by omega)];exact a.sh.tk k (by omega)
  ·rw[es k hk];exact a.sh.sc k hk
  ·rw[e1] at e;cases e
  ·rw[eo _ (by simp) (by simp)] at e;exact a.sh.ss e
  ·rw[eo _ (by simp) (by simp)] at e
   rcases newT_get hx with hx | ⟨_,rfl⟩
   ·exact a.sh.op k x hx e
   ·rfl
  ·rw[eo _ (by simp) (by simp)] at e;exact a.sh.st k x hx e
  ·rw[newT_len,<- hm] at hk
   rw[eo _ (by simp) (by simp;omega),eo _ (by simp) (by simp)]
   exact a.sh.otk k (by omega)
  ·rw[eo _ (by simp) (by simp),eo _ (by simp) (by simp)]
   exact a.sh.osc k hk
 have croot:cont ρ' (t.newT inn) .root=(cont ρ t .root).take 0++[.slice (some ⟨h.length+2,0,none⟩) (t.tks.length+1) 1]++(cont ρ t .root).drop (0+1):=by
  simp only[cont,newT_len,e1,slv,eo .ss (by simp) (by simp)]
  rfl
 have same:∀ q,q≠.ts->q≠.root->some q≠some (.tk m)->ρ q≠none->cont ρ' (t.newT inn) q=cont ρ t q:=fun q n1 n2 n3 n4=>by
  have n3':q≠.tk m:=fun e=>n3 (by rw[e])
  have n5:q≠.op m:=fun e=>n4 (by rw[e];exact hoo)
  rw[cont_newT n2 n1 (by rw[<- hm];exact n3') (by rw[<- hm];exact n5)]
  refine cont_eq ok es ek ?_
  cases q<;>first | trivial | exact absurd rfl n1 | exact absurd rfl n2 | exact eo _ (by simp) (by simp)
 have hz:(h++[AObj.cells (objT ρ t.tks.length inn) true,AObj.cells [ptr h.length] true]).length=h.length+2:=by simp
 have hnew:∀ q,some (Rl.tk m)=some q->q≠.ts/\q≠.root/\ρ q=none/\ρ' q=some h.length/\h.length<=h.length/\h.length<h.length+2/\(h++[AObj.cells (objT ρ t.tks.length inn) true,AObj.cells [ptr h.length] true])[h.length]?=some (.cells (cont ρ' (t.newT inn) q) true):=fun q e=>by
  cases e
  refine⟨by simp,by simp,hom,e2,Nat.le_refl _,by omega,?_⟩
  rw[ctk,<- hm]
  simp
 have hap:h++[AObj.cells (objT ρ t.tks.length inn) true]++[AObj.cells [ptr h.length] true]=h++[AObj.cells (objT ρ t.tks.length inn) true,AObj.cells [ptr h.length] true]:=by simp
 obtain⟨cr,p1,p2⟩:=a.appG (rh:=.root) (rs:=.ts) (rn:=some (.tk m)) (b:=h.length) (n:=t.tks.length) (t':=t.newT inn) (d:=0) hr (by simp) hz e1 (fun q n1 n2=>eo q n1 fun e=>n2 (by rw[e])) hnew same (by simp[cont]) croot sh
 rw[cts] at p1 p2
 rw[hap,<- hm]
 rw[<- hm] at p1 p2
 exact⟨ρ',cr,p1,p2,appG_step hr (by simp) e1 (fun q n1 n2=>eo q n1 fun e=>n2 (by rw[e])) (rn:=some (.tk m)) (fun q e=>by cases e;exact⟨e2,Nat.le_refl _⟩) (eo _ (by simp) (by simp)),eo,e2⟩
theorem TAt.appSs(a:TAt h ρ t)(ok:TOk c t)(hr:ρ .root=some r){k i:Nat}(hk:k<t.tks.length)(hi:ρ (.tk k)=some i)(su:Bool) :
  ∃ ρ' cr,(∀ (P:Program) (s:SH),s.den=gApp (h++[.cells (objS (ptr i) t.scs.length su) true]++[.cells [ptr h.length] true]) (ρ .ss) (cont ρ t .ss++[ptr h.length])->(Asm.st s r 1 [.slice (some ⟨h.length+2,0,none⟩) (t.scs.length+1) 1] cr).holds P) /\
   TAt ((gApp (h++[.cells (objS (ptr i) t.scs.length su) true]++[.cells [ptr h.length] true]) (ρ .ss) (cont ρ t .ss++[ptr h.length])).set r (.cells cr true)) ρ' (t.newS k su) /\
   Step ρ h ρ' ((gApp (h++[.cells (objS (ptr i) t.scs.length su) true]++[.cells [ptr h.length] true]) (ρ .ss) (cont ρ t .ss++[ptr h.length])).set r (.cells cr true)) /\
   (∀ q,q≠.ss->q≠.sc t.scs.length->ρ' q=ρ q)/\ρ' (.sc t.scs.length)=some h.length:=by
 obtain⟨m,hm⟩:∃ m,m=t.scs.length:=⟨_,rfl⟩
 obtain⟨ρ',hρ⟩:∃ ρ',ρ'=put2 ρ .ss (h.length+2) (.sc m) h.length:=⟨_,rfl⟩
 have e1:ρ' .ss=some (h.length+2):=by rw[hρ];exact put2_1
 have e2:ρ' (.sc m)=some h.length:=by rw[hρ];exact put2_2 (by simp)
 have eo:∀ q,q≠.ss->q≠.sc m->ρ' q=ρ q:=fun q h1 h2=>by rw[hρ];exact put2_o h1 h2
 have es:∀ s,s<t.scs.length->ρ' (.sc s)=ρ (.sc s):=fun s hs=>eo _ (by simp) (by simp;omega)
 have ek:∀ k,k<t.tks.length->ρ' (.tk k)=ρ (.tk k):=fun k hk=>eo _ (by simp) (by simp)
 obtain⟨hom,hoo⟩:=a.sh.osc m (by omega)
 have cts:cont ρ' (t.newS k su) .ss=cont ρ t .ss++[ptr h.length]:=by
  simp only[cont,newS_len,List.range_succ,List.map_append,List.map_cons,List.map_nil,<- hm,e2,pvv]
  congr 1
  exact List.map_congr_left fun k hk=>by rw[es k (by rw[<- hm];exact List.mem_range.1 hk)]
 have ctk:cont ρ' (t.newS k su) (.sc m)=objS (ptr i) m su:=by
  rw[hm,cSq newS_new,scC,show (Sc0 k su).ow=k from rfl,ek k hk,hi,<- hm,eo (.st m) (by simp) (by simp),hoo]
  rfl
 have sh:Sh ρ' (t.newS k su):=by
  refine⟨by rw[eo _ (by simp) (by simp)];exact a.sh.root,fun k hk=>?_,fun k hk=>?_,fun e=>?_,fun e=>?_,fun k x hx e=>?_,fun k x hx e=>?_,fun k hk=>?_,fun k hk=>?_⟩
  ·rw[ek k hk];exact a.sh.tk k hk
  ·rw[newS_len,<- hm] at hk
   by_cases ekm:k=m
   ·subst ekm;exact⟨_,e2⟩
   ·rw[es k (by omega)];exact a.sh.sc k (by omega)
  ·rw[eo _ (by simp) (by simp)] at e;exact a.sh.ts e
  ·rw[e1] at e;cases e
  ·rw[eo _ (by simp) (by simp)] at e;exact a.sh.op k x hx e
  ·rw[eo _ (by simp) (by simp)] at e
   rcases newS_get hx with hx | ⟨_,rfl⟩
   ·exact a.sh.st k x hx e
   ·rfl
  ·rw[eo _ (by simp) (by simp),eo _ (by simp) (by simp)]
   exact a.sh.otk k hk
  ·rw[newS_len,<- hm] at hk
   rw[eo _ (by simp) (by simp;omega),eo _ (by simp) (by simp)]
   exact a.sh.osc k (by omega)
 have croot:cont ρ' (t.newS k su) .root=(cont ρ t .root).take 1++[.slice (some ⟨h.length+2,0,none⟩) (t.scs.length+1) 1]++(cont ρ t .root).drop (1+1):=by
  simp only[cont,newS_len,e1,slv,eo .ts (by simp) (by simp)]
  rfl
 have same:∀ q,q≠.ss->q≠.root->some q≠some (.sc m)->ρ q≠none->cont ρ' (t.newS k su) q=cont ρ t q:=fun q n1 n2 n3 n4=>by
  have n3':q≠.sc m:=fun e=>n3 (by rw[e])
  have n5:q≠.st m:=fun e=>n4 (by rw[e];exact hoo)
  rw[cont_newS n2 n1 (by rw[<- hm];exact n3') (by rw[<- hm];exact n5)]
  refine cont_eq ok es ek ?_
  cases q<;>first | trivial | exact absurd rfl n1 | exact absurd rfl n2 | exact eo _ (by simp) (by simp)
 have hz:(h++[AObj.cells (objS (ptr i) t.scs.length su) true,AObj.cells [ptr h.length] true]).length=h.length+2:=by simp
 have hnew:∀ q,some (Rl.sc m)=some q->q≠.ss/\q≠.root/\ρ q=none/\ρ' q=some h.length/\h.length<=h.length/\h.length<h.length+2/\(h++[AObj.cells (objS (ptr i) t.scs.length su) true,AObj.cells [ptr h.length] true])[h.length]?=some (.cells (cont ρ' (t.newS k su) q) true):=fun q e=>by
  cases e
  refine⟨by simp,by simp,hom,e2,Nat.le_refl _,by omega,?_⟩
  rw[ctk,<- hm]
  simp
 have hap:h++[AObj.cells (objS (ptr i) t.scs.length su) true]++[AObj.cells [ptr h.length] true]=h++[AObj.cells (objS (ptr i) t.scs.length su) true,AObj.cells [ptr h.length] true]:=by simp
 obtain⟨cr,p1,p2⟩:=a.appG (rh:=.root) (rs:=.ss) (rn:=some (.sc m)) (b:=h.length) (n:=t.scs.length) (t':=t.newS k su) (d:=1) hr (by simp) hz e1 (fun q n1 n2=>eo q n1 fun e=>n2 (by rw[e])) hnew same (by simp[cont]) croot sh
 rw[cts] at p1 p2
 rw[hap,<- hm]
 rw[<- hm] at p1 p2
 exact⟨ρ',cr,p1,p2,appG_step hr (by simp) e1 (fun q n1 n2=>eo q n1 fun e=>n2 (by rw[e])) (rn:=some (.sc m)) (fun q e=>by cases e;exact⟨e2,Nat.le_refl _⟩) (eo _ (by simp) (by simp)),eo,e2⟩
theorem TAt.appOp(a:TAt h ρ t)(ok:TOk c t){k i:Nat}{x:Tk}(hx:t.tks[k]?=some x)(hi:ρ (.tk k)=some i)(v:Option Nat)(hv:∀ s,v=some s->s<t.scs.length) :
  ∃ ρ' cr,(∀ (P:Program) (s:SH),s.den=gApp (h++[.cells [inP ρ v] true]) (ρ (.op k)) (x.opn.map (inP ρ)++[inP ρ v])->(Asm.st s i 2 [.slice (some ⟨h.length+1,0,none⟩) (x.opn.length+1) 1] cr).holds P) /\
   TAt ((gApp (h++[.cells [inP ρ v] true]) (ρ (.op k)) (x.opn.map (inP ρ)++[inP ρ v])).set i (.cells cr true)) ρ' (t.upT k fun x=>{ x with opn:=x.opn++[v] }) /\
   Step ρ h ρ' ((gApp (h++[.cells [inP ρ v] true]) (ρ (.op k)) (x.opn.map (inP ρ)++[inP ρ v])).set i (.cells cr true))/\(∀ q,q≠.op k->ρ' q=ρ q):=by
 obtain⟨f,hf⟩:∃ f:Tk->Tk,f=fun x=>{ x with opn:=x.opn++[v] }:=⟨_,rfl⟩
 rw[<- hf]
 obtain⟨ρ',hρ⟩:∃ ρ',ρ'=put1 ρ (.op k) (h.length+1):=⟨_,rfl⟩
 have e1:ρ' (.op k)=some (h.length+1):=by rw[hρ];exact put1_1
 have eo:∀ q,q≠.op k->ρ' q=ρ q:=fun q h1=>by rw[hρ];exact put1_o h1
 have es:∀ s,s<t.scs.length->ρ' (.sc s)=ρ (.sc s):=fun s hs=>eo _ (by simp)
 have ek:∀ k,k<t.tks.length->ρ' (.tk k)=ρ (.tk k):=fun k hk=>eo _ (by simp)
 have hx':(t.upT k f).tks[k]?=some (f x):=upT_at hx
 have cop:cont ρ' (t.upT k f) (.op k)=x.opn.map (inP ρ)++[inP ρ v]:=by
  rw[cont_op hx',hf]
  simp only[List.map_append,List.map_cons,List.map_nil]
  rw[inP_eq fun s e=>es s (hv s e)]
  congr 1
  exact List.map_congr_left fun w hw=>inP_eq fun s e=>es s (ok.opn k x s hx (by rw[<- e];exact hw))
 have sh:Sh ρ' (t.upT k f):=by
  have s1:Sh ρ' t:=by
   refine⟨by rw[eo _ (by simp)];exact a.sh.root,fun k hk=>by rw[ek k hk];exact a.sh.tk k hk,fun s hs=>by rw[es s hs];exact a.sh.sc s hs,by rw[eo _ (by simp)];exact a.sh.ts,by rw[eo _ (by simp)];exact a.sh.ss,fun j y hy e=>?_,
    fun j y hy e=>by rw[eo _ (by simp)] at e;exact a.sh.st j y hy e,fun j hj=>?_,fun j hj=>by rw[eo _ (by simp),eo _ (by simp)];exact a.sh.osc j hj⟩
   ·by_cases ej:j=k
    ·rw[ej,e1] at e;cases e
    ·rw[eo _ (by simp[ej])] at e;exact a.sh.op j y hy e
   ·have ej:j≠k:=fun e=>by have:=gT hx;omega
    rw[eo _ (by simp),eo _ (by simp[ej])];exact a.sh.otk j hj
  exact s1.upT fun y hy e=>by rw[e1] at e;cases e
 have ctk:cont ρ' (t.upT k f) (.tk k)=(cont ρ t (.tk k)).take 2++[.slice (some ⟨h.length+1,0,none⟩) (x.opn.length+1) 1]++(cont ρ t (.tk k)).drop (2+1):=by
  rw[cT hx',cT hx,hf]
  simp only[tkC,e1,slv,List.length_append,List.length_cons,List.length_nil]
  rw[inP_eq fun s e=>es s (ok.inn k x s hx e)]
  rfl
 have same:∀ q,q≠.op k->q≠.tk k->some q≠none->ρ q≠none->cont ρ' (t.upT k f) q=cont ρ t q:=fun q n1 n2 n3 n4=>by
  rw[cont_upT n2 n1]
  refine cont_eq ok es ek ?_
  cases q with
  | root=>exact⟨eo _ (by simp),eo _ (by simp)⟩
  | tk j=>exact eo _ fun e=>n2 (by cases e;rfl)
  | sc j=>exact eo _ (by simp)
  | _=>trivial
 obtain⟨cr,p1,p2⟩:=a.appG (rh:=.tk k) (rs:=.op k) (rn:=none) (b:=0) (n:=x.opn.length) (t':=t.upT k f) (d:=2) (os:=[.cells [inP ρ v] true]) (z:=h.length+1) hi (by simp) (by simp) e1 (fun q n1 n2=>eo q n1) (fun q e=>by cases e) same (by rw[cT hx];simp[tkC]) ctk sh
 rw[cop] at p1 p2
 exact⟨ρ',cr,p1,p2,appG_step (b:=0) hi (by simp) e1 (fun q n1 n2=>eo q n1) (rn:=none) (fun q e=>by cases e) (eo _ (by simp)),eo⟩
theorem TAt.appSt(a:TAt h ρ t)(ok:TOk c t){k i j ji:Nat}{x:Sc}(hx:t.scs[k]?=some x)(hi:ρ (.sc k)=some i)(hj:j<t.tks.length)(hji:ρ (.tk j)=some ji) :
  ∃ ρ' cr,(∀ (P:Program) (s:SH),s.den=gApp (h++[.cells [ptr ji] true]) (ρ (.st k)) (x.tks.map (fun j=>pvv (ρ (.tk j)))++[ptr ji])->(Asm.st s i 4 [.slice (some ⟨h.length+1,0,none⟩) (x.tks.length+1) 1] cr).holds P) /\
   TAt ((gApp (h++[.cells [ptr ji] true]) (ρ (.st k)) (x.tks.map (fun j=>pvv (ρ (.tk j)))++[ptr ji])).set i (.cells cr true)) ρ' (t.upS k fun x=>{ x with tks:=x.tks++[j] }) /\
   Step ρ h ρ' ((gApp (h++[.cells [ptr ji] true]) (ρ (.st k)) (x.tks.map (fun j=>pvv (ρ (.tk j)))++[ptr ji])).set i (.cells cr true))/\(∀ q,q≠.st k->ρ' q=ρ q):=by
 obtain⟨f,hf⟩:∃ f:Sc->Sc,f=fun x=>{ x with tks:=x.tks++[j] }:=⟨_,rfl⟩
 rw[<- hf]
 obtain⟨ρ',hρ⟩:∃ ρ',ρ'=put1 ρ (.st k) (h.length+1):=⟨_,rfl⟩
 have e1:ρ' (.st k)=some (h.length+1):=by rw[hρ];exact put1_1
 have eo:∀ q,q≠.st k->ρ' q=ρ q:=fun q h1=>by rw[hρ];exact put1_o h1
 have es:∀ s,s<t.scs.length->ρ' (.sc s)=ρ (.sc s):=fun s hs=>eo _ (by simp)
 have ek:∀ k,k<t.tks.length->ρ' (.tk k)=ρ (.tk k):=fun k hk=>eo _ (by simp)
 have hx':(t.upS k f).scs[k]?=some (f x):=upS_at hx
 have cop:cont ρ' (t.upS k f) (.st k)=x.tks.map (fun j=>pvv (ρ (.tk j)))++[ptr ji]:=by
  rw[cont_st hx',hf]
  simp only[List.map_append,List.map_cons,List.map_nil]
  rw[ek j hj,hji]
  congr 1
  exact List.map_congr_left fun w hw=>by rw[ek w (ok.mem k x w hx hw)]
 have sh:Sh ρ' (t.upS k f):=by
  have s1:Sh ρ' t:=by
   refine⟨by rw[eo _ (by simp)];exact a.sh.root,fun k hk=>by rw[ek k hk];exact a.sh.tk k hk,fun s hs=>by rw[es s hs];exact a.sh.sc s hs,by rw[eo _ (by simp)];exact a.sh.ts,by rw[eo _ (by simp)];exact a.sh.ss,
    fun j y hy e=>by rw[eo _ (by simp)] at e;exact a.sh.op j y hy e,fun j y hy e=>?_,fun j hj=>by rw[eo _ (by simp),eo _ (by simp)];exact a.sh.otk j hj,fun j hj=>?_⟩
   ·by_cases ej:j=k
    ·rw[ej,e1] at e;cases e
    ·rw[eo _ (by simp[ej])] at e;exact a.sh.st j y hy e
   ·have ej:j≠k:=fun e=>by have:=gT hx;omega
    rw[eo _ (by simp),eo _ (by simp[ej])];exact a.sh.osc j hj
  exact s1.upS fun y hy e=>by rw[e1] at e;cases e
 have ctk:cont ρ' (t.upS k f) (.sc k)=(cont ρ t (.sc k)).take 4++[.slice (some ⟨h.length+1,0,none⟩) (x.tks.length+1) 1]++(cont ρ t (.sc k)).drop (4+1):=by
  rw[cSq hx',cSq hx,hf]
  simp only[scC,e1,slv,List.length_append,List.length_cons,List.length_nil]
  rw[ek _ (ok.ow k x hx)]
  rfl
 have same:∀ q,q≠.st k->q≠.sc k->some q≠none->ρ q≠none->cont ρ' (t.upS k f) q=cont ρ t q:=fun q n1 n2 n3 n4=>by
  rw[cont_upS n2 n1]
  refine cont_eq ok es ek ?_
  cases q with
  | root=>exact⟨eo _ (by simp),eo _ (by simp)⟩
  | sc j=>exact eo _ fun e=>n2 (by cases e;rfl)
  | tk j=>exact eo _ (by simp)
  | _=>trivial
 obtain⟨cr,p1,p2⟩:=a.appG (rh:=.sc k) (rs:=.st k) (rn:=none) (b:=0) (n:=x.tks.length) (t':=t.upS k f) (d:=4) (os:=[.cells [ptr ji] true]) (z:=h.length+1) hi (by simp) (by simp) e1 (fun q n1 n2=>eo q n1) (fun q e=>by cases e) same (by rw[cSq hx];simp[scC]) ctk sh
 rw[cop] at p1 p2
 exact⟨ρ',cr,p1,p2,appG_step (b:=0) hi (by simp) e1 (fun q n1 n2=>eo q n1) (rn:=none) (fun q e=>by cases e) (eo _ (by simp)),eo⟩
end
end Go.Proofs.Ytlonjogfeidgfaa.tr
namespace Go.Proofs.Ytlonjogfeidgfaa.tr
open Go Go.Ev
set_option maxRecDepth 100000
set_option linter.unusedVariables false
set_option linter.constructorNameAsVariable false
section
variable {t:TS} {c k:Nat}
theorem TOk.mono{c':Nat}(ok:TOk c t)(h:c<=c'):TOk c' t :=
 ⟨ok.n64,ok.n200,ok.inn,ok.opn,fun k x hx=>by have:=ok.len k x hx;omega,ok.ow,ok.mem,fun k x hx=>by have:=ok.mlen k x hx;omega,fun k x hx=>by have:=ok.live k x hx;omega⟩
theorem TOk.upT{f:Tk->Tk}(ok:TOk c t)(hf:∀ x,t.tks[k]?=some x->(f x).inn=x.inn/\(∀ s,some s∈(f x).opn->s<t.scs.length)/\(f x).opn.length<=c):TOk c (t.upT k f):=by
 have g:∀ (j:Nat) y,(t.upT k f).tks[j]?=some y->∃ x,t.tks[j]?=some x/\y.inn=x.inn/\(∀ s,some s∈y.opn->s<t.scs.length)/\y.opn.length<=c:=fun j y hy=>by
  rw[upT_get] at hy
  cases hx:t.tks[j]? with
  | none=>rw[hx] at hy;cases hy
  | some x =>
   rw[hx] at hy
   simp only[Option.map_some,Option.some.injEq] at hy
   split at hy
   ·rename_i e;subst e;subst hy
    exact⟨x,rfl,hf x hx⟩
   ·subst hy
    exact⟨x,rfl,rfl,fun s hs=>ok.opn j x s hx hs,ok.len j x hx⟩
 refine⟨by rw[upT_len];exact ok.n64,ok.n200,fun j y s hy e=>?_,fun j y s hy e=>?_,fun j y hy=>?_,fun j y hy=>by rw[upT_len];exact ok.ow j y hy,fun j y i hy e=>by rw[upT_len];exact ok.mem j y i hy e,ok.mlen,ok.live⟩
 ·obtain⟨x,hx,g1,_⟩:=g j y hy
  exact ok.inn j x s hx (by rw[<- g1];exact e)
 ·obtain⟨x,hx,_,g2,_⟩:=g j y hy
  exact g2 s e
 ·obtain⟨x,hx,_,_,g3⟩:=g j y hy
  exact g3
theorem TOk.upS{f:Sc->Sc}(ok:TOk c t)(hf:∀ x,t.scs[k]?=some x->(f x).ow=x.ow/\(∀ j,j∈(f x).tks->j<t.tks.length)/\(f x).tks.length<=c /\ -(c:Int)<=(f x).live/\(f x).live<=c):TOk c (t.upS k f):=by
 have g:∀ (j:Nat) y,(t.upS k f).scs[j]?=some y->∃ x,t.scs[j]?=some x/\y.ow=x.ow/\(∀ j,j∈y.tks->j<t.tks.length)/\y.tks.length<=c /\ -(c:Int)<=y.live/\y.live<=c:=fun j y hy=>by
  rw[upS_get] at hy
  cases hx:t.scs[j]? with
  | none=>rw[hx] at hy;cases hy
  | some x =>
   rw[hx] at hy
   simp only[Option.map_some,Option.some.injEq] at hy
   split at hy
   ·rename_i e;subst e;subst hy
    exact⟨x,rfl,hf x hx⟩
   ·subst hy
    exact⟨x,rfl,rfl,fun s hs=>ok.mem j x s hx hs,ok.mlen j x hx,ok.live j x hx⟩
 refine⟨ok.n64,by rw[upS_len];exact ok.n200,fun j y s hy e=>by rw[upS_len];exact ok.inn j y s hy e,fun j y s hy e=>by rw[upS_len];exact ok.opn j y s hy e,ok.len,fun j y hy=>?_,fun j y i hy e=>?_,fun j y hy=>?_,fun j y hy=>?_⟩
 ·obtain⟨x,hx,g1,_⟩:=g j y hy
  rw[g1];exact ok.ow j x hx
 ·obtain⟨x,hx,_,g2,_⟩:=g j y hy
  exact g2 i e
 ·obtain⟨x,hx,_,_,g3,_⟩:=g j y hy
  exact g3
 ·obtain⟨x,hx,_,_,_,g4⟩:=g j y hy
  exact g4
theorem TOk.newT{inn:Option Nat}(ok:TOk c t)(hn:t.tks.length<64)(hi:∀ s,inn=some s->s<t.scs.length):TOk c (t.newT inn):=by
 refine⟨by rw[newT_len];omega,ok.n200,fun j y s hy e=>?_,fun j y s hy e=>?_,fun j y hy=>?_,fun j y hy=>by rw[newT_len];have:=ok.ow j y hy;omega,fun j y i hy e=>by rw[newT_len];have:=ok.mem j y i hy e;omega,ok.mlen,ok.live⟩
 ·rcases newT_get hy with hx | ⟨_,rfl⟩
  ·exact ok.inn j y s hx e
  ·exact hi s e
 ·rcases newT_get hy with hx | ⟨_,rfl⟩
  ·exact ok.opn j y s hx e
  ·cases e
 ·rcases newT_get hy with hx | ⟨_,rfl⟩
  ·exact ok.len j y hx
  ·simp[Tk0]
theorem TOk.newS{su:Bool}(ok:TOk c t)(hn:t.scs.length<200)(hk:k<t.tks.length):TOk c (t.newS k su):=by
 refine⟨ok.n64,by rw[newS_len];omega,fun j y s hy e=>by rw[newS_len];have:=ok.inn j y s hy e;omega,fun j y s hy e=>by rw[newS_len];have:=ok.opn j y s hy e;omega,ok.len,fun j y hy=>?_,fun j y i hy e=>?_,fun j y hy=>?_,fun j y hy=>?_⟩
 ·rcases newS_get hy with hx | ⟨_,rfl⟩
  ·exact ok.ow j y hx
  ·exact hk
 ·rcases newS_get hy with hx | ⟨_,rfl⟩
  ·exact ok.mem j y i hx e
  ·cases e
 ·rcases newS_get hy with hx | ⟨_,rfl⟩
  ·exact ok.mlen j y hx
  ·simp[Sc0]
 ·rcases newS_get hy with hx | ⟨_,rfl⟩
  ·exact ok.live j y hx
  ·simp[Sc0]
end
def TS.add(t:TS):Option Nat->TS
 | none=>t.newT none
 | some s=>((t.newT (some s)).upS s fun x=>{ x with tks:=x.tks++[t.tks.length] }).upS s fun x=>{ x with live:=x.live+1 }
theorem TOk.add{t:TS}{c:Nat}{inn:Option Nat}(ok:TOk c t)(hn:t.tks.length<64)(hi:∀ s,inn=some s->s<t.scs.length):TOk (c+1) (t.add inn):=by
 have h1:=(ok.newT hn hi).mono (Nat.le_succ c)
 cases inn with
 | none=>exact h1
 | some s =>
  refine TOk.upS (TOk.upS h1 fun x hx=>?_) fun x hx=>?_
  ·have m1:=ok.mlen s x hx
   have m2:=ok.live s x hx
   refine⟨rfl,fun j hj=>?_,by simp;omega,by simp only;omega,by simp only;omega⟩
   rw[newT_len]
   rcases List.mem_append.1 hj with hj | hj
   ·have:=ok.mem s x j hx hj;omega
   ·simp at hj;omega
  ·rw[upS_get] at hx
   cases hy:t.scs[s]? with
   | none=>rw[show (t.newT (some s)).scs[s]?=t.scs[s]? from rfl,hy] at hx;cases hx
   | some y =>
    rw[show (t.newT (some s)).scs[s]?=t.scs[s]? from rfl,hy] at hx
    simp only[Option.map_some,if_true,Option.some.injEq] at hx
    subst hx
    have m1:=ok.mlen s y hy
    have m2:=ok.live s y hy
    refine⟨rfl,fun j hj=>?_,by simp;omega,by simp only;omega,by simp only;omega⟩
    rw[upS_tks,newT_len]
    rcases List.mem_append.1 hj with hj | hj
    ·have:=ok.mem s y j hy hj;omega
    ·simp at hj;omega
section
variable {h:Hp} {ρ:Lay} {t:TS} {c r:Nat}
theorem one_ptr(i:Nat):([ptr i].all Value.oneCell')=true:=rfl
theorem a_appS{P:Program}{s:SH}{i j n q:Nat}{l junk:List Value}{v:Value}{rw:Bool}(h1:s.den[i]?=some (.cells (l++junk) true))(hn:l.length=n)(hv:[v].all Value.oneCell'=true)(h2:s.den[j]?=some (.cells [v] rw))(hb:n<=1000000)(hq:s.den.length=q) :
  (Asm.app s i 0 n j 0 1 0 1 8 (l++[v]) [v] q).holds P:=by
 refine⟨rfl,⟨_,cells_of h2,by simp,rfl⟩,hv,by omega,by omega,⟨_,own_of h1,by simp;omega,?_⟩,hq⟩
 rw[List.drop_zero,Nat.mul_one,List.take_append_of_le_length (by omega),List.take_of_length_le (by omega)]
theorem a_appN{P:Program}{s:SH}{j q:Nat}{v:Value}{rw:Bool}(hv:[v].all Value.oneCell'=true)(h2:s.den[j]?=some (.cells [v] rw))(hq:s.den.length=q) :
  (Asm.appNil s j 0 1 0 1 8 [v] q).holds P:=⟨rfl,⟨_,cells_of h2,by simp,rfl⟩,hv,by omega,by omega,hq⟩
theorem TAt.exlen(a:TAt h ρ t):∃ d,h.length=d:=⟨_,rfl⟩
theorem add_run(a:TAt h ρ t)(ok:TOk c t)(hc:c<=100000)(hn:t.tks.length<64)(hr:ρ .root=some r){inn:Option Nat}(hinn:∀ s,inn=some s->s<t.scs.length) :
  ∃ ρ' h',Run Try.prog 70 [ptr r,inP ρ inn] h (.int .i64 ((t.tks.length+1:Nat):Int)) h'/\TAt h' ρ' (t.add inn)/\Step ρ h ρ' h':=by
 have n64:=ok.n64
 obtain⟨ρ1,cr,p1,p2,p3,p4,p5⟩:=a.appTs ok hr hinn
 have hd:=a.hdT hr (P:=Try.prog) (s:=.is h) rfl
 have hd':∀ o,(Asm.ld1 (.push (.is h) o) r 0 (slv (ρ .ts) t.tks.length)).holds Try.prog:=fun o=>by
  obtain⟨c,h1,h2⟩:=a.cells hr (d:=0) rfl
  exact aL (gP h1) h2
 have e5:(Asm.len (.is h) h.length).holds Try.prog:=rfl
 have e6:∀ o,(Asm.len (.push (.is h) o) (h.length+1)).holds Try.prog:=fun o=>pL _ _
 cases inn with
 | none =>
  have last:(cont ρ1 (t.newT none) (.tk t.tks.length))[0]?=some (.int .i64 ((t.tks.length+1:Nat):Int)):=by rw[cT newT_new];rfl
  have ff:=fun {s:SH} (hs:s.den=_)=>p2.ld1 (P:=Try.prog) (s:=s) hs p5 last
  refine⟨ρ1,_,?_,p2,p3⟩
  cases ht:ρ .ts with
  | none =>
   have h0:=a.sh.ts ht
   have hm:t.tks.length=0:=by rw[h0];rfl
   have hcs:cont ρ t .ts=[]:=by simp[cont,h0]
   rw[ht,hm] at hd hd'
   rw[ht,hm,hcs] at p1 ff
   rw[hm,hcs]
   exact pvF 0 Try.func70 (r2p.ad_n r 0 0 h.length (h.length+1) (h.length+2) 0 0 0 0 0 ((0+1:Nat):Int) 0 0 cr [] [] [] [] [ptr h.length] h []) ⟨hd,addI rfl (by omega) (by omega),e5,hd' _,e6 _,
    a_appN (one_ptr _) (gV _ (pL _ _)) (by show (h++[_]++[_]).length=_;simp),p1 Try.prog _ rfl,ff rfl,trivial⟩
  | some to =>
   obtain⟨junk,hj⟩:=a.obj _ _ ht
   rw[ht] at hd hd' p1 ff
   exact pvF 0 Try.func70 (r2p.ad_s r to t.tks.length h.length (h.length+1) (h.length+2) 0 0 0 0 0 ((t.tks.length+1:Nat):Int) 0 0 cr (cont ρ t .ts++[ptr h.length]) [] [] [] [ptr h.length] h []) ⟨hd,addI (by simp) (by omega) (by omega),e5,hd' _,e6 _,
    a_appS (gP (gP hj)) (by simp[cont]) (one_ptr _) (gV _ (pL _ _)) (by omega) (by show (h++[_]++[_]).length=_;simp),p1 Try.prog _ rfl,ff rfl,trivial⟩
 | some s =>
  have hs:=hinn s rfl
  obtain⟨x,hx⟩:∃ x,t.scs[s]?=some x:=⟨_,List.getElem?_eq_getElem hs⟩
  have how:=ok.ow s x hx
  have hml:=ok.mlen s x hx
  have hlv:=ok.live s x hx
  obtain⟨to,ht⟩:=a.sh.ts' how
  obtain⟨sid,hsid⟩:=a.sh.sc s hs
  obtain⟨junk,hj⟩:=a.obj _ _ ht
  have hx1:(t.newT (some s)).scs[s]?=some x:=hx
  have ok1:TOk c (t.newT (some s)):=ok.newT hn hinn
  rw[ht] at p1 p2 p3 hd hd'
  obtain⟨d,hd1⟩:=p2.exlen
  have hsid1:ρ1 (.sc s)=some sid:=by rw[p4 _ (by simp) (by simp)];exact hsid
  have hst1:ρ1 (.st s)=ρ (.st s):=p4 _ (by simp) (by simp)
  obtain⟨ρ2,c3,q1,q2,q3,q4⟩:=p2.appSt ok1 (k:=s) (j:=t.tks.length) hx1 hsid1 (by rw[newT_len];omega) p5
  rw[hd1] at q1
  have hx2:=upS_at (g:=fun x=>{ x with tks:=x.tks++[t.tks.length] }) hx1
  have hsid2:ρ2 (.sc s)=some sid:=by rw[q4 _ (by simp)];exact hsid1
  obtain⟨c4,w1,w2⟩:=q2.wSc (d:=5) (l:=[.int .i64 (x.live+1)]) (fun x=>{ x with live:=x.live+1 }) hsid2 hx2 rfl rfl (by simp) rfl
  have p5':ρ2 (.tk t.tks.length)=some h.length:=by rw[q4 _ (by simp)];exact p5
  have last:(cont ρ2 (((t.newT (some s)).upS s fun x=>{ x with tks:=x.tks++[t.tks.length] }).upS s fun x=>{ x with live:=x.live+1 }) (.tk t.tks.length))[0]?=some (.int .i64 ((t.tks.length+1:Nat):Int)):=by
   rw[cT (x:=Tk0 (some s)) (show (((t.newT (some s)).upS s fun x=>{ x with tks:=x.tks++[t.tks.length] }).upS s fun x=>{ x with live:=x.live+1 }).tks[t.tks.length]?=_ from newT_new)];rfl
  have ff:=fun {s:SH} (hs:s.den=_)=>w2.ld1 (P:=Try.prog) (s:=s) hs p5' last
  have fl:=fun {s:SH} (hs:s.den=_)=>q2.ld1 (P:=Try.prog) (s:=s) hs hsid2 (d:=5) (v:=.int .i64 x.live) (by rw[cSq hx2];rfl)
  have fs:=fun {s:SH} (hs:s.den=_)=>p2.ld1 (P:=Try.prog) (s:=s) hs hsid1 (d:=4) (v:=slv (ρ (.st _)) x.tks.length) (by rw[cSq hx1,<- hst1];rfl)
  refine⟨ρ2,_,?_,w2,(p3.trans q3).trans (Step.set hsid2 _)⟩
  have hin:inP ρ (some s)=ptr sid:=by simp only[inP,hsid,pvv]
  rw[hin]
  rw[hst1] at q1 w1 ff fl ⊢
  have fi:(Asm.arith .add .i64 x.live 1 (x.live+1)).holds Try.prog:=addI rfl (by omega) (by omega)
  simp only[objT,hin] at p1 hd1 q1 w1 ff fl fs ⊢
  cases hst:ρ (.st s) with
  | none =>
   have h0:x.tks=[]:=a.sh.st s x hx hst
   rw[hst,h0] at fs
   rw[hst,h0] at q1 w1 ff fl
   rw[h0]
   exact pvF 0 Try.func70 (r2p.ad_sn r to t.tks.length h.length (h.length+1) (h.length+2) sid 0 0 d (d+1) ((t.tks.length+1:Nat):Int) x.live (x.live+1) cr (cont ρ t .ts++[ptr h.length]) [] c3 [ptr h.length] [ptr h.length] h c4) ⟨hd,addI (by simp) (by omega) (by omega),e5,hd' _,e6 _,
    a_appS (gP (gP hj)) (by simp[cont]) (one_ptr _) (gV _ (pL _ _)) (by omega) (by show (h++[_]++[_]).length=_;simp),p1 Try.prog _ rfl,fs rfl,hd1,a_appN (one_ptr _) (gV _ hd1) (by show (_++[_]).length=_;rw[pL];exact congrArg (·+1) hd1),q1 Try.prog _ rfl,fl rfl,fi,w1 Try.prog _ rfl,ff rfl,trivial⟩
  | some so =>
   obtain⟨junk2,hj2⟩:=p2.obj (.st s) so (by rw[hst1];exact hst)
   rw[cont_st hx1] at hj2
   simp only[objT,hin] at hj2
   rw[hst] at fs
   rw[hst] at q1 w1 ff fl
   exact pvF 0 Try.func70 (r2p.ad_ss r to t.tks.length h.length (h.length+1) (h.length+2) sid so x.tks.length d (d+1) ((t.tks.length+1:Nat):Int) x.live (x.live+1) cr (cont ρ t .ts++[ptr h.length]) (x.tks.map (fun j=>pvv (ρ1 (.tk j)))++[ptr h.length]) c3 [ptr h.length] [ptr h.length] h c4) ⟨hd,addI (by simp) (by omega) (by omega),e5,hd' _,e6 _,
    a_appS (gP (gP hj)) (by simp[cont]) (one_ptr _) (gV _ (pL _ _)) (by omega) (by show (h++[_]++[_]).length=_;simp),p1 Try.prog _ rfl,fs rfl,hd1,a_appS (gP hj2) (by simp) (one_ptr _) (gV _ hd1) (by omega) (by show (_++[_]).length=_;rw[pL];exact congrArg (·+1) hd1),q1 Try.prog _ rfl,fl rfl,fi,w1 Try.prog _ rfl,ff rfl,trivial⟩
end
end Go.Proofs.Ytlonjogfeidgfaa.tr
namespace Go.Proofs.Ytlonjogfeidgfaa.tr
open Go Go.Ev
set_option maxRecDepth 100000
set_option linter.unusedVariables false
set_option linter.constructorNameAsVariable false
def TS.root(t:TS):TS×Int×Int:=if 64<=t.tks.length then (t,0,5) else (t.add none,((t.tks.length+1:Nat):Int),0)
theorem TOk.root{t:TS}{c:Nat}(ok:TOk c t):TOk (c+1) t.root.1:=by
 unfold TS.root
 split
 ·exact ok.mono (by omega)
 ·exact ok.add (inn:=none) (by omega) fun s e=>by cases e
section
variable {h:Hp} {ρ:Lay} {t:TS} {c r:Nat}
theorem root_run(a:TAt h ρ t)(ok:TOk c t)(hc:c<=100000)(hr:ρ .root=some r) :
  ∃ ρ' h',Run Try.prog 68 [ptr r] h (.tuple #[.int .i64 t.root.2.1,.int .i64 t.root.2.2]) h'/\TAt h' ρ' t.root.1/\Step ρ h ρ' h':=by
 have n64:=ok.n64
 have hd:=a.hdT hr (P:=Try.prog) (s:=.is h) rfl
 by_cases h64:64<=t.tks.length
 ·simp only[TS.root,h64,if_true]
  obtain⟨to,ht⟩:=a.sh.ts' (k:=0) (by omega)
  rw[ht] at hd
  exact⟨ρ,h,pvF 0 Try.func68 (r2p.ro_full r to t.tks.length 0 h h) ⟨hd,geT (by simp;omega),trivial⟩,a,Step.refl _ _⟩
 ·simp only[TS.root,h64,if_false]
  obtain⟨ρ',h',r1,r2,r3⟩:=add_run a ok hc (by omega) hr (inn:=none) fun s e=>by cases e
  refine⟨ρ',h',?_,r2,r3⟩
  cases ht:ρ .ts with
  | none =>
   have h0:=a.sh.ts ht
   rw[ht,h0] at hd
   exact pvF 0 Try.func68 (r2p.ro_okn r 0 0 _ h h') ⟨hd,geF (by omega),r1,trivial⟩
  | some to =>
   rw[ht] at hd
   exact pvF 0 Try.func68 (r2p.ro_oks r to t.tks.length _ h h') ⟨hd,geF (by simp;omega),r1,trivial⟩
end
def TS.roots(n:Nat):TS:=⟨List.replicate n (Tk0 none),[]⟩
theorem roots_succ(n:Nat):(TS.roots n).add none=TS.roots (n+1):=by
 simp only[TS.add,TS.newT,TS.roots,List.replicate_succ']
theorem roots_len(n:Nat):(TS.roots n).tks.length=n:=by simp[TS.roots]
theorem roots_ok(n:Nat)(hn:n<=64):TOk n (TS.roots n):=by
 have g:∀ (k:Nat) x,(TS.roots n).tks[k]?=some x->x=Tk0 none:=fun k x hx=>by
  exact List.eq_of_mem_replicate (List.mem_of_getElem? hx)
 refine⟨by rw[roots_len];exact hn,by simp[TS.roots],fun k x s hx e=>?_,fun k x s hx e=>?_,fun k x hx=>?_,fun k x hx=>?_,fun k x j hx e=>?_,fun k x hx=>?_,fun k x hx=>?_⟩
 ·rw[g k x hx] at e;cases e
 ·rw[g k x hx] at e;cases e
 ·rw[g k x hx];simp[Tk0]
 ·simp[TS.roots] at hx
 ·simp[TS.roots] at hx
 ·simp[TS.roots] at hx
 ·simp[TS.roots] at hx
theorem new_loop{b n:Nat}(hn:n<=64):∀ (j i:Nat) (E:Env) (g:Hp) (ρ:Lay),i+j=n->EnvLe [(14,.int .i64 (i:Int)),(13,.int .i64 (n:Int)),(4,ptr b)] E->TAt g ρ (TS.roots i)->ρ .root=some b ->
  ∃ E1 g' ρ',EnvLe [(4,ptr b)] E1/\LRun Try.prog 20 false (loopN Try.f43 0) E g (.exit 0) E1 g'/\TAt g' ρ' (TS.roots n)/\Step ρ g ρ' g':=by
 intro j
 induction j with
 | zero =>
  intro i E g ρ hi hE a hr
  have e:i=n:=by omega
  subst e
  obtain⟨E2,h1,h2⟩:=pvC 0 hE (r2p.nl_out b i i g) ⟨ltF (by omega),trivial⟩
  exact⟨E2,g,ρ,((EnvLe.nil _).add rfl).trans h1,.last h2 (by simp),a,Step.refl _ _⟩
 | succ j ih =>
  intro i E g ρ hi hE a hr
  obtain⟨ρ1,g1,r1,r2,r3⟩:=add_run a (roots_ok i (by omega)) (by omega) (by rw[roots_len];omega) hr (inn:=none) fun s e=>by cases e
  rw[roots_len] at r1
  rw[roots_succ] at r2
  obtain⟨E2,h1,h2⟩:=pvC 0 hE (r2p.nl_go b n i ((i+1:Nat):Int) ((i+1:Nat):Int) g g1) ⟨ltT (by omega),r1,addI rfl (by omega) (by omega),trivial⟩
  obtain⟨E3,g',ρ',q1,q2,q3,q4⟩:=ih (i+1) E2 g1 ρ1 (by omega) ((((EnvLe.nil _).add rfl).add rfl |>.add rfl).trans h1) r2 (r3.root.trans hr)
  exact⟨E3,g',ρ',q1,.step h2 q2,q3,r3.trans q4⟩
theorem new_low{n:Int}(h:Hp)(hn:n<1\/64<n):Run Try.prog 43 [.int .i64 n] h (.tuple #[.pointer none,.int .i64 2]) h:=by
 by_cases c1:n<1
 ·exact pvF 0 Try.func43 (r2p.nw_low 0 n h h) ⟨ltT c1,trivial⟩
 ·exact pvF 0 Try.func43 (r2p.nw_high 0 n h h) ⟨ltF (by omega),gtT (by omega),trivial⟩
structure Made(h h':Hp)(ρ:Lay)(b:Nat):Prop where
 keep:Keep (fun _=>False) h h'
 root:ρ .root=some b
 new:∀ q,fpT ρ q->h.length<=q
theorem new_run{n:Nat}(h:Hp)(h1:1<=n)(hn:n<=64):∃ b ρ' h',Run Try.prog 43 [.int .i64 (n:Int)] h (.tuple #[ptr b,.int .i64 0]) h'/\TAt h' ρ' (TS.roots n)/\Made h h' ρ' b:=by
 obtain⟨ρ,hρ⟩:∃ ρ:Lay,ρ=fun r=>if r=.root then some h.length else none:=⟨_,rfl⟩
 have e1:ρ .root=some h.length:=by rw[hρ];rfl
 have e2:∀ q,q≠.root->ρ q=none:=fun q hq=>by rw[hρ];simp[hq]
 have e3:∀ q i,ρ q=some i->q=.root/\i=h.length:=fun q i e=>by
  by_cases hq:q=.root
  ·rw[hq,e1] at e;cases e;exact⟨hq,rfl⟩
  ·rw[e2 q hq] at e;cases e
 have a:TAt (h++[.cells [.slice none 0 0,.slice none 0 0] true]) ρ (TS.roots 0):=by
  refine⟨⟨⟨_,e1⟩,fun k hk=>by simp[TS.roots] at hk,fun k hk=>by simp[TS.roots] at hk,fun _=>rfl,fun _=>rfl,fun k x hx=>by simp[TS.roots] at hx,fun k x hx=>by simp[TS.roots] at hx,fun k _=>⟨e2 _ (by simp),e2 _ (by simp)⟩,fun k _=>⟨e2 _ (by simp),e2 _ (by simp)⟩⟩,fun q q' i h1 h2=>by rw[(e3 q i h1).1,(e3 q' i h2).1],fun q i e=>⟨[],?_⟩⟩
  obtain⟨rfl,rfl⟩:=e3 q i e
  have:cont ρ (TS.roots 0) .root=[.slice none 0 0,.slice none 0 0]:=by
   simp only[cont,e2 .ts (by simp),e2 .ss (by simp)]
   rfl
  rw[this]
  exact gW _ _
 obtain⟨E1,g',ρ',q1,q2,q3,q4⟩:=new_loop hn (b:=h.length) n 0 [(14,.int .i64 0),(13,.int .i64 n),(4,ptr h.length)] _ ρ (by omega) (EnvLe.refl _) a e1
 refine⟨h.length,ρ',g',pvF 0 Try.func43 (r2p.nw_ok h.length n h g') ⟨ltF (by omega),gtF (by omega),rfl,a_loop (by kernel_rfl) ((((EnvLe.nil _).add rfl).add rfl).add rfl) q1 q2,trivial⟩,q3,⟨?_,q4.root.trans e1,fun q e=>?_⟩⟩
 ·refine (Keep.push _ h _).trans_new q4.keep fun q hq ⟨r,e⟩=>?_
  have:=(e3 r q e).2
  omega
 ·rcases q4.new q e with⟨r,e⟩ | e
  ·have:=(e3 r q e).2;omega
  ·simp at e;omega
end Go.Proofs.Ytlonjogfeidgfaa.tr
namespace Go.Proofs.Ytlonjogfeidgfaa.tr
open Go Go.Ev
set_option maxRecDepth 100000
set_option linter.unusedVariables false
set_option linter.constructorNameAsVariable false
def TS.openF(t:TS)(k:Nat)(su:Bool):TS:=(t.newS k su).upT k fun x=>{ x with opn:=x.opn++[some t.scs.length] }
def TS.open(t:TS)(n:Int)(su:Bool):TS×Int×Int:=match t.acts n with
 | (none,e)=>(t,0,e)
 | (some k,_)=>if 200<=t.scs.length then (t,0,5) else (t.openF k su,((t.scs.length+1:Nat):Int),0)
theorem TOk.open{t:TS}{c:Nat}{n:Int}{su:Bool}(ok:TOk c t):TOk (c+1) (t.open n su).1:=by
 unfold TS.open
 split
 ·exact ok.mono (by omega)
 ·rename_i k e hq
  split
  ·exact ok.mono (by omega)
  ·obtain⟨_,_,x,hx,_⟩:=acts_some hq
   refine TOk.upT ((ok.newS (by omega) (gT hx)).mono (by omega)) fun y hy=>?_
   have hy':t.tks[k]?=some y:=hy
   rw[hx] at hy';cases hy'
   refine⟨rfl,fun s hs=>?_,?_⟩
   ·rw[newS_len]
    rcases List.mem_append.1 hs with hs | hs
    ·have:=ok.opn k x s hx hs;omega
    ·simp at hs;omega
   ·have:=ok.len k x hx
    simp;omega
section
variable {h:Hp} {ρ:Lay} {t:TS} {c r:Nat}
theorem open_run(a:TAt h ρ t)(ok:TOk c t)(hc:c<=100000)(hr:ρ .root=some r)(n:Int)(su:Bool) :
  ∃ ρ' h',Run Try.prog 61 [ptr r,.int .i64 n,.bool su] h (.tuple #[.int .i64 (t.open n su).2.1,.int .i64 (t.open n su).2.2]) h'/\TAt h' ρ' (t.open n su).1/\Step ρ h ρ' h':=by
 have R:=acts_run a ok hr n
 rcases hq:t.acts n with⟨k | k,e⟩
 ·rw[hq] at R
  have e':t.open n su=(t,0,e):=by simp only[TS.open,hq]
  have e0:¬ e=0:=by have:=acts_none hq;omega
  rw[e']
  exact⟨ρ,h,pvF 0 Try.func61 (r2p.op_err r 0 0 0 0 0 0 0 0 0 0 n e 0 su [] [] [] [] [] [] h) ⟨R,neT e0,trivial⟩,a,Step.refl _ _⟩
 ·obtain⟨rfl,hn,x,hx,he,hl⟩:=acts_some hq
  have hk:=gT hx
  obtain⟨i,hi⟩:=a.sh.tk k hk
  rw[hq] at R
  simp only[tkP,hi,pvv] at R
  have hd:=a.hdS hr (P:=Try.prog) (s:=.is h) rfl
  have n200:=ok.n200
  have hlen:=ok.len k x hx
  by_cases h200:200<=t.scs.length
  ·have e':t.open n su=(t,0,5):=by simp only[TS.open,hq,h200,if_true]
   rw[e']
   obtain⟨so,hs⟩:=a.sh.ss' (k:=0) (by omega)
   rw[hs] at hd
   exact⟨ρ,h,pvF 0 Try.func61 (r2p.op_full r i so t.scs.length 0 0 0 0 0 0 0 n 0 0 su [] [] [] [] [] [] h) ⟨R,neF rfl,hd,geT (by simp;omega),trivial⟩,a,Step.refl _ _⟩
  ·have e':t.open n su=(t.openF k su,((t.scs.length+1:Nat):Int),0):=by simp only[TS.open,hq,h200,if_false]
   rw[e']
   obtain⟨ρ1,cr,p1,p2,p3,p4,p5⟩:=a.appSs ok hr hk hi su
   have ok1:=ok.newS (su:=su) (by omega) hk
   have hd':∀ o,(Asm.ld1 (.push (.is h) o) r 1 (slv (ρ .ss) t.scs.length)).holds Try.prog:=fun o=>by
    obtain⟨c,h1,h2⟩:=a.cells hr (d:=1) rfl
    exact aL (gP h1) h2
   have e5:(Asm.len (.is h) h.length).holds Try.prog:=rfl
   have e6:∀ o,(Asm.len (.push (.is h) o) (h.length+1)).holds Try.prog:=fun o=>pL _ _
   obtain⟨d,hd1⟩:=p2.exlen
   have hi1:ρ1 (.tk k)=some i:=by rw[p4 _ (by simp) (by simp)];exact hi
   have ho1:ρ1 (.op k)=ρ (.op k):=p4 _ (by simp) (by simp)
   have hx1:(t.newS k su).tks[k]?=some x:=hx
   obtain⟨ρ2,ct,q1,q2,q3,q4⟩:=p2.appOp ok1 hx1 hi1 (some t.scs.length) fun s e=>by cases e;rw[newS_len];omega
   rw[hd1] at q1
   have p5':ρ2 (.sc t.scs.length)=some h.length:=by rw[q4 _ (by simp)];exact p5
   have hin:inP ρ1 (some t.scs.length)=ptr h.length:=by simp only[inP,p5,pvv]
   have ff:=fun {s:SH} (hs:s.den=_)=>q2.ld1 (P:=Try.prog) (s:=s) hs p5' (d:=0) (v:=.int .i64 ((t.scs.length+1:Nat):Int)) (by rw[cSq (x:=Sc0 k su) (show ((t.newS k su).upT k _).scs[t.scs.length]?=_ from newS_new)];rfl)
   have fs:=fun {s:SH} (hs:s.den=_)=>p2.ld1 (P:=Try.prog) (s:=s) hs hi1 (d:=2) (v:=slv (ρ (.op _)) x.opn.length) (by rw[cT hx1,<- ho1];rfl)
   refine⟨ρ2,_,?_,q2,p3.trans q3⟩
   have go:∀ j,ρ (.op k)=some j->∃ junk,((gApp (h++[.cells (objS (ptr i) t.scs.length su) true]++[.cells [ptr h.length] true]) (ρ .ss) (cont ρ t .ss++[ptr h.length])).set r (.cells cr true))[j]?=some (.cells (x.opn.map (inP ρ1)++junk) true):=fun j e=>by
    obtain⟨junk,hj⟩:=p2.obj (.op k) j (by rw[ho1];exact e)
    rw[cont_op hx1] at hj
    exact⟨junk,hj⟩
   have gs:∀ j,ρ .ss=some j->∃ junk,h[j]?=some (.cells (cont ρ t .ss++junk) true):=fun j e=>a.obj _ _ e
   have ga:(Asm.arith .add .i64 (Int.ofNat t.scs.length) 1 ((t.scs.length+1:Nat):Int)).holds Try.prog:=addI (by simp) (by omega) (by omega)
   simp only[hin] at q1 ff fs ⊢
   rw[ho1] at q1 ff ⊢
   cases hss:ρ .ss with
   | none =>
    have hs0:=a.sh.ss hss
    have hm:t.scs.length=0:=by rw[hs0];rfl
    have hcs:cont ρ t .ss=[]:=by simp[cont,hs0]
    rw[hss,hm,hcs] at p1 hd1 q1 ff fs go
    rw[hss,hm] at hd hd'
    rw[hm,hcs]
    cases hoo:ρ (.op k) with
    | none =>
     have ho0:=a.sh.op k x hx hoo
     rw[hoo,ho0] at q1 ff fs
     rw[ho0]
     exact pvF 0 Try.func61 (r2p.op_nn r i 0 0 h.length (h.length+1) (h.length+2) 0 0 d (d+1) n 0 ((0+1:Nat):Int) su cr ct [] [] [ptr h.length] [ptr h.length] h) ⟨R,neF rfl,hd,geF (by omega),hd,addI rfl (by omega) (by omega),e5,hd' _,e6 _,
      a_appN (one_ptr _) (gV _ (pL _ _)) (by show (h++[_]++[_]).length=_;simp),p1 Try.prog _ rfl,fs rfl,hd1,a_appN (one_ptr _) (gV _ hd1) (by show (_++[_]).length=_;rw[pL];exact congrArg (·+1) hd1),q1 Try.prog _ rfl,ff rfl,trivial⟩
    | some oo =>
     obtain⟨junk,hj⟩:=go oo hoo
     rw[hoo] at q1 ff fs
     exact pvF 0 Try.func61 (r2p.op_ns r i 0 0 h.length (h.length+1) (h.length+2) oo x.opn.length d (d+1) n 0 ((0+1:Nat):Int) su cr ct [] (x.opn.map (inP ρ1)++[ptr h.length]) [ptr h.length] [ptr h.length] h) ⟨R,neF rfl,hd,geF (by omega),hd,addI rfl (by omega) (by omega),e5,hd' _,e6 _,
      a_appN (one_ptr _) (gV _ (pL _ _)) (by show (h++[_]++[_]).length=_;simp),p1 Try.prog _ rfl,fs rfl,hd1,a_appS (gP hj) (by simp) (one_ptr _) (gV _ hd1) (by omega) (by show (_++[_]).length=_;rw[pL];exact congrArg (·+1) hd1),q1 Try.prog _ rfl,ff rfl,trivial⟩
   | some so =>
    obtain⟨junk,hj⟩:=gs so hss
    rw[hss] at p1 hd1 q1 ff fs go hd hd'
    cases hoo:ρ (.op k) with
    | none =>
     have ho0:=a.sh.op k x hx hoo
     rw[hoo,ho0] at q1 ff fs
     rw[ho0]
     exact pvF 0 Try.func61 (r2p.op_sn r i so t.scs.length h.length (h.length+1) (h.length+2) 0 0 d (d+1) n 0 ((t.scs.length+1:Nat):Int) su cr ct (cont ρ t .ss++[ptr h.length]) [] [ptr h.length] [ptr h.length] h) ⟨R,neF rfl,hd,geF (by simp;omega),hd,ga,e5,hd' _,e6 _,
      a_appS (gP (gP hj)) (by simp[cont]) (one_ptr _) (gV _ (pL _ _)) (by omega) (by show (h++[_]++[_]).length=_;simp),p1 Try.prog _ rfl,fs rfl,hd1,a_appN (one_ptr _) (gV _ hd1) (by show (_++[_]).length=_;rw[pL];exact congrArg (·+1) hd1),q1 Try.prog _ rfl,ff rfl,trivial⟩
    | some oo =>
     obtain⟨junk2,hj2⟩:=go oo hoo
     rw[hoo] at q1 ff fs
     exact pvF 0 Try.func61 (r2p.op_ss r i so t.scs.length h.length (h.length+1) (h.length+2) oo x.opn.length d (d+1) n 0 ((t.scs.length+1:Nat):Int) su cr ct (cont ρ t .ss++[ptr h.length]) (x.opn.map (inP ρ1)++[ptr h.length]) [ptr h.length] [ptr h.length] h) ⟨R,neF rfl,hd,geF (by simp;omega),hd,ga,e5,hd' _,e6 _,
      a_appS (gP (gP hj)) (by simp[cont]) (one_ptr _) (gV _ (pL _ _)) (by omega) (by show (h++[_]++[_]).length=_;simp),p1 Try.prog _ rfl,fs rfl,hd1,a_appS (gP hj2) (by simp) (one_ptr _) (gV _ hd1) (by omega) (by show (_++[_]).length=_;rw[pL];exact congrArg (·+1) hd1),q1 Try.prog _ rfl,ff rfl,trivial⟩
def nones(l:List (Option Nat)):Nat:=l.countP (·==none)
theorem sl_loop{k oo r:Nat}{ol:Nat}(a:TAt h ρ t){kk:Nat}{x:Tk}(hx:t.tks[kk]?=some x)(ho:ρ (.op kk)=some oo)(hol:ol=x.opn.length)(hlen:ol<=1000000)(hin:∀ s,some s∈x.opn->s<t.scs.length) :
  ∀ (j i:Nat) (E:Env),i+j=ol->EnvLe [(24,.int .i64 (i:Int)),(23,.int .i64 (Int.ofNat ol)),(22,.slice (some ⟨oo,0,none⟩) ol 1),(7,.int .i64 (nones (x.opn.take i):Int)),(5,ptr k)] E ->
  ∃ E1,EnvLe [(7,.int .i64 (nones x.opn:Int)),(5,ptr k)] E1/\LRun Try.prog 44 false (loopN Try.f50 0) E h (.exit 0) E1 h:=by
 intro j
 induction j with
 | zero =>
  intro i E hi hE
  have e:i=ol:=by omega
  subst e
  rw[hol,List.take_length,<- hol] at hE
  obtain⟨E2,h1,h2⟩:=pvC 0 hE (r2p.sl_out k oo i 0 0 i 0 (nones x.opn) 0 h) ⟨ltF (by simp),trivial⟩
  exact⟨E2,(((EnvLe.nil _).add rfl).add rfl).trans h1,.last h2 (by simp)⟩
 | succ j ih =>
  intro i E hi hE
  have hlt:i<x.opn.length:=by omega
  obtain⟨v,hv⟩:∃ v,x.opn[i]?=some v:=⟨_,List.getElem?_eq_getElem hlt⟩
  have ht:x.opn.take (i+1)=x.opn.take i++[v]:=by rw[List.take_add_one,hv];rfl
  have hcn:nones (x.opn.take i)<=i:=by
   have:=List.countP_le_length (p:=(·==none)) (l:=x.opn.take i)
   have e:=List.length_take (i:=i) (l:=x.opn)
   unfold nones
   omega
  have g1:(Asm.cmp .lss (i:Int) (Int.ofNat ol) true).holds Try.prog:=ltT (by simp;omega)
  have g2:(Asm.off i 0 (i:Int) ol 1).holds Try.prog:=offI (q:=i) rfl (by omega) (by omega)
  have g3:(Asm.ld1 (.is h) oo i (inP ρ v)).holds Try.prog:=a.ld1 rfl ho (by rw[cont_op hx,List.getElem?_map,hv];rfl)
  have g4:(Asm.arith .add .i64 (i:Int) 1 ((i+1:Nat):Int)).holds Try.prog:=addI rfl (by omega) (by omega)
  cases v with
  | none =>
   have hn:nones (x.opn.take (i+1))=nones (x.opn.take i)+1:=by rw[ht];simp[nones]
   obtain⟨E2,h1,h2⟩:=pvC 0 hE (r2p.sl_nil k oo ol i 0 i ((i+1:Nat):Int) (nones (x.opn.take i)) ((nones (x.opn.take i)+1:Nat):Int) h) ⟨g1,g2,g3,addI rfl (by omega) (by omega),g4,trivial⟩
   obtain⟨E3,q1,q2⟩:=ih (i+1) E2 (by omega) (by
    rw[hn]
    exact (((((EnvLe.nil _).add rfl).add rfl).add rfl).add rfl |>.add rfl).trans h1)
   exact⟨E3,q1,.step h2 q2⟩
  | some s =>
   have hn:nones (x.opn.take (i+1))=nones (x.opn.take i):=by rw[ht];simp[nones]
   obtain⟨si,hsi⟩:=a.sh.sc s (hin s (List.mem_of_getElem? hv))
   simp only[inP,hsi,pvv] at g3
   obtain⟨E2,h1,h2⟩:=pvC 0 hE (r2p.sl_some k oo ol i si i ((i+1:Nat):Int) (nones (x.opn.take i)) 0 h) ⟨g1,g2,g3,g4,trivial⟩
   obtain⟨E3,q1,q2⟩:=ih (i+1) E2 (by omega) (by
    rw[hn]
    exact (((((EnvLe.nil _).add rfl).add rfl).add rfl).add rfl |>.add rfl).trans h1)
   exact⟨E3,q1,.step h2 q2⟩
end
def TS.shield(t:TS)(n:Int):TS×Int:=match t.acts n with
 | (none,e)=>(t,e)
 | (some k,_)=>match t.tks[k]? with
  | some x=>if 40<=nones x.opn then (t,5) else (t.upT k fun x=>{ x with opn:=x.opn++[none] },0)
  | none=>(t,6)
def TS.unveil(t:TS)(n:Int):TS×Int:=match t.acts n with
 | (none,e)=>(t,e)
 | (some k,_)=>match t.tks[k]? with
  | some x=>if x.opn.getLast?=some none then (t.upT k fun x=>{ x with opn:=x.opn.dropLast },0) else (t,22)
  | none=>(t,6)
theorem TOk.shield{t:TS}{c:Nat}{n:Int}(ok:TOk c t):TOk (c+1) (t.shield n).1:=by
 have m:=ok.mono (Nat.le_succ c)
 unfold TS.shield
 split
 ·exact m
 ·split
  ·rename_i x hx
   split
   ·exact m
   ·refine TOk.upT m fun y hy=>?_
    rw[hx] at hy;cases hy
    have:=ok.len _ x hx
    refine⟨rfl,fun s hs=>?_,by simp;omega⟩
    rcases List.mem_append.1 hs with hs | hs
    ·exact ok.opn _ x s hx hs
    ·simp at hs
  ·exact m
theorem TOk.unveil{t:TS}{c:Nat}{n:Int}(ok:TOk c t):TOk (c+1) (t.unveil n).1:=by
 have m:=ok.mono (Nat.le_succ c)
 unfold TS.unveil
 split
 ·exact m
 ·split
  ·rename_i x hx
   split
   ·refine TOk.upT m fun y hy=>?_
    rw[hx] at hy;cases hy
    have:=ok.len _ x hx
    exact⟨rfl,fun s hs=>ok.opn _ x s hx (List.dropLast_subset _ hs),by simp;omega⟩
   ·exact m
  ·exact m
section
variable {h:Hp} {ρ:Lay} {t:TS} {c r:Nat}
theorem shield_run(a:TAt h ρ t)(ok:TOk c t)(hc:c<=100000)(hr:ρ .root=some r)(n:Int) :
  ∃ ρ' h',Run Try.prog 50 [ptr r,.int .i64 n] h (.int .i64 (t.shield n).2) h'/\TAt h' ρ' (t.shield n).1/\Step ρ h ρ' h':=by
 have R:=acts_run a ok hr n
 rcases hq:t.acts n with⟨k | k,e⟩
 ·rw[hq] at R
  have e':t.shield n=(t,e):=by simp only[TS.shield,hq]
  have e0:¬ e=0:=by have:=acts_none hq;omega
  rw[e']
  exact⟨ρ,h,pvF 0 Try.func50 (r2p.sh_err r 0 0 0 0 0 n e 0 [] [] [] h h) ⟨R,neT e0,trivial⟩,a,Step.refl _ _⟩
 ·obtain⟨rfl,hn,x,hx,he,hl⟩:=acts_some hq
  obtain⟨i,hi⟩:=a.sh.tk k (gT hx)
  rw[hq] at R
  simp only[tkP,hi,pvv] at R
  have hlen:=ok.len k x hx
  have hd:(Asm.ld1 (.is h) i 2 (slv (ρ (.op k)) x.opn.length)).holds Try.prog:=a.ld1 rfl hi (by rw[cT hx];rfl)
  have hcn:nones x.opn<=x.opn.length:=List.countP_le_length
  obtain⟨ρ1,ct,p1,p2,p3,p4⟩:=a.appOp ok hx hi none fun s e=>by cases e
  cases ho:ρ (.op k) with
  | none =>
   have h0:=a.sh.op k x hx ho
   have e':t.shield n=(t.upT k fun x=>{ x with opn:=x.opn++[none] },0):=by
    simp only[TS.shield,hq,hx,h0];rfl
   rw[e']
   refine⟨ρ1,_,?_,p2,p3⟩
   rw[ho,h0] at p1 hd
   rw[ho,h0]
   exact pvF 0 Try.func50 (r2p.sh_okn r i 0 0 h.length (h.length+1) n 0 0 ct [] [.pointer none] h h) ⟨R,neF rfl,hd,ltF (by omega),geF (by omega),hd,rfl,a_appN rfl (gV _ rfl) (pL _ _),p1 Try.prog _ rfl,trivial⟩
  | some oo =>
   rw[ho] at hd
   obtain⟨E1,q1,q2⟩:=sl_loop (k:=i) (r:=r) a hx ho rfl (by omega) (fun s hs=>ok.opn k x s hx hs) x.opn.length 0 [(24,.int .i64 0),(23,.int .i64 (Int.ofNat x.opn.length)),(22,.slice (some ⟨oo,0,none⟩) x.opn.length 1),(7,.int .i64 0),(5,ptr i)] (by omega) (EnvLe.refl _)
   by_cases h40:40<=nones x.opn
   ·have e':t.shield n=(t,5):=by simp only[TS.shield,hq,hx,h40,if_true]
    rw[e']
    exact⟨ρ,h,pvF 0 Try.func50 (r2p.sh_full r i oo x.opn.length 0 0 n 0 (nones x.opn) [] [] [] h h) ⟨R,neF rfl,hd,a_loop (by kernel_rfl) (((((EnvLe.nil _).add rfl).add rfl).add rfl).add rfl |>.add rfl) q1 q2,geT (by omega),trivial⟩,a,Step.refl _ _⟩
   ·have e':t.shield n=(t.upT k fun x=>{ x with opn:=x.opn++[none] },0):=by simp only[TS.shield,hq,hx,h40,if_false]
    rw[e']
    refine⟨ρ1,_,?_,p2,p3⟩
    obtain⟨junk,hj⟩:=a.obj _ _ ho
    rw[cont_op hx] at hj
    rw[ho] at p1
    rw[ho]
    exact pvF 0 Try.func50 (r2p.sh_oks r i oo x.opn.length h.length (h.length+1) n 0 (nones x.opn) ct (x.opn.map (inP ρ)++[.pointer none]) [.pointer none] h h) ⟨R,neF rfl,hd,a_loop (by kernel_rfl) (((((EnvLe.nil _).add rfl).add rfl).add rfl).add rfl |>.add rfl) q1 q2,geF (by omega),hd,rfl,
     a_appS (gP hj) (by simp) rfl (gV _ rfl) (by omega) (pL _ _),p1 Try.prog _ rfl,trivial⟩
theorem stat24:(Asm.stat (drawN Try.f51 0)).holds Try.prog:=show statOk (drawN Try.f51 0)=true by kernel_rfl
theorem unveil_run(a:TAt h ρ t)(ok:TOk c t)(hc:c<=100000)(hr:ρ .root=some r)(n:Int) :
  ∃ ρ' h',Run Try.prog 51 [ptr r,.int .i64 n] h (.int .i64 (t.unveil n).2) h'/\TAt h' ρ' (t.unveil n).1/\Step ρ h ρ' h':=by
 have R:=acts_run a ok hr n
 rcases hq:t.acts n with⟨k | k,e⟩
 ·rw[hq] at R
  have e':t.unveil n=(t,e):=by simp only[TS.unveil,hq]
  have e0:¬ e=0:=by have:=acts_none hq;omega
  rw[e']
  exact⟨ρ,h,pvF 0 Try.func51 (r2p.un_err r 0 0 0 0 0 n e 0 [] h) ⟨R,neT e0,trivial⟩,a,Step.refl _ _⟩
 ·obtain⟨rfl,hn,x,hx,he,hl⟩:=acts_some hq
  obtain⟨i,hi⟩:=a.sh.tk k (gT hx)
  rw[hq] at R
  simp only[tkP,hi,pvv] at R
  have hlen:=ok.len k x hx
  have I:=inner_run a ok (by omega) hx hi
  cases hg:x.opn.getLast? with
  | none =>
   have e':t.unveil n=(t,22):=by simp[TS.unveil,hq,hx,hg]
   rw[hg] at I
   rw[e']
   exact⟨ρ,h,pvF 0 Try.func51 (r2p.un_none r i 0 0 0 0 n 0 0 [] h) ⟨R,neF rfl,I,trivial⟩,a,Step.refl _ _⟩
  | some v =>
   rw[hg] at I
   cases v with
   | some s =>
    have e':t.unveil n=(t,22):=by simp[TS.unveil,hq,hx,hg]
    obtain⟨si,hsi⟩:=a.sh.sc s (ok.opn k x s hx (List.mem_of_getLast? hg))
    simp only[innV,inP,hsi,pvv] at I
    rw[e']
    exact⟨ρ,h,pvF 0 Try.func51 (r2p.un_scope r i si 0 0 0 n 0 0 [] h) ⟨R,neF rfl,I,trivial⟩,a,Step.refl _ _⟩
   | none =>
    have e':t.unveil n=(t.upT k fun x=>{ x with opn:=x.opn.dropLast },0):=by simp[TS.unveil,hq,hx,hg]
    rw[e']
    have hd:(Asm.ld1 (.is h) i 2 (slv (ρ (.op k)) x.opn.length)).holds Try.prog:=a.ld1 rfl hi (by rw[cT hx];rfl)
    have hne:x.opn≠[]:=fun e=>by rw[e] at hg;cases hg
    have hl1:1<=x.opn.length:=by
     cases e:x.opn with
     | nil=>exact absurd e hne
     | cons y l=>simp
    obtain⟨oo,ho⟩:∃ oo,ρ (.op k)=some oo:=by
     cases e:ρ (.op k) with
     | none=>exact absurd (a.sh.op k x hx e) hne
     | some oo=>exact⟨oo,rfl⟩
    obtain⟨ct,w1,w2⟩:=a.wTk (d:=2) (l:=[.slice (some ⟨oo,0,none⟩) (x.opn.length-1) 1]) (fun x=>{ x with opn:=x.opn.dropLast }) hi hx rfl ⟨[x.opn.getLast hne],(List.dropLast_concat_getLast hne).symm⟩ (by simp) (by
     simp only[tkC,ho,slv,List.length_dropLast]
     rfl)
    rw[ho] at hd
    refine⟨ρ,_,?_,w2,Step.set hi _⟩
    exact pvF 0 Try.func51 (r2p.un_ok r i 0 oo x.opn.length (x.opn.length-1) n 0 0 ct h) ⟨R,neF rfl,I,stat24,hd,hd,subI (by simp<;>omega) (by simp<;>omega) (by simp<;>omega),a_cut (by omega),w1 Try.prog _ rfl,trivial⟩
end
end Go.Proofs.Ytlonjogfeidgfaa.tr
namespace Go.Proofs.Ytlonjogfeidgfaa.tr
open Go Go.Ev
set_option maxRecDepth 100000
set_option linter.unusedVariables false
def textB(s:ByteArray):Bool:=decide (s.size<=60)&&s.data.toList.all fun b=>decide (32<=b.toNat)&&decide (b.toNat<=126)
def TextRun:Prop:=∀ (g:Hp) (s:ByteArray),Run Try.prog 92 [.string s] g (.bool (textB s)) g
def faultB(fk:Int)(ft:ByteArray):Bool:=if fk=0\/fk=2 then ft.toList==(⟨#[]⟩:ByteArray).toList else if fk=1 then textB ft else false
theorem fault_run(hT:TextRun)(g:Hp)(fk:Int)(ft:ByteArray):Run Try.prog 85 [.agg #[.int .i64 fk,.string ft]] g (.bool (faultB fk ft)) (g++[.cells [.int .i64 fk,.string ft] true]):=by
 by_cases c0:fk=0
 ·have e:faultB fk ft=(ft.toList==(⟨#[]⟩:ByteArray).toList):=by simp[faultB,c0]
  rw[e]
  exact pvF 0 Try.func85 (r2p.fa_none g.length fk ft _ g) ⟨rfl,aL (gW g _) rfl,by simpa[Asm.holds,cmpB] using c0,aL (gW g _) rfl,.inl ⟨rfl,rfl⟩,trivial⟩
 ·by_cases c2:fk=2
  ·have e:faultB fk ft=(ft.toList==(⟨#[]⟩:ByteArray).toList):=by simp[faultB,c2]
   rw[e]
   exact pvF 0 Try.func85 (r2p.fa_cancel g.length fk ft _ g) ⟨rfl,aL (gW g _) rfl,by simpa[Asm.holds,cmpB] using c0,by simpa[Asm.holds,cmpB] using c2,aL (gW g _) rfl,.inl ⟨rfl,rfl⟩,trivial⟩
  ·by_cases c1:fk=1
   ·have e:faultB fk ft=textB ft:=by simp[faultB,c1]
    rw[e]
    exact pvF 0 Try.func85 (r2p.fa_throw g.length fk ft _ g _) ⟨rfl,aL (gW g _) rfl,by simpa[Asm.holds,cmpB] using c0,by simpa[Asm.holds,cmpB] using c2,by simpa[Asm.holds,cmpB] using c1,aL (gW g _) rfl,hT _ _,trivial⟩
   ·have e:faultB fk ft=false:=by simp[faultB,c0,c1,c2]
    rw[e]
    exact pvF 0 Try.func85 (r2p.fa_other g.length fk ft g) ⟨rfl,aL (gW g _) rfl,by simpa[Asm.holds,cmpB] using c0,by simpa[Asm.holds,cmpB] using c2,by simpa[Asm.holds,cmpB] using c1,trivial⟩
theorem byte_at{s:ByteArray}{k:Nat}(hk:k<s.size):s[k]?=some (s.data.toList[k]'(by simpa using hk)):=by
 rw[getElem?_pos s k hk];rfl
def okB(b:UInt8):Bool:=decide (32<=b.toNat)&&decide (b.toNat<=126)
theorem text_run:TextRun:=by
 intro g s
 by_cases hl:s.size<=60
 ·have f0:(Asm.cmp .gtr (Int.ofNat s.size) 60 false).holds Try.prog:=by simp[Asm.holds,cmpB];omega
  have hlen:s.data.toList.length=s.size:=Array.length_toList
  have body:∀ (k:Nat) (E:Env),k<s.size->EnvLe [(9,.int .i64 k),(8,.int .i64 (Int.ofNat s.size)),(0,.string s)] E->∀ b,s.data.toList[k]?=some b ->
    (okB b=true->∃ E1,EnvLe [(9,.int .i64 ((k+1:Nat):Int)),(8,.int .i64 (Int.ofNat s.size)),(0,.string s)] E1/\CRun Try.prog 23 false (loopN Try.f92 0) E g .normal E1 g) /\
    (okB b=false->∃ E1,EnvLe [(2,.bool false)] E1/\CRun Try.prog 23 false (loopN Try.f92 0) E g .ret E1 g):=by
   intro k E hk hE b hb
   have hat:s[k]?=some b:=by rw[byte_at hk,<- hb,List.getElem?_eq_getElem]
   have f1:(Asm.cmp .lss (k:Int) (Int.ofNat s.size) true).holds Try.prog:=by simp[Asm.holds,cmpB];omega
   have f2:(Asm.sidx s k b.toNat).holds Try.prog:=⟨by omega,b,by simpa using hat,rfl⟩
   refine⟨fun ho=>?_,fun ho=>?_⟩
   ·simp[okB] at ho
    obtain⟨E2,q1,q2⟩:=pvC 0 hE (r8p.tx_go s k (Int.ofNat s.size) g b.toNat ((k+1:Nat):Int)) ⟨f1,f2,by simp[Asm.holds,cmpB];omega,f2,by simp[Asm.holds,cmpB];omega,addI (by omega) (by omega) (by omega),trivial⟩
    exact⟨E2,.trans (.add (.add (.add (.nil _) rfl) rfl) rfl) q1,q2⟩
   ·by_cases h1:b.toNat<32
    ·obtain⟨E2,q1,q2⟩:=pvC 0 hE (r8p.tx_low s k (Int.ofNat s.size) g b.toNat) ⟨f1,f2,by simp[Asm.holds,cmpB];omega,trivial⟩
     exact⟨E2,.trans (.add (.nil _) rfl) q1,q2⟩
    ·have h2:126<b.toNat:=by simp[okB] at ho;omega
     obtain⟨E2,q1,q2⟩:=pvC 0 hE (r8p.tx_high s k (Int.ofNat s.size) g b.toNat) ⟨f1,f2,by simp[Asm.holds,cmpB];omega,f2,by simp[Asm.holds,cmpB];omega,trivial⟩
     exact⟨E2,.trans (.add (.nil _) rfl) q1,q2⟩
  have pl:plainC (loopN Try.f92 0)=true:=by kernel_rfl
  by_cases hall:s.data.toList.all okB=true
  ·have e:textB s=true:=by
    have:(s.data.toList.all fun b=>decide (32<=b.toNat)&&decide (b.toNat<=126))=true:=hall
    simp only[textB,this,decide_eq_true hl,Bool.and_self]
   rw[e]
   obtain⟨x',E1,h1,hl1,rfl,rfl⟩:=loop_inv (P:=Try.prog) (n:=23) (rd:=false) (b:=loopN Try.f92 0) (Q:=fun x' _ h1=>x'=.exit 0/\g=h1)
    (fun m E g'=>∃ k:Nat,k<=s.size/\m=s.size-k/\EnvLe [(9,.int .i64 k),(8,.int .i64 (Int.ofNat s.size)),(0,.string s)] E/\g=g')
    (fun m E g' ⟨k,k1,k2,k3,k4⟩=>by
     subst k4
     by_cases ek:k=s.size
     ·right
      obtain⟨E2,q1,q2⟩:=pvC 0 k3 (r8p.tx_end s k (Int.ofNat s.size) g) ⟨by simp[Asm.holds,cmpB];omega,trivial⟩
      exact⟨_,E2,_,by simp,q2,rfl,rfl⟩
     ·left
      obtain⟨b,hb⟩:∃ b,s.data.toList[k]?=some b:=⟨_,List.getElem?_eq_getElem (by omega)⟩
      obtain⟨E2,q1,q2⟩:=(body k E (by omega) k3 b hb).1 (List.all_eq_true.1 hall b (List.mem_of_getElem? hb))
      exact⟨s.size-(k+1),E2,_,by omega,q2,k+1,by omega,rfl,q1,rfl⟩)
    s.size [(9,.int .i64 ((0:Nat):Int)),(8,.int .i64 (Int.ofNat s.size)),(0,.string s)] g ⟨0,by omega,rfl,EnvLe.refl _,rfl⟩
   exact pvF 0 Try.func92 (r8p.tx_yes s g) ⟨f0,a_loop pl (.add (.add (.add (.nil _) rfl) rfl) rfl) (.nil _) hl1,trivial⟩
  ·have e:textB s=false:=by
    have:(s.data.toList.all fun b=>decide (32<=b.toNat)&&decide (b.toNat<=126))=false:=Bool.eq_false_iff.2 hall
    simp only[textB,this,Bool.and_false]
   rw[e]
   obtain⟨k0,hk0,hmin⟩:∃ k0,(∃ b,s.data.toList[k0]?=some b/\okB b=false)/\∀ m b,m<k0->s.data.toList[m]?=some b->okB b=true:=by
    have hlt:s.data.toList.findIdx (fun b=>!okB b)<s.data.toList.length:=by
     rw[List.findIdx_lt_length]
     obtain⟨b,hb,hn⟩:∃ b∈s.data.toList,okB b=false:=by
      obtain⟨b,hb,hn⟩:=List.all_eq_false.1 (Bool.eq_false_iff.2 hall)
      exact⟨b,hb,by simpa using hn⟩
     exact⟨b,hb,by simp[hn]⟩
    refine⟨s.data.toList.findIdx (fun b=>!okB b),⟨_,List.getElem?_eq_getElem hlt,?_⟩,fun m b hm hb=>?_⟩
    ·have:=List.findIdx_getElem (w:=hlt);simpa using this
    ·have h1:=List.not_of_lt_findIdx hm
     rw[List.getElem?_eq_getElem (by omega)] at hb
     simp only[Option.some.injEq] at hb
     rw[hb] at h1
     simpa using h1
   obtain⟨b0,hb0,hn0⟩:=hk0
   have hk0l:=gT hb0
   obtain⟨x',E1,h1,hl1,rfl,hE1,rfl⟩:=loop_inv (P:=Try.prog) (n:=23) (rd:=false) (b:=loopN Try.f92 0) (Q:=fun x' E1 h1=>x'=.ret/\EnvLe [(2,.bool false)] E1/\g=h1)
    (fun m E g'=>∃ k:Nat,k<=k0/\m=k0-k/\EnvLe [(9,.int .i64 k),(8,.int .i64 (Int.ofNat s.size)),(0,.string s)] E/\g=g')
    (fun m E g' ⟨k,k1,k2,k3,k4⟩=>by
     subst k4
     by_cases ek:k=k0
     ·right
      subst ek
      obtain⟨E2,q1,q2⟩:=(body k E (by omega) k3 b0 hb0).2 hn0
      exact⟨_,E2,_,by simp,q2,rfl,q1,rfl⟩
     ·left
      obtain⟨b,hb⟩:∃ b,s.data.toList[k]?=some b:=⟨_,List.getElem?_eq_getElem (by omega)⟩
      obtain⟨E2,q1,q2⟩:=(body k E (by omega) k3 b hb).1 (hmin k b (by omega) hb)
      exact⟨k0-(k+1),E2,_,by omega,q2,k+1,by omega,rfl,q1,rfl⟩)
    k0 [(9,.int .i64 ((0:Nat):Int)),(8,.int .i64 (Int.ofNat s.size)),(0,.string s)] g ⟨0,by omega,rfl,EnvLe.refl _,rfl⟩
   exact pvF 0 Try.func92 (r8p.tx_no s g) ⟨f0,a_loop pl (.add (.add (.add (.nil _) rfl) rfl) rfl) hE1 hl1,trivial⟩
 ·have e:textB s=false:=by simp[textB,hl]
  rw[e]
  exact pvF 0 Try.func92 (r8p.tx_long s g) ⟨by simp[Asm.holds,cmpB];omega,trivial⟩
end Go.Proofs.Ytlonjogfeidgfaa.tr
namespace Go.Proofs.Ytlonjogfeidgfaa.tr
open Go Go.Ev
set_option maxRecDepth 100000
set_option linter.unusedVariables false
set_option linter.constructorNameAsVariable false
theorem TAt.push{h:Hp}{ρ:Lay}{t:TS}(a:TAt h ρ t)(o:AObj):TAt (h++[o]) ρ t:=a.grow (Keep.push _ _ _)
theorem TAt.setN{h:Hp}{ρ:Lay}{t:TS}(a:TAt h ρ t){q:Nat}(n:¬ fpT ρ q)(o:AObj):TAt (h.set q o) ρ t:=a.keep (Keep.set (fp:=fun i=>i=q) rfl _) fun i e=>by rw[e];exact n
theorem TAt.out{h:Hp}{ρ:Lay}{t:TS}(a:TAt h ρ t){q:Nat}(n:h.length<=q):¬ fpT ρ q:=fun⟨r,e⟩=>by have:=a.lt e;omega
theorem Step.push(ρ:Lay)(h:Hp)(o:AObj):Step ρ h ρ (h++[o]):=Step.grow (Keep.push _ _ _)
theorem Step.pushset(ρ:Lay)(h:Hp)(o o':AObj):Step ρ h ρ ((h++[o]).set h.length o') :=
 ⟨(Keep.push _ h o).trans_new (Keep.set (fp:=fun i=>i=h.length) rfl _) fun q hq e=>by omega,fun _ e=>.inl e,rfl⟩
theorem Step.get{ρ ρ':Lay}{h h':Hp}(s:Step ρ h ρ' h'){q:Nat}{o:AObj}(hq:h[q]?=some o)(n:¬ fpT ρ q):h'[q]?=some o:=s.keep.2 q o hq n
theorem Step.out{ρ ρ':Lay}{h h':Hp}(s:Step ρ h ρ' h'){q:Nat}(hq:q<h.length)(n:¬ fpT ρ q):¬ fpT ρ' q:=fun e=>(s.new q e).elim n fun e=>by omega
theorem Step.len{ρ ρ':Lay}{h h':Hp}(s:Step ρ h ρ' h'):h.length<=h'.length:=s.keep.1
theorem a_againN{P:Program}{s:SH}{i n:Nat}{l:List Value}{t:TypeId}{rw:Bool}(ha:aggSize P t=some (some n))(h:s.den[i]?=some (.cells l rw))(hl:cut l 0 n=some l)(hr:veqR (.agg l.toArray)=true) :
  (Asm.again s t (.pointer (some ⟨i,0,none⟩)) (.agg l.toArray)).holds P :=
 ⟨by simp only[evLoad,cells_of h,ha,hl],veq_refl hr⟩
structure Ef where
 kind:Int
 n:Int
 m:Int
 fk:Int
 ft:ByteArray
def Ef.cells(e:Ef):List Value:=[.int .i64 e.kind,.int .i64 e.n,.int .i64 e.m,.int .i64 e.fk,.string e.ft]
def efC:List Ef->List Value
 | []=>[]
 | e::l=>e.cells++efC l
theorem efC_len:∀ l:List Ef,(efC l).length=l.length*5
 | []=>rfl
 | e::l=>by simp[efC,Ef.cells,efC_len l];omega
theorem efC_app:∀ l m:List Ef,efC (l++m)=efC l++efC m
 | [],_=>rfl
 | e::l,m=>by simp[efC,efC_app l m]
theorem efC_ones:∀ l:List Ef,(efC l).all Value.oneCell'=true
 | []=>rfl
 | e::l=>by simp only[efC,List.all_append,efC_ones l,Bool.and_true];rfl
def EfV(h:Hp)(lo:Nat)(ρ:Lay)(v:Value)(l:List Ef):Prop :=
 (l=[]/\v=.slice none 0 0)\/(l≠[]/\∃ o,v=.slice (some ⟨o,0,none⟩) l.length 5/\h[o]?=some (.cells (efC l) true)/\lo<=o/\¬ fpT ρ o)
def blameB(fk:Int)(x:Sc):Bool:=decide (fk=1)&&decide (x.fk=0)
def TS.blame(t:TS)(s:Nat)(fk:Int)(ft:ByteArray):TS×Bool:=match t.scs[s]? with
 | some x=>if blameB fk x then (t.upS s fun x=>{ x with fk:=fk,ft:=ft },true) else (t,false)
 | none=>(t,false)
theorem TOk.blame{t:TS}{c s:Nat}{fk:Int}{ft:ByteArray}(ok:TOk c t):TOk c (t.blame s fk ft).1:=by
 unfold TS.blame
 split
 ·split
  ·exact ok.upS fun x hx=>⟨rfl,fun j hj=>ok.mem s x j hx hj,ok.mlen s x hx,ok.live s x hx⟩
  ·exact ok
 ·exact ok
abbrev fltC(fk:Int)(ft:ByteArray):List Value:=[.int .i64 fk,.string ft]
section
variable {h:Hp} {ρ:Lay} {t:TS} {c r:Nat}
theorem blame_run(a:TAt h ρ t){s i:Nat}{x:Sc}(hx:t.scs[s]?=some x)(hi:ρ (.sc s)=some i)(fk:Int)(ft:ByteArray) :
  ∃ h',Run Try.prog 86 [ptr i,.agg #[.int .i64 fk,.string ft]] h (.bool (t.blame s fk ft).2) h'/\TAt h' ρ (t.blame s fk ft).1/\Step ρ h ρ h':=by
 have a1:=a.push (.cells (fltC fk ft) true)
 have s1:=Step.push ρ h (.cells (fltC fk ft) true)
 have L0:(Asm.ld1 (.push (.is h) (.cells (fltC fk ft) true)) h.length 0 (.int .i64 fk)).holds Try.prog:=aL (gW _ _) rfl
 by_cases c1:fk=1
 ·have L1:(Asm.ld1 (.push (.is h) (.cells (fltC fk ft) true)) i 6 (.int .i64 x.fk)).holds Try.prog:=a1.ld1 rfl hi (by rw[cSq hx];rfl)
  by_cases c2:x.fk=0
  ·have e:t.blame s fk ft=(t.upS s fun x=>{ x with fk:=fk,ft:=ft },true):=by simp[TS.blame,hx,blameB,c1,c2]
   rw[e]
   obtain⟨cs,w1,w2⟩:=a1.wSc (d:=6) (l:=fltC fk ft) (fun x=>{ x with fk:=fk,ft:=ft }) hi hx rfl rfl (by simp) rfl
   exact⟨_,pvF 0 Try.func86 (r2p.bl_ok i h.length fk x.fk ft cs h) ⟨rfl,L0,neF c1,L1,neF c2,aN (gW _ _) (by simp) rfl,w1 Try.prog _ rfl,trivial⟩,w2,s1.trans (Step.set hi _)⟩
  ·have e:t.blame s fk ft=(t,false):=by simp[TS.blame,hx,blameB,c1,c2]
   rw[e]
   exact⟨_,pvF 0 Try.func86 (r2p.bl_has i h.length fk x.fk ft [] h) ⟨rfl,L0,neF c1,L1,neT c2,trivial⟩,a1,s1⟩
 ·have e:t.blame s fk ft=(t,false):=by simp[TS.blame,hx,blameB,c1]
  rw[e]
  exact⟨_,pvF 0 Try.func86 (r2p.bl_kind i h.length fk 0 ft [] h) ⟨rfl,L0,neT c1,trivial⟩,a1,s1⟩
end
def finF(x:Tk)(y:Sc):Int×ByteArray:=if y.fk=0/\x.fk=2 then (x.fk,x.ft) else (y.fk,y.ft)
def TS.fin0(t:TS)(s k:Nat):TS:=(((t.upS s fun y=>{ y with ov:=true }).upT k fun x=>{ x with opn:=x.opn.dropLast }).upT k fun x=>{ x with lv:=false }).upT k fun x=>{ x with fk:=0,ft:=⟨#[]⟩ }
def finB(s:Nat)(x:Tk)(y:Sc):Bool:=x.lv&&decide (x.opn.getLast?=some (some s))&&decide (y.live<=0)
def TS.fin(t:TS)(s:Nat):TS×List Ef:=match t.scs[s]? with
 | none=>(t,[])
 | some y=>match t.tks[y.ow]? with
  | none=>(t,[])
  | some x=>if finB s x y then (t.fin0 s y.ow,[⟨3,((y.ow+1:Nat):Int),((s+1:Nat):Int),(finF x y).1,(finF x y).2⟩]) else (t,[])
theorem TOk.fin{t:TS}{c s:Nat}(ok:TOk c t):TOk c (t.fin s).1:=by
 unfold TS.fin
 split
 ·exact ok
 ·rename_i y hy
  split
  ·exact ok
  ·rename_i x hx
   split
   ·have g:∀ {t':TS} {f:Tk->Tk} (ok:TOk c t') (hf:∀ z,(f z).inn=z.inn/\(∀ s,some s∈(f z).opn->some s∈z.opn)/\(f z).opn.length<=z.opn.length),TOk c (t'.upT y.ow f):=fun ok' hf =>
     ok'.upT fun z hz=>⟨(hf z).1,fun s hs=>ok'.opn _ z s hz ((hf z).2.1 s hs),Nat.le_trans (hf z).2.2 (ok'.len _ z hz)⟩
    refine g (g (g ?_ fun z=>⟨rfl,fun s hs=>List.dropLast_subset _ hs,by simp⟩) fun z=>⟨rfl,fun _ h=>h,Nat.le_refl _⟩) fun z=>⟨rfl,fun _ h=>h,Nat.le_refl _⟩
    exact ok.upS fun z hz=>⟨rfl,fun j hj=>ok.mem s z j hz hj,ok.mlen s z hz,ok.live s z hz⟩
   ·exact ok
theorem stat53(k:Nat)(hk:k=0\/k=1):(Asm.stat (drawN Try.f87 k)).holds Try.prog:=by
 rcases hk with rfl | rfl
 ·exact show statOk (drawN Try.f87 0)=true by kernel_rfl
 ·exact show statOk (drawN Try.f87 1)=true by kernel_rfl
theorem und91:Try.prog.underlying 110=some (.pointer 114):=by kernel_rfl
theorem siz95:sizeO Try.prog 114=some 8:=by kernel_rfl
section
variable {h:Hp} {ρ:Lay} {t:TS} {c r:Nat}
theorem fin_run(a:TAt h ρ t)(ok:TOk c t)(hc:c<=1000000){s si:Nat}(hs:ρ (.sc s)=some si)(hsl:s<t.scs.length) :
  ∃ v h',Run Try.prog 87 [ptr si] h v h'/\TAt h' ρ (t.fin s).1/\Step ρ h ρ h'/\EfV h' h.length ρ v (t.fin s).2:=by
 obtain⟨y,hy⟩:∃ y,t.scs[s]?=some y:=⟨_,List.getElem?_eq_getElem hsl⟩
 have hk:=ok.ow s y hy
 obtain⟨x,hx⟩:∃ x,t.tks[y.ow]?=some x:=⟨_,List.getElem?_eq_getElem hk⟩
 obtain⟨i,hi⟩:=a.sh.tk _ hk
 have hlen:=ok.len _ x hx
 have I:=inner_run a ok hc hx hi
 have L1:(Asm.ld1 (.is h) si 1 (ptr i)).holds Try.prog:=a.ld1 rfl hs (by rw[cSq hy,scC,hi];rfl)
 have L3:(Asm.ld1 (.is h) i 3 (.bool x.lv)).holds Try.prog:=a.ld1 rfl hi (by rw[cT hx];rfl)
 have L5:(Asm.ld1 (.is h) si 5 (.int .i64 y.live)).holds Try.prog:=a.ld1 rfl hs (by rw[cSq hy];rfl)
 have no:finB s x y=false->t.fin s=(t,[]):=fun e=>by simp only[TS.fin,hy,hx,e,if_false,Bool.false_eq_true]
 have back:finB s x y=false->(∃ h',Run Try.prog 87 [ptr si] h (.slice none 0 0) h'/\h'=h)->∃ v h',Run Try.prog 87 [ptr si] h v h'/\TAt h' ρ (t.fin s).1/\Step ρ h ρ h'/\EfV h' h.length ρ v (t.fin s).2:=fun e ⟨h',q,q'⟩=>by
  subst q'
  rw[no e]
  exact⟨_,_,q,a,Step.refl _ _,.inl ⟨rfl,rfl⟩⟩
 cases hlv:x.lv with
 | false =>
  rw[hlv] at L3
  refine back (by simp[finB,hlv]) ⟨_,?_,rfl⟩
  cases hg:x.opn.getLast? with
  | none =>
   rw[hg] at I
   exact pvF 0 Try.func87 (r2p.fi_lv si 0 i 0 0 0 0 0 0 0 0 0 0 ⟨#[]⟩ ⟨#[]⟩ (.pointer none) false [] [] [] [] h) ⟨L1,I,L3,trivial⟩
  | some v =>
   rw[hg] at I
   exact pvF 0 Try.func87 (r2p.fi_lv si 0 i 0 0 0 0 0 0 0 0 0 0 ⟨#[]⟩ ⟨#[]⟩ (inP ρ v) true [] [] [] [] h) ⟨L1,I,L3,trivial⟩
 | true =>
  rw[hlv] at L3
  cases hg:x.opn.getLast? with
  | none =>
   rw[hg] at I
   refine back (by simp[finB,hg]) ⟨_,?_,rfl⟩
   exact pvF 0 Try.func87 (r2p.fi_no si 0 i 0 0 0 0 0 0 0 0 0 0 ⟨#[]⟩ ⟨#[]⟩ (.pointer none) false [] [] [] [] h) ⟨L1,I,L3,trivial⟩
  | some v =>
   rw[hg] at I
   cases v with
   | none =>
    refine back (by simp[finB,hg]) ⟨_,?_,rfl⟩
    exact pvF 0 Try.func87 (r2p.fi_shield si 0 i 0 0 0 0 0 0 0 0 0 0 ⟨#[]⟩ ⟨#[]⟩ (.pointer none) false [] [] [] [] h) ⟨L1,I,L3,trivial⟩
   | some s2 =>
    obtain⟨i2,hi2⟩:=a.sh.sc s2 (ok.opn _ x s2 hx (List.mem_of_getLast? hg))
    simp only[innV,inP,hi2,pvv] at I
    obtain⟨co1,ho1⟩:=a.own hs
    obtain⟨co2,ho2⟩:=a.own hi2
    by_cases c1:s2=s
    ·subst c1
     rw[hs] at hi2;cases hi2
     have pe:(Asm.peq (.is h) .neq 110 si 0 si 0 false).holds Try.prog:=⟨114,7,co1,co2,und91,siz95,ho1,ho2,.inr ⟨rfl,by simp⟩⟩
     by_cases c2:y.live<=0
     ·have e:t.fin s2=(t.fin0 s2 y.ow,[⟨3,((y.ow+1:Nat):Int),((s2+1:Nat):Int),(finF x y).1,(finF x y).2⟩]):=by
       simp only[TS.fin,hy,hx]
       rw[if_pos (by simp[finB,hlv,hg,c2])]
      rw[e]
      have hne:x.opn≠[]:=fun e=>by rw[e] at hg;cases hg
      have hl1:1<=x.opn.length:=by
       cases e:x.opn with
       | nil=>exact absurd e hne
       | cons y l=>simp
      obtain⟨oo,ho⟩:∃ oo,ρ (.op y.ow)=some oo:=by
       cases e:ρ (.op y.ow) with
       | none=>exact absurd (a.sh.op _ x hx e) hne
       | some oo=>exact⟨oo,rfl⟩
      obtain⟨b1,u1,u2⟩:=a.wSc (d:=3) (l:=[.bool true]) (fun y=>{ y with ov:=true }) hs hy rfl rfl (by simp) rfl
      have hx1:(t.upS s2 fun y=>{ y with ov:=true }).tks[y.ow]?=some x:=hx
      have Lo:(Asm.ld1 (.set (.is h) si (.cells b1 true)) i 2 (.slice (some ⟨oo,0,none⟩) x.opn.length 1)).holds Try.prog:=u2.ld1 rfl hi (by rw[cT hx1,tkC,ho];rfl)
      obtain⟨b2,v1,v2⟩:=u2.wTk (d:=2) (l:=[.slice (some ⟨oo,0,none⟩) (x.opn.length-1) 1]) (fun x=>{ x with opn:=x.opn.dropLast }) hi hx1 rfl ⟨[x.opn.getLast hne],(List.dropLast_concat_getLast hne).symm⟩ (by simp) (by
       simp only[tkC,ho,slv,List.length_dropLast]
       rfl)
      have hx2:=upT_at (f:=fun x=>{ x with opn:=x.opn.dropLast }) hx1
      obtain⟨b3,w1,w2⟩:=v2.wTk (d:=3) (l:=[.bool false]) (fun x=>{ x with lv:=false }) hi hx2 rfl ⟨[],by simp⟩ (by simp) rfl
      have hx3:=upT_at (f:=fun x=>{ x with lv:=false }) hx2
      have hy3:=upS_at (g:=fun y=>{ y with ov:=true }) hy
      have cs3:∀ tt:TS,tt.scs=(t.upS s2 fun y=>{ y with ov:=true }).scs->cont ρ tt (.sc s2)=scC ρ s2 { y with ov:=true }:=fun tt e=>cSq (by rw[e];exact hy3)
      obtain⟨g3,hg3⟩:∃ g3,g3=((h.set si (.cells b1 true)).set i (.cells b2 true)).set i (.cells b3 true):=⟨_,rfl⟩
      rw[<- hg3] at w2
      have S3:Step ρ h ρ g3:=by rw[hg3];exact ((Step.set hs _).trans (Step.set hi _)).trans (Step.set hi _)
      have La:(Asm.ldn (.set (.set (.set (.is h) si (.cells b1 true)) i (.cells b2 true)) i (.cells b3 true)) si 6 2 [.int .i64 y.fk,.string y.ft]).holds Try.prog:=w2.ldn (by rw[hg3];rfl) hs (by rw[cs3]<;>first | rfl | simp[scC]) (by rw[cs3]<;>rfl)
      have ln3:(Asm.len (.set (.set (.set (.is h) si (.cells b1 true)) i (.cells b2 true)) i (.cells b3 true)) g3.length).holds Try.prog:=by rw[hg3];rfl
      have gen:∀ (fk':Int) (ft':ByteArray) (g4:Hp),g4[g3.length]?=some (.cells (fltC fk' ft') true)->TAt g4 ρ ((((t.upS s2 fun y=>{ y with ov:=true }).upT y.ow fun x=>{ x with opn:=x.opn.dropLast }).upT y.ow fun x=>{ x with lv:=false }))->Step ρ h ρ g4 ->
        ∃ b4,(∀ (s:SH),s.den=g4->(Asm.st s i 5 [.int .i64 0,.string ⟨#[]⟩] b4).holds Try.prog)/\(∀ (s:SH),s.den=g4.set i (.cells b4 true)->(Asm.ld1 s i 0 (.int .i64 ((y.ow+1:Nat):Int))).holds Try.prog/\(Asm.ld1 s si 0 (.int .i64 ((s2+1:Nat):Int))).holds Try.prog /\
         (Asm.ldn s g3.length 0 2 (fltC fk' ft')).holds Try.prog)/\TAt ((g4.set i (.cells b4 true))++[.cells (Ef.cells ⟨3,((y.ow+1:Nat):Int),((s2+1:Nat):Int),fk',ft'⟩) true]) ρ (t.fin0 s2 y.ow) /\
         Step ρ h ρ ((g4.set i (.cells b4 true))++[.cells (Ef.cells ⟨3,((y.ow+1:Nat):Int),((s2+1:Nat):Int),fk',ft'⟩) true]) /\
         EfV ((g4.set i (.cells b4 true))++[.cells (Ef.cells ⟨3,((y.ow+1:Nat):Int),((s2+1:Nat):Int),fk',ft'⟩) true]) h.length ρ (.slice (some ⟨(g4.set i (.cells b4 true)).length,0,none⟩) 1 5) [⟨3,((y.ow+1:Nat):Int),((s2+1:Nat):Int),fk',ft'⟩]:=fun fk' ft' g4 f1 f2 f3=>by
       obtain⟨b4,z1,z2⟩:=f2.wTk (d:=5) (l:=[.int .i64 0,.string ⟨#[]⟩]) (fun x=>{ x with fk:=0,ft:=⟨#[]⟩ }) hi hx3 rfl ⟨[],by simp⟩ (by simp) rfl
       have hx4:=upT_at (f:=fun x=>{ x with fk:=0,ft:=⟨#[]⟩ }) hx3
       have S4:=f3.trans (Step.set hi (.cells b4 true))
       refine⟨b4,fun s e=>z1 _ s e,fun s e=>⟨z2.ld1 e hi (by rw[cT hx4];rfl),z2.ld1 e hs (by rw[cs3]<;>rfl),aN (rw:=true) (c:=fltC fk' ft') (by rw[e];exact gNq f1 fun e=>w2.out (Nat.le_refl _) ⟨_,by rw[<- e];exact hi⟩) (by simp) rfl⟩,z2.push _,S4.trans (Step.push _ _ _),.inr ⟨by simp,_,rfl,?_,S4.len,z2.out (Nat.le_refl _)⟩⟩
       have:=gW (g4.set i (.cells b4 true)) (.cells (Ef.cells ⟨3,((y.ow+1:Nat):Int),((s2+1:Nat):Int),fk',ft'⟩) true)
       rw[this]
       simp[efC]
      have A1:TAt ((g3++[AObj.cells [.int .i64 0,.string ⟨#[]⟩] true]).set g3.length (AObj.cells (fltC y.fk y.ft) true)) ρ _:=(w2.push _).setN (w2.out (Nat.le_refl _)) _
      have G1:((g3++[AObj.cells [.int .i64 0,.string ⟨#[]⟩] true]).set g3.length (AObj.cells (fltC y.fk y.ft) true))[g3.length]?=some (.cells (fltC y.fk y.ft) true):=gE (gW _ _)
      have stA:(Asm.st (.push (.set (.set (.set (.is h) si (.cells b1 true)) i (.cells b2 true)) i (.cells b3 true)) (.cells [.int .i64 0,.string ⟨#[]⟩] true)) g3.length 0 (fltC y.fk y.ft) (fltC y.fk y.ft)).holds Try.prog:=a_st (c:=[.int .i64 0,.string ⟨#[]⟩]) (by rw[hg3];exact gW _ _) (by simp) rfl
      have T1:Step ρ h ρ ((g3++[AObj.cells [.int .i64 0,.string ⟨#[]⟩] true]).set g3.length (AObj.cells (fltC y.fk y.ft) true)):=S3.trans (Step.pushset _ _ _ _)
      have ldF:∀ (s:SH),s.den=((g3++[AObj.cells [.int .i64 0,.string ⟨#[]⟩] true]).set g3.length (AObj.cells (fltC y.fk y.ft) true))->(Asm.ld1 s g3.length 0 (.int .i64 y.fk)).holds Try.prog:=fun s e=>aL (rw:=true) (c:=fltC y.fk y.ft) (by rw[e];exact G1) rfl
      have ldX:∀ (s:SH),s.den=((g3++[AObj.cells [.int .i64 0,.string ⟨#[]⟩] true]).set g3.length (AObj.cells (fltC y.fk y.ft) true))->(Asm.ld1 s i 5 (.int .i64 x.fk)).holds Try.prog/\(Asm.ldn s i 5 2 (fltC x.fk x.ft)).holds Try.prog:=fun s e=>⟨A1.ld1 e hi (by rw[cT hx3];rfl),A1.ldn e hi (by rw[cT hx3];simp[tkC]) (by rw[cT hx3];rfl)⟩
      have sb:(Asm.arith .sub .i64 (Int.ofNat x.opn.length) 1 (Int.ofNat (x.opn.length-1))).holds Try.prog:=subI (by simp<;>omega) (by simp<;>omega) (by simp<;>omega)
      by_cases d1:y.fk=0
      ·by_cases d2:x.fk=2
       ·have ef:finF x y=(x.fk,x.ft):=by simp[finF,d1,d2]
        rw[ef]
        have A2:=A1.setN (w2.out (Nat.le_refl _)) (.cells (fltC x.fk x.ft) true)
        have G2:=gE (x:=.cells (fltC x.fk x.ft) true) G1
        have T2:Step ρ h ρ (((g3++[AObj.cells [.int .i64 0,.string ⟨#[]⟩] true]).set g3.length (AObj.cells (fltC y.fk y.ft) true)).set g3.length (AObj.cells (fltC x.fk x.ft) true)):=by rw[List.set_set];exact S3.trans (Step.pushset _ _ _ _)
        obtain⟨b4,z1,z2,z3,z4,z5⟩:=gen x.fk x.ft _ G2 A2 T2
        have st2:∀ (s:SH),s.den=((g3++[AObj.cells [.int .i64 0,.string ⟨#[]⟩] true]).set g3.length (AObj.cells (fltC y.fk y.ft) true))->(Asm.st s g3.length 0 (fltC x.fk x.ft) (fltC x.fk x.ft)).holds Try.prog:=fun s e=>a_st (c:=fltC y.fk y.ft) (by rw[e];exact G1) (by simp) rfl
        refine⟨_,_,?_,z3,z4,z5⟩
        obtain⟨z6,z7,z8⟩:=z2 (.set (.set (.set (.push (.set (.set (.set (.is h) si (.cells b1 true)) i (.cells b2 true)) i (.cells b3 true)) (.cells [.int .i64 0,.string ⟨#[]⟩] true)) g3.length (.cells (fltC y.fk y.ft) true)) g3.length (.cells (fltC x.fk x.ft) true)) i (.cells b4 true)) (by rw[hg3];rfl)
        obtain⟨L7,L8⟩:=ldX (.set (.push (.set (.set (.set (.is h) si (.cells b1 true)) i (.cells b2 true)) i (.cells b3 true)) (.cells [.int .i64 0,.string ⟨#[]⟩] true)) g3.length (.cells (fltC y.fk y.ft) true)) (by rw[hg3];rfl)
        have FF:=pvF 0 Try.func87 (r2p.fi_go2 si s2 i oo x.opn.length (x.opn.length-1) g3.length _ ((y.ow+1:Nat):Int) ((s2+1:Nat):Int) y.fk x.fk y.live y.ft x.ft (.pointer none) true b1 b2 b3 b4 h)
         ⟨L1,I,L3,pe,L5,gtF c2,u1 Try.prog _ rfl,stat53 0 (.inl rfl),Lo,Lo,sb,a_cut (by omega),v1 Try.prog _ rfl,w1 Try.prog _ rfl,La,ln3,stA,ldF _ (by rw[hg3];rfl),eqT d1,L7,eqT d2,L8,st2 _ (by rw[hg3];rfl),z1 _ (by rw[hg3];rfl),stat53 1 (.inr rfl),z6,z7,z8,rfl,trivial⟩
        subst hg3
        exact FF
       ·have ef:finF x y=(y.fk,y.ft):=by simp[finF,d1,d2]
        rw[ef]
        obtain⟨b4,z1,z2,z3,z4,z5⟩:=gen y.fk y.ft _ G1 A1 T1
        refine⟨_,_,?_,z3,z4,z5⟩
        obtain⟨z6,z7,z8⟩:=z2 (.set (.set (.push (.set (.set (.set (.is h) si (.cells b1 true)) i (.cells b2 true)) i (.cells b3 true)) (.cells [.int .i64 0,.string ⟨#[]⟩] true)) g3.length (.cells (fltC y.fk y.ft) true)) i (.cells b4 true)) (by rw[hg3];rfl)
        obtain⟨L7,L8⟩:=ldX (.set (.push (.set (.set (.set (.is h) si (.cells b1 true)) i (.cells b2 true)) i (.cells b3 true)) (.cells [.int .i64 0,.string ⟨#[]⟩] true)) g3.length (.cells (fltC y.fk y.ft) true)) (by rw[hg3];rfl)
        have FF:=pvF 0 Try.func87 (r2p.fi_go1 si s2 i oo x.opn.length (x.opn.length-1) g3.length _ ((y.ow+1:Nat):Int) ((s2+1:Nat):Int) y.fk x.fk y.live y.ft x.ft (.pointer none) true b1 b2 b3 b4 h)
         ⟨L1,I,L3,pe,L5,gtF c2,u1 Try.prog _ rfl,stat53 0 (.inl rfl),Lo,Lo,sb,a_cut (by omega),v1 Try.prog _ rfl,w1 Try.prog _ rfl,La,ln3,stA,ldF _ (by rw[hg3];rfl),eqT d1,L7,eqF d2,z1 _ (by rw[hg3];rfl),stat53 1 (.inr rfl),z6,z7,z8,rfl,trivial⟩
        subst hg3
        exact FF
      ·have ef:finF x y=(y.fk,y.ft):=by simp[finF,d1]
       rw[ef]
       obtain⟨b4,z1,z2,z3,z4,z5⟩:=gen y.fk y.ft _ G1 A1 T1
       refine⟨_,_,?_,z3,z4,z5⟩
       obtain⟨z6,z7,z8⟩:=z2 (.set (.set (.push (.set (.set (.set (.is h) si (.cells b1 true)) i (.cells b2 true)) i (.cells b3 true)) (.cells [.int .i64 0,.string ⟨#[]⟩] true)) g3.length (.cells (fltC y.fk y.ft) true)) i (.cells b4 true)) (by rw[hg3];rfl)
       have FF:=pvF 0 Try.func87 (r2p.fi_go0 si s2 i oo x.opn.length (x.opn.length-1) g3.length _ ((y.ow+1:Nat):Int) ((s2+1:Nat):Int) y.fk x.fk y.live y.ft x.ft (.pointer none) true b1 b2 b3 b4 h)
        ⟨L1,I,L3,pe,L5,gtF c2,u1 Try.prog _ rfl,stat53 0 (.inl rfl),Lo,Lo,sb,a_cut (by omega),v1 Try.prog _ rfl,w1 Try.prog _ rfl,La,ln3,stA,ldF _ (by rw[hg3];rfl),eqF d1,z1 _ (by rw[hg3];rfl),stat53 1 (.inr rfl),z6,z7,z8,rfl,trivial⟩
       subst hg3
       exact FF
     ·refine back (by simp[finB,c2]) ⟨_,?_,rfl⟩
      exact pvF 0 Try.func87 (r2p.fi_live si 0 i 0 0 0 0 0 0 0 0 0 y.live ⟨#[]⟩ ⟨#[]⟩ (.pointer none) false [] [] [] [] h) ⟨L1,I,L3,pe,L5,gtT (by omega),trivial⟩
    ·have hne:i2≠si:=fun e=>c1 (by have:=a.inj _ _ _ hi2 (by rw[e];exact hs);cases this;rfl)
     have pe:(Asm.peq (.is h) .neq 110 i2 0 si 0 true).holds Try.prog:=⟨114,7,co2,co1,und91,siz95,ho2,ho1,.inr ⟨rfl,by simp[hne]⟩⟩
     refine back (by simp[finB,hg,c1]) ⟨_,?_,rfl⟩
     exact pvF 0 Try.func87 (r2p.fi_other si i2 i 0 0 0 0 0 0 0 0 0 0 ⟨#[]⟩ ⟨#[]⟩ (.pointer none) false [] [] [] [] h) ⟨L1,I,L3,pe,trivial⟩
end
end Go.Proofs.Ytlonjogfeidgfaa.tr
namespace Go.Proofs.Ytlonjogfeidgfaa.tr
open Go Go.Ev
set_option maxRecDepth 100000
set_option linter.unusedVariables false
set_option linter.constructorNameAsVariable false
theorem Step.setNew{ρ ρ':Lay}{h h':Hp}(S:Step ρ h ρ' h'){q:Nat}(hq:h.length<=q)(o:AObj):Step ρ h ρ' (h'.set q o) :=
 ⟨S.keep.trans_new (Keep.set (fp:=fun i=>i=q) rfl _) fun i hi e=>by omega,S.new,S.root⟩
theorem ef_appN{P:Program}{s:SH}{g:Hp}{w:Nat}{l:List Ef}{rw:Bool}(hs:s.den=g)(hw:g[w]?=some (.cells (efC l) rw))(hn:l≠[])(hb:l.length<=1000):(Asm.appNil s w 0 l.length (l.length-1) 5 48 (efC l) g.length).holds P:=by
 have:=efC_len l
 have:l.length≠0:=fun e=>hn (List.length_eq_zero_iff.1 e)
 rw[<- hs] at hw ⊢
 exact⟨by omega,⟨_,cells_of hw,by omega,by rw[List.drop_zero,List.take_of_length_le (by omega)]⟩,efC_ones l,by omega,by omega,rfl⟩
theorem ef_app{P:Program}{s:SH}{g:Hp}{y w:Nat}{l m:List Ef}{rw:Bool}(hs:s.den=g)(hy:g[y]?=some (.cells (efC l) true))(hw:g[w]?=some (.cells (efC m) rw))(hn:m≠[])(hb:m.length<=1000)(hl:l.length=1) :
  (Asm.app s y 0 1 w 0 m.length (m.length-1) 5 48 (efC (l++m)) (efC m) g.length).holds P:=by
 have:=efC_len m
 have:=efC_len l
 have:m.length≠0:=fun e=>hn (List.length_eq_zero_iff.1 e)
 rw[<- hs] at hw hy ⊢
 exact⟨by omega,⟨_,cells_of hw,by omega,by rw[List.drop_zero,List.take_of_length_le (by omega)]⟩,efC_ones m,by omega,by omega,⟨_,own_of hy,by omega,by rw[List.drop_zero,List.take_of_length_le (by omega),efC_app]⟩,rfl⟩
theorem fin_len(t:TS)(s:Nat):(t.fin s).2.length<=1:=by
 unfold TS.fin
 split
 ·simp
 ·split
  ·simp
  ·split<;>simp
theorem blame_tks{t:TS}{s:Nat}{fk:Int}{ft:ByteArray}:(t.blame s fk ft).1.tks=t.tks:=by
 unfold TS.blame
 split
 ·split<;>rfl
 ·rfl
theorem blame_get{t:TS}{s:Nat}{fk:Int}{ft:ByteArray}{y:Sc}(h:t.scs[s]?=some y):∃ y',(t.blame s fk ft).1.scs[s]?=some y'/\y'.live=y.live/\y'.ow=y.ow/\y'.su=y.su/\y'.ov=y.ov/\y'.tks=y.tks:=by
 unfold TS.blame
 rw[h]
 simp only
 split
 ·exact⟨_,upS_at h,rfl,rfl,rfl,rfl,rfl⟩
 ·exact⟨_,h,rfl,rfl,rfl,rfl,rfl⟩
theorem blame_len{t:TS}{s:Nat}{fk:Int}{ft:ByteArray}:(t.blame s fk ft).1.scs.length=t.scs.length:=by
 unfold TS.blame
 split
 ·split
  ·exact upS_len
  ·rfl
 ·rfl
def TS.fail(t:TS)(n:Int)(fk:Int)(ft:ByteArray):TS×List Ef×Int:=match t.scope n with
 | (none,e)=>(t,[],e)
 | (some s,_)=>match t.scs[s]? with
  | none=>(t,[],6)
  | some y=>if y.ov then (t,[],6) else if fk=1/\faultB fk ft=true then ((t.blame s fk ft).1,if (t.blame s fk ft).2 then [⟨1,n,0,0,⟨#[]⟩⟩] else [],0) else (t,[],2)
theorem TOk.fail{t:TS}{c:Nat}{n fk:Int}{ft:ByteArray}(ok:TOk c t):TOk (c+1) (t.fail n fk ft).1:=by
 have m:=ok.mono (Nat.le_succ c)
 unfold TS.fail
 split
 ·exact m
 ·split
  ·exact m
  ·split
   ·exact m
   ·split
    ·exact m.blame
    ·exact m
section
variable {h:Hp} {ρ:Lay} {t:TS} {c r:Nat}
theorem fail_run(a:TAt h ρ t)(ok:TOk c t)(hc:c<=100000)(hr:ρ .root=some r)(n fk:Int)(ft:ByteArray) :
  ∃ v h',Run Try.prog 67 [ptr r,.int .i64 n,.agg #[.int .i64 fk,.string ft]] h (.tuple #[v,.int .i64 (t.fail n fk ft).2.2]) h'/\TAt h' ρ (t.fail n fk ft).1/\Step ρ h ρ h'/\EfV h' h.length ρ v (t.fail n fk ft).2.1:=by
 have a1:=a.push (.cells (fltC fk ft) true)
 have s1:=Step.push ρ h (.cells (fltC fk ft) true)
 have R:=scope_run a1 ok hr n
 have nb:¬ fpT ρ h.length:=a.out (Nat.le_refl _)
 have gb:(h++[AObj.cells (fltC fk ft) true])[h.length]?=some (.cells (fltC fk ft) true):=gW _ _
 rcases hq:t.scope n with⟨k | k,e⟩
 ·have e6:=scope_none hq
  subst e6
  rw[hq] at R
  have e':t.fail n fk ft=(t,[],6):=by simp only[TS.fail,hq]
  rw[e']
  exact⟨_,_,pvF 0 Try.func67 (r2p.fl_err r 0 h.length 0 n 6 fk ft h (h++[AObj.cells (fltC fk ft) true]) h) ⟨rfl,R,neT (by omega),trivial⟩,a1,s1,.inl ⟨rfl,rfl⟩⟩
 ·obtain⟨rfl,hn,hk⟩:=scope_some hq
  obtain⟨y,hy⟩:∃ y,t.scs[k]?=some y:=⟨_,List.getElem?_eq_getElem hk⟩
  obtain⟨si,hs⟩:=a.sh.sc k hk
  rw[hq] at R
  simp only[inP,hs,pvv] at R
  have L3:(Asm.ld1 (.is (h++[AObj.cells (fltC fk ft) true])) si 3 (.bool y.ov)).holds Try.prog:=a1.ld1 rfl hs (by rw[cSq hy];rfl)
  have Lb:(Asm.ld1 (.is (h++[AObj.cells (fltC fk ft) true])) h.length 0 (.int .i64 fk)).holds Try.prog:=aL gb rfl
  cases ho:y.ov with
  | true =>
   rw[ho] at L3
   have e':t.fail n fk ft=(t,[],6):=by simp only[TS.fail,hq,hy,ho,if_true]
   rw[e']
   exact⟨_,_,pvF 0 Try.func67 (r2p.fl_over r si h.length 0 n 0 fk ft h (h++[AObj.cells (fltC fk ft) true]) h) ⟨rfl,R,neF rfl,L3,trivial⟩,a1,s1,.inl ⟨rfl,rfl⟩⟩
  | false =>
   rw[ho] at L3
   by_cases c1:fk=1
   ·have F:=fault_run text_run (h++[AObj.cells (fltC fk ft) true]) fk ft
    have a2:=a1.push (.cells (fltC fk ft) true)
    have s2:=s1.trans (Step.push ρ _ (.cells (fltC fk ft) true))
    have gb2:(h++[AObj.cells (fltC fk ft) true]++[AObj.cells (fltC fk ft) true])[h.length]?=some (.cells (fltC fk ft) true):=gP gb
    have Ln:∀ g,g[h.length]?=some (AObj.cells (fltC fk ft) true)->(Asm.ldn (.is g) h.length 0 2 (fltC fk ft)).holds Try.prog:=fun g e=>aN e (by simp) rfl
    cases hf:faultB fk ft with
    | false =>
     rw[hf] at F
     have e':t.fail n fk ft=(t,[],2):=by
      simp only[TS.fail,hq,hy,ho,hf,Bool.false_eq_true,if_false,and_false]
     rw[e']
     exact⟨_,_,pvF 0 Try.func67 (r2p.fl_bad r si h.length 0 n 0 fk ft h (h++[AObj.cells (fltC fk ft) true]) (h++[AObj.cells (fltC fk ft) true]++[AObj.cells (fltC fk ft) true])) ⟨rfl,R,neF rfl,L3,Lb,neF c1,Ln _ gb,F,trivial⟩,a2,s2,.inl ⟨rfl,rfl⟩⟩
    | true =>
     rw[hf] at F
     have e':t.fail n fk ft=((t.blame k fk ft).1,if (t.blame k fk ft).2 then [⟨1,n,0,0,⟨#[]⟩⟩] else [],0):=by
      simp only[TS.fail,hq,hy,ho,hf,Bool.false_eq_true,if_false]
      rw[if_pos ⟨c1,trivial⟩]
     rw[e']
     obtain⟨g4,b1,b2,b3⟩:=blame_run a2 hy hs fk ft
     cases hb:(t.blame k fk ft).2 with
     | false =>
      rw[hb] at b1
      exact⟨_,_,pvF 0 Try.func67 (r2p.fl_no r si h.length 0 n 0 fk ft h (h++[AObj.cells (fltC fk ft) true]) (h++[AObj.cells (fltC fk ft) true]++[AObj.cells (fltC fk ft) true]) g4) ⟨rfl,R,neF rfl,L3,Lb,neF c1,Ln _ gb,F,Ln _ gb2,b1,trivial⟩,b2,s2.trans b3,.inl ⟨rfl,rfl⟩⟩
     | true =>
      rw[hb] at b1
      refine⟨_,_,pvF 0 Try.func67 (r2p.fl_yes r si h.length g4.length n 0 fk ft h (h++[AObj.cells (fltC fk ft) true]) (h++[AObj.cells (fltC fk ft) true]++[AObj.cells (fltC fk ft) true]) g4) ⟨rfl,R,neF rfl,L3,Lb,neF c1,Ln _ gb,F,Ln _ gb2,b1,rfl,trivial⟩,b2.push _,(s2.trans b3).trans (Step.push _ _ _),.inr ⟨by simp,_,rfl,?_,(s2.trans b3).len,b2.out (Nat.le_refl _)⟩⟩
      exact gW _ _
   ·have e':t.fail n fk ft=(t,[],2):=by
     simp only[TS.fail,hq,hy,ho,c1,Bool.false_eq_true,if_false,false_and]
    rw[e']
    exact⟨_,_,pvF 0 Try.func67 (r2p.fl_kind r si h.length 0 n 0 fk ft h (h++[AObj.cells (fltC fk ft) true]) h) ⟨rfl,R,neF rfl,L3,Lb,neT c1,trivial⟩,a1,s1,.inl ⟨rfl,rfl⟩⟩
end
def TS.leave1(t:TS)(k s:Nat)(fk:Int)(ft:ByteArray):TS:=((t.blame s fk ft).1.upT k fun x=>{ x with lv:=true }).upT k fun x=>{ x with fk:=fk,ft:=ft }
def liveE(s:Nat)(fk:Int)(y:Sc):List Ef:=if fk≠0/\0<y.live then [⟨1,((s+1:Nat):Int),0,0,⟨#[]⟩⟩] else []
def TS.leave(t:TS)(n:Int)(fk:Int)(ft:ByteArray):TS×List Ef×Int:=match t.runs n with
 | (none,e)=>(t,[],e)
 | (some k,_)=>if faultB fk ft=false then (t,[],2) else match t.tks[k]? with
  | none=>(t,[],6)
  | some x=>match x.lv,x.opn.getLast? with
   | false,some (some s)=>match t.scs[s]? with
    | some y=>(((t.leave1 k s fk ft).fin s).1,liveE s fk y++((t.leave1 k s fk ft).fin s).2,0)
    | none=>(t,[],6)
   | _,_=>(t,[],22)
theorem TOk.setT{t:TS}{c k:Nat}{f:Tk->Tk}(ok:TOk c t)(h:∀ x,(f x).inn=x.inn)(h2:∀ x,(f x).opn=x.opn):TOk c (t.upT k f) :=
 ok.upT fun x hx=>⟨h x,fun s hs=>ok.opn k x s hx (by rw[<- h2 x];exact hs),by rw[h2 x];exact ok.len k x hx⟩
theorem TOk.leave1{t:TS}{c k s:Nat}{fk:Int}{ft:ByteArray}(ok:TOk c t):TOk c (t.leave1 k s fk ft) :=
 TOk.setT (f:=fun x=>{ x with fk:=fk,ft:=ft }) (TOk.setT (f:=fun x=>{ x with lv:=true }) ok.blame (fun _=>rfl) fun _=>rfl) (fun _=>rfl) fun _=>rfl
theorem TOk.leave{t:TS}{c:Nat}{n fk:Int}{ft:ByteArray}(ok:TOk c t):TOk (c+1) (t.leave n fk ft).1:=by
 have m:=ok.mono (Nat.le_succ c)
 unfold TS.leave
 split
 ·exact m
 ·split
  ·exact m
  ·split
   ·exact m
   ·split
    ·split
     ·exact m.leave1.fin
     ·exact m
    ·exact m
theorem agg30:aggSize Try.prog 29=some (some 2):=by kernel_rfl
theorem stat31:(Asm.stat (drawN Try.f66 0)).holds Try.prog:=show statOk (drawN Try.f66 0)=true by kernel_rfl
theorem stat30:(Asm.stat (drawN Try.f65 0)).holds Try.prog:=show statOk (drawN Try.f65 0)=true by kernel_rfl
section
variable {h:Hp} {ρ:Lay} {t:TS} {c r:Nat}
theorem tail0{g5 g:Hp}{v5:Value}{l5:List Ef}(a:TAt g5 ρ t)(S:Step ρ h ρ g5){lo:Nat}(hlo:h.length<=lo)(E:EfV g5 lo ρ v5 l5)(hb:l5.length<=1000) :
  (v5=.slice none 0 0/\EfV g5 h.length ρ (.slice none 0 0) l5) \/
  (∃ w,v5=.slice (some ⟨w,0,none⟩) l5.length 5/\(Asm.appNil (.is g5) w 0 l5.length (l5.length-1) 5 48 (efC l5) g5.length).holds Try.prog/\TAt (g5++[.cells (efC l5) true]) ρ t/\Step ρ h ρ (g5++[.cells (efC l5) true])/\EfV (g5++[.cells (efC l5) true]) h.length ρ (.slice (some ⟨g5.length,0,none⟩) l5.length 5) l5):=by
 rcases E with⟨rfl,rfl⟩ | ⟨hn,w,rfl,hw,h1,h2⟩
 ·exact .inl ⟨rfl,.inl ⟨rfl,rfl⟩⟩
 ·exact .inr ⟨w,rfl,ef_appN rfl hw hn hb,a.push _,S.trans (Step.push _ _ _),.inr ⟨hn,_,rfl,gW _ _,S.len,a.out (Nat.le_refl _)⟩⟩
theorem tail1{g5:Hp}{v5:Value}{l5:List Ef}{y lo:Nat}{e1:Ef}(a:TAt g5 ρ t)(S:Step ρ h ρ g5)(hy:g5[y]?=some (.cells (efC [e1]) true))(hyl:h.length<=y)(ny:¬ fpT ρ y)(E:EfV g5 lo ρ v5 l5)(hb:l5.length<=1000) :
  (v5=.slice none 0 0/\EfV g5 h.length ρ (.slice (some ⟨y,0,none⟩) 1 5) ([e1]++l5)) \/
  (∃ w,v5=.slice (some ⟨w,0,none⟩) l5.length 5/\(Asm.app (.is g5) y 0 1 w 0 l5.length (l5.length-1) 5 48 (efC ([e1]++l5)) (efC l5) g5.length).holds Try.prog/\TAt (g5.set y .dead++[.cells (efC ([e1]++l5)) true]) ρ t /\
   Step ρ h ρ (g5.set y .dead++[.cells (efC ([e1]++l5)) true])/\EfV (g5.set y .dead++[.cells (efC ([e1]++l5)) true]) h.length ρ (.slice (some ⟨g5.length,0,none⟩) (1+l5.length) 5) ([e1]++l5)):=by
 rcases E with⟨rfl,rfl⟩ | ⟨hn,w,rfl,hw,h1,h2⟩
 ·exact .inl ⟨rfl,.inr ⟨by simp,y,rfl,hy,hyl,ny⟩⟩
 ·refine .inr ⟨w,rfl,ef_app rfl hy hw hn hb rfl,(a.setN ny _).push _,(S.setNew hyl _).trans (Step.push _ _ _),.inr ⟨by simp,_,?_,gV _ (by simp),S.len,a.out (Nat.le_refl _)⟩⟩
  simp;omega
theorem leave_run(a:TAt h ρ t)(ok:TOk c t)(hc:c<=100000)(hr:ρ .root=some r)(n fk:Int)(ft:ByteArray) :
  ∃ v h',Run Try.prog 66 [ptr r,.int .i64 n,.agg #[.int .i64 fk,.string ft]] h (.tuple #[v,.int .i64 (t.leave n fk ft).2.2]) h'/\TAt h' ρ (t.leave n fk ft).1/\Step ρ h ρ h'/\EfV h' h.length ρ v (t.leave n fk ft).2.1:=by
 have a1:=a.push (.cells (fltC fk ft) true)
 have s1:=Step.push ρ h (.cells (fltC fk ft) true)
 have R:=runs_run a1 ok hr n
 have nb:¬ fpT ρ h.length:=a.out (Nat.le_refl _)
 have gb:(h++[AObj.cells (fltC fk ft) true])[h.length]?=some (.cells (fltC fk ft) true):=gW _ _
 have Ln:∀ (s:SH),s.den[h.length]?=some (AObj.cells (fltC fk ft) true)->(Asm.ldn s h.length 0 2 (fltC fk ft)).holds Try.prog:=fun g e=>aN e (by simp) rfl
 rcases hq:t.runs n with⟨k | k,e⟩
 ·have e6:=runs_none hq
  subst e6
  rw[hq] at R
  have e':t.leave n fk ft=(t,[],6):=by simp only[TS.leave,hq]
  rw[e']
  exact⟨_,_,pvF 0 Try.func66 (r2p.le_err r 0 0 h.length 0 0 n 6 fk 0 0 ft false (.bool true) [] [] [] 0 0 h (h++[AObj.cells (fltC fk ft) true]) h h h) ⟨rfl,R,neT (by omega),trivial⟩,a1,s1,.inl ⟨rfl,rfl⟩⟩
 ·obtain⟨rfl,hn,x,hx,he⟩:=runs_some hq
  obtain⟨i,hi⟩:=a.sh.tk k (gT hx)
  rw[hq] at R
  simp only[tkP,hi,pvv] at R
  have F:=fault_run text_run (h++[AObj.cells (fltC fk ft) true]) fk ft
  have a2:=a1.push (.cells (fltC fk ft) true)
  have s2:=s1.trans (Step.push ρ _ (.cells (fltC fk ft) true))
  have gb2:(h++[AObj.cells (fltC fk ft) true]++[AObj.cells (fltC fk ft) true])[h.length]?=some (.cells (fltC fk ft) true):=gP gb
  obtain⟨g3,hg3⟩:∃ g3,g3=h++[AObj.cells (fltC fk ft) true]++[AObj.cells (fltC fk ft) true]:=⟨_,rfl⟩
  rw[<- hg3] at F a2 s2 gb2
  cases hf:faultB fk ft with
  | false =>
   rw[hf] at F
   have e':t.leave n fk ft=(t,[],2):=by simp only[TS.leave,hq,hf,if_true]
   rw[e']
   exact⟨_,_,pvF 0 Try.func66 (r2p.le_bad r i 0 h.length 0 0 n 0 fk 0 0 ft false (.bool true) [] [] [] 0 0 h (h++[AObj.cells (fltC fk ft) true]) g3 h h) ⟨rfl,R,neF rfl,Ln _ gb,F,trivial⟩,a2,s2,.inl ⟨rfl,rfl⟩⟩
  | true =>
   rw[hf] at F
   have I:=inner_run a2 ok (by omega) hx hi
   have L3:(Asm.ld1 (.is g3) i 3 (.bool x.lv)).holds Try.prog:=a2.ld1 rfl hi (by rw[cT hx];rfl)
   cases hlv:x.lv with
   | true =>
    have e':t.leave n fk ft=(t,[],22):=by simp only[TS.leave,hq,hf,hx,hlv,Bool.true_eq_false,if_false]
    rw[e']
    rw[hlv] at L3
    refine⟨_,_,?_,a2,s2,.inl ⟨rfl,rfl⟩⟩
    cases hg:x.opn.getLast? with
    | none =>
     rw[hg] at I
     exact pvF 0 Try.func66 (r2p.le_lv r i 0 h.length 0 0 n 0 fk 0 0 ft false (.bool true) [] [] [] 0 0 h (h++[AObj.cells (fltC fk ft) true]) g3 h h (.pointer none) false) ⟨rfl,R,neF rfl,Ln _ gb,F,I,L3,trivial⟩
    | some v =>
     rw[hg] at I
     exact pvF 0 Try.func66 (r2p.le_lv r i 0 h.length 0 0 n 0 fk 0 0 ft false (.bool true) [] [] [] 0 0 h (h++[AObj.cells (fltC fk ft) true]) g3 h h (inP ρ v) true) ⟨rfl,R,neF rfl,Ln _ gb,F,I,L3,trivial⟩
   | false =>
    rw[hlv] at L3
    cases hg:x.opn.getLast? with
    | none =>
     rw[hg] at I
     have e':t.leave n fk ft=(t,[],22):=by simp only[TS.leave,hq,hf,hx,hlv,hg,Bool.true_eq_false,if_false]
     rw[e']
     exact⟨_,_,pvF 0 Try.func66 (r2p.le_none r i 0 h.length 0 0 n 0 fk 0 0 ft false (.bool true) [] [] [] 0 0 h (h++[AObj.cells (fltC fk ft) true]) g3 h h (.pointer none)) ⟨rfl,R,neF rfl,Ln _ gb,F,I,L3,trivial⟩,a2,s2,.inl ⟨rfl,rfl⟩⟩
    | some v =>
     rw[hg] at I
     cases v with
     | none =>
      have e':t.leave n fk ft=(t,[],22):=by simp only[TS.leave,hq,hf,hx,hlv,hg,Bool.true_eq_false,if_false]
      rw[e']
      exact⟨_,_,pvF 0 Try.func66 (r2p.le_shield r i 0 h.length 0 0 n 0 fk 0 0 ft false (.bool true) [] [] [] 0 0 h (h++[AObj.cells (fltC fk ft) true]) g3 h h) ⟨rfl,R,neF rfl,Ln _ gb,F,I,L3,trivial⟩,a2,s2,.inl ⟨rfl,rfl⟩⟩
     | some s =>
      have hsl:=ok.opn k x s hx (List.mem_of_getLast? hg)
      obtain⟨y,hy⟩:∃ y,t.scs[s]?=some y:=⟨_,List.getElem?_eq_getElem hsl⟩
      obtain⟨si,hs⟩:=a.sh.sc s hsl
      simp only[innV,inP,hs,pvv] at I
      have e':t.leave n fk ft=(((t.leave1 k s fk ft).fin s).1,liveE s fk y++((t.leave1 k s fk ft).fin s).2,0):=by simp only[TS.leave,hq,hf,hx,hlv,hg,hy,Bool.true_eq_false,if_false]
      rw[e']
      obtain⟨g4,b1,b2,b3⟩:=blame_run a2 hy hs fk ft
      obtain⟨y',hy',hl',_⟩:=blame_get (fk:=fk) (ft:=ft) hy
      have hx1:(t.blame s fk ft).1.tks[k]?=some x:=by rw[blame_tks];exact hx
      have S4:=s2.trans b3
      have gb4:=b3.get gb2 nb
      have ok1:=ok.leave1 (k:=k) (s:=s) (fk:=fk) (ft:=ft)
      have lvl:(t.leave1 k s fk ft).scs.length=t.scs.length:=blame_len
      have gen:∀ (g:Hp),TAt g ρ (t.blame s fk ft).1->Step ρ h ρ g->g[h.length]?=some (.cells (fltC fk ft) true) ->
        ∃ c1 c2 v5 g5,(∀ (s:SH),s.den=g->(Asm.st s i 3 [.bool true] c1).holds Try.prog/\(Asm.again s 29 (ptr h.length) (.agg #[.int .i64 fk,.string ft])).holds Try.prog/\(Asm.ldn s h.length 0 2 (fltC fk ft)).holds Try.prog)/\(∀ (s:SH),s.den=g.set i (.cells c1 true)->(Asm.st s i 5 (fltC fk ft) c2).holds Try.prog/\(Asm.again s 29 (ptr h.length) (.agg #[.int .i64 fk,.string ft])).holds Try.prog) /\
         Run Try.prog 87 [ptr si] ((g.set i (.cells c1 true)).set i (.cells c2 true)) v5 g5/\TAt g5 ρ ((t.leave1 k s fk ft).fin s).1/\Step ρ g ρ g5/\EfV g5 g.length ρ v5 ((t.leave1 k s fk ft).fin s).2:=fun g f1 f2 f3=>by
       obtain⟨c1,u1,u2⟩:=f1.wTk (d:=3) (l:=[.bool true]) (fun x=>{ x with lv:=true }) hi hx1 rfl ⟨[],by simp⟩ (by simp) rfl
       have hx2:=upT_at (f:=fun x=>{ x with lv:=true }) hx1
       obtain⟨c2,w1,w2⟩:=u2.wTk (d:=5) (l:=fltC fk ft) (fun x=>{ x with fk:=fk,ft:=ft }) hi hx2 rfl ⟨[],by simp⟩ (by simp) rfl
       obtain⟨v5,g5,q1,q2,q3,q4⟩:=fin_run w2 ok1 (by omega) hs (by show _<(t.leave1 k s fk ft).scs.length;rw[lvl];exact hsl)
       have ne:i≠h.length:=fun e=>nb ⟨_,by rw[<- e];exact hi⟩
       refine⟨c1,c2,v5,g5,fun s e=>⟨u1 _ s e,a_againN agg30 (by rw[e];exact f3) rfl rfl,Ln _ (by rw[e];exact f3)⟩,fun s e=>⟨w1 _ s e,a_againN agg30 (by rw[e];exact gNq f3 ne) rfl rfl⟩,q1,q2,((Step.set hi _).trans (Step.set hi _)).trans q3,?_⟩
       rwa [sN,sN] at q4
      have hfl:=fin_len (t.leave1 k s fk ft) s
      have Lk:(Asm.ld1 (.is g4) h.length 0 (.int .i64 fk)).holds Try.prog:=aL gb4 rfl
      have Ll:(Asm.ld1 (.is g4) si 5 (.int .i64 y.live)).holds Try.prog:=b2.ld1 rfl hs (by rw[cSq hy',<- hl'];rfl)
      by_cases c0:fk=0
      ·have el:liveE s fk y=[]:=by simp[liveE,c0]
       rw[el,List.nil_append]
       obtain⟨c1,c2,v5,g5,k1,k2,k3,k4,k5,k6⟩:=gen g4 b2 S4 gb4
       obtain⟨k11,k12,k13⟩:=k1 (.is g4) rfl
       obtain⟨k21,k22⟩:=k2 (.set (.is g4) i (.cells c1 true)) rfl
       rcases tail0 (g:=g5) k4 (S4.trans k5) S4.len k6 (by omega) with⟨rfl,z⟩ | ⟨w,rfl,z1,z2,z3,z4⟩
       ·exact⟨_,_,pvF 0 Try.func66 (r2p.le_zn r i si h.length 0 0 n 0 fk 0 0 ft _ (.bool true) c1 c2 [] 0 0 h (h++[AObj.cells (fltC fk ft) true]) g3 g4 g5) ⟨rfl,R,neF rfl,Ln _ gb,F,I,L3,Ln _ gb2,b1,Lk,neF c0,stat31,k12,k12,k22,k13,k11,k21,k3,trivial⟩,k4,S4.trans k5,z⟩
       ·exact⟨_,_,pvF 0 Try.func66 (r2p.le_zs r i si h.length 0 0 n 0 fk 0 0 ft _ (.bool true) c1 c2 [] _ g5.length h (h++[AObj.cells (fltC fk ft) true]) g3 g4 g5 w _ [] _) ⟨rfl,R,neF rfl,Ln _ gb,F,I,L3,Ln _ gb2,b1,Lk,neF c0,stat31,k12,k12,k22,k13,k11,k21,k3,z1,trivial⟩,z2,z3,z4⟩
      ·by_cases cl:0<y.live
       ·have el:liveE s fk y=[⟨1,((s+1:Nat):Int),0,0,⟨#[]⟩⟩]:=by simp[liveE,c0,cl]
        rw[el]
        obtain⟨g6,hg6⟩:∃ g6,g6=g4++[AObj.cells [.int .i64 1,.int .i64 ((s+1:Nat):Int),.int .i64 0,.int .i64 0,.string ⟨#[]⟩] true]++[.cells (efC [⟨1,((s+1:Nat):Int),0,0,⟨#[]⟩⟩]) true]:=⟨_,rfl⟩
        have a6:TAt g6 ρ (t.blame s fk ft).1:=by rw[hg6];exact (b2.push _).push _
        have S46:Step ρ g4 ρ g6:=by rw[hg6];exact (Step.push _ _ _).trans (Step.push _ _ _)
        have gy:g6[g4.length+1]?=some (.cells (efC [⟨1,((s+1:Nat):Int),0,0,⟨#[]⟩⟩]) true):=by rw[hg6];exact gV _ (by simp)
        have ny:¬ fpT ρ (g4.length+1):=b2.out (by omega)
        obtain⟨c1,c2,v5,g5,k1,k2,k3,k4,k5,k6⟩:=gen g6 a6 (S4.trans S46) (S46.get gb4 nb)
        obtain⟨k11,k12,k13⟩:=k1 (.push (.push (.is g4) (.cells [.int .i64 1,.int .i64 ((s+1:Nat):Int),.int .i64 0,.int .i64 0,.string ⟨#[]⟩] true)) (.cells (efC [⟨1,((s+1:Nat):Int),0,0,⟨#[]⟩⟩]) true)) (by rw[hg6];rfl)
        obtain⟨k21,k22⟩:=k2 (.set (.push (.push (.is g4) (.cells [.int .i64 1,.int .i64 ((s+1:Nat):Int),.int .i64 0,.int .i64 0,.string ⟨#[]⟩] true)) (.cells (efC [⟨1,((s+1:Nat):Int),0,0,⟨#[]⟩⟩]) true)) i (.cells c1 true)) (by rw[hg6];rfl)
        have Ls:(Asm.ld1 (.is g4) si 0 (.int .i64 ((s+1:Nat):Int))).holds Try.prog:=b2.ld1 rfl hs (by rw[cSq hy'];rfl)
        have An:(Asm.appNil (.push (.is g4) (.cells [.int .i64 1,.int .i64 ((s+1:Nat):Int),.int .i64 0,.int .i64 0,.string ⟨#[]⟩] true)) g4.length 0 1 0 5 48 (efC [⟨1,((s+1:Nat):Int),0,0,⟨#[]⟩⟩]) (g4.length+1)).holds Try.prog:=by
         have:=ef_appN (P:=Try.prog) (s:=.push (.is g4) (.cells [.int .i64 1,.int .i64 ((s+1:Nat):Int),.int .i64 0,.int .i64 0,.string ⟨#[]⟩] true)) (g:=g4++[AObj.cells [.int .i64 1,.int .i64 ((s+1:Nat):Int),.int .i64 0,.int .i64 0,.string ⟨#[]⟩] true]) (l:=[⟨1,((s+1:Nat):Int),0,0,⟨#[]⟩⟩]) rfl (gW _ _) (by simp) (by simp)
         rw[pL] at this
         exact this
        rw[hg6] at k3
        rcases tail1 (h:=h) k4 ((S4.trans S46).trans k5) (k5.get gy ny) (by have:=S4.len;omega) ny k6 (by omega) with⟨rfl,z⟩ | ⟨w,rfl,z1,z2,z3,z4⟩
        ·exact⟨_,_,pvF 0 Try.func66 (r2p.le_en r i si h.length g4.length (g4.length+1) n 0 fk y.live ((s+1:Nat):Int) ft _ (.bool true) c1 c2 _ 0 0 h (h++[AObj.cells (fltC fk ft) true]) g3 g4 g5) ⟨rfl,R,neF rfl,Ln _ gb,F,I,L3,Ln _ gb2,b1,Lk,neT c0,Ll,gtT cl,Ls,rfl,An,stat31,k12,k12,k22,k13,k11,k21,k3,trivial⟩,k4,(S4.trans S46).trans k5,z⟩
        ·exact⟨_,_,pvF 0 Try.func66 (r2p.le_es r i si h.length g4.length (g4.length+1) n 0 fk y.live ((s+1:Nat):Int) ft _ (.bool true) c1 c2 _ _ g5.length h (h++[AObj.cells (fltC fk ft) true]) g3 g4 g5 w _ _ _) ⟨rfl,R,neF rfl,Ln _ gb,F,I,L3,Ln _ gb2,b1,Lk,neT c0,Ll,gtT cl,Ls,rfl,An,stat31,k12,k12,k22,k13,k11,k21,k3,z1,trivial⟩,z2,z3,z4⟩
       ·have el:liveE s fk y=[]:=by simp[liveE,cl]
        rw[el,List.nil_append]
        obtain⟨c1,c2,v5,g5,k1,k2,k3,k4,k5,k6⟩:=gen g4 b2 S4 gb4
        obtain⟨k11,k12,k13⟩:=k1 (.is g4) rfl
        obtain⟨k21,k22⟩:=k2 (.set (.is g4) i (.cells c1 true)) rfl
        rcases tail0 (g:=g5) k4 (S4.trans k5) S4.len k6 (by omega) with⟨rfl,z⟩ | ⟨w,rfl,z1,z2,z3,z4⟩
        ·exact⟨_,_,pvF 0 Try.func66 (r2p.le_nn r i si h.length 0 0 n 0 fk y.live 0 ft _ (.bool true) c1 c2 [] 0 0 h (h++[AObj.cells (fltC fk ft) true]) g3 g4 g5) ⟨rfl,R,neF rfl,Ln _ gb,F,I,L3,Ln _ gb2,b1,Lk,neT c0,Ll,gtF (by omega),stat31,k12,k12,k22,k13,k11,k21,k3,trivial⟩,k4,S4.trans k5,z⟩
        ·exact⟨_,_,pvF 0 Try.func66 (r2p.le_ns r i si h.length 0 0 n 0 fk y.live 0 ft _ (.bool true) c1 c2 [] _ g5.length h (h++[AObj.cells (fltC fk ft) true]) g3 g4 g5 w _ [] _) ⟨rfl,R,neF rfl,Ln _ gb,F,I,L3,Ln _ gb2,b1,Lk,neT c0,Ll,gtF (by omega),stat31,k12,k12,k22,k13,k11,k21,k3,z1,trivial⟩,z2,z3,z4⟩
end
end Go.Proofs.Ytlonjogfeidgfaa.tr
namespace Go.Proofs.Ytlonjogfeidgfaa.tr
open Go Go.Ev
set_option maxRecDepth 100000
set_option linter.unusedVariables false
set_option linter.constructorNameAsVariable false
def TS.end1(t:TS)(k:Nat)(fk:Int)(ft:ByteArray):TS:=(t.upT k fun x=>{ x with en:=true }).upT k fun x=>{ x with fk:=fk,ft:=ft }
def TS.end2(t:TS)(k s:Nat)(fk:Int)(ft:ByteArray):TS:=(t.end1 k fk ft).upS s fun y=>{ y with live:=y.live-1 }
def TS.end3(t:TS)(k s:Nat)(y:Sc)(fk:Int)(ft:ByteArray):TS×Bool:=if y.su then (t.end2 k s fk ft,false) else (t.end2 k s fk ft).blame s fk ft
def saidE(s:Nat)(b:Bool):List Ef:=if b then [⟨1,((s+1:Nat):Int),0,0,⟨#[]⟩⟩] else []
def TS.end(t:TS)(n:Int)(fk:Int)(ft:ByteArray):TS×List Ef×Int:=match t.runs n with
 | (none,e)=>(t,[],e)
 | (some k,_)=>if faultB fk ft=false then (t,[],2) else match t.tks[k]? with
  | none=>(t,[],6)
  | some x=>if x.opn≠[] then (t,[],22) else match x.inn with
   | none=>(t.end1 k fk ft,[],0)
   | some s=>match t.scs[s]? with
    | none=>(t,[],6)
    | some y=>(((t.end3 k s y fk ft).1.fin s).1,saidE s (t.end3 k s y fk ft).2++((t.end3 k s y fk ft).1.fin s).2,0)
theorem TOk.end1{t:TS}{c k:Nat}{fk:Int}{ft:ByteArray}(ok:TOk c t):TOk c (t.end1 k fk ft) :=
 TOk.setT (f:=fun x=>{ x with fk:=fk,ft:=ft }) (TOk.setT (f:=fun x=>{ x with en:=true }) ok (fun _=>rfl) fun _=>rfl) (fun _=>rfl) fun _=>rfl
theorem TOk.end2{t:TS}{c k s:Nat}{fk:Int}{ft:ByteArray}(ok:TOk c t):TOk (c+1) (t.end2 k s fk ft):=by
 have m:=(ok.end1 (k:=k) (fk:=fk) (ft:=ft)).mono (Nat.le_succ c)
 refine m.upS fun y hy=>?_
 have h1:=(ok.end1 (k:=k) (fk:=fk) (ft:=ft)).live s y hy
 exact⟨rfl,fun j hj=>m.mem s y j hy hj,m.mlen s y hy,by simp only;omega,by simp only;omega⟩
theorem TOk.end3{t:TS}{c k s:Nat}{y:Sc}{fk:Int}{ft:ByteArray}(ok:TOk c t):TOk (c+1) (t.end3 k s y fk ft).1:=by
 unfold TS.end3
 split
 ·exact ok.end2
 ·exact ok.end2.blame
theorem TOk.end{t:TS}{c:Nat}{n fk:Int}{ft:ByteArray}(ok:TOk c t):TOk (c+1) (t.end n fk ft).1:=by
 have m:=ok.mono (Nat.le_succ c)
 unfold TS.end
 split
 ·exact m
 ·split
  ·exact m
  ·split
   ·exact m
   ·split
    ·exact m
    ·split
     ·exact m.end1
     ·split
      ·exact m
      ·exact ok.end3.fin
section
variable {h:Hp} {ρ:Lay} {t:TS} {c r:Nat}
theorem end_run(a:TAt h ρ t)(ok:TOk c t)(hc:c<=100000)(hr:ρ .root=some r)(n fk:Int)(ft:ByteArray) :
  ∃ v h',Run Try.prog 65 [ptr r,.int .i64 n,.agg #[.int .i64 fk,.string ft]] h (.tuple #[v,.int .i64 (t.end n fk ft).2.2]) h'/\TAt h' ρ (t.end n fk ft).1/\Step ρ h ρ h'/\EfV h' h.length ρ v (t.end n fk ft).2.1:=by
 have a1:=a.push (AObj.cells (fltC fk ft) true)
 have s1:=Step.push ρ h (AObj.cells (fltC fk ft) true)
 have R:=runs_run a1 ok hr n
 have nb:¬ fpT ρ h.length:=a.out (Nat.le_refl _)
 have gb:(h++[AObj.cells (fltC fk ft) true])[h.length]?=some (.cells (fltC fk ft) true):=gW _ _
 have Ln:∀ (s:SH),s.den[h.length]?=some (AObj.cells (fltC fk ft) true)->(Asm.ldn s h.length 0 2 (fltC fk ft)).holds Try.prog:=fun g e=>aN e (by simp) rfl
 rcases hq:t.runs n with⟨k | k,e⟩
 ·have e6:=runs_none hq
  subst e6
  rw[hq] at R
  have e':t.end n fk ft=(t,[],6):=by simp only[TS.end,hq]
  rw[e']
  exact⟨_,_,pvF 0 Try.func65 (r2p.en_err r 0 0 h.length 0 0 n 6 fk 0 0 ft false (.bool true) [] [] [] 0 0 h (h++[AObj.cells (fltC fk ft) true]) h h h) ⟨rfl,R,neT (by omega),trivial⟩,a1,s1,.inl ⟨rfl,rfl⟩⟩
 ·obtain⟨rfl,hn,x,hx,he⟩:=runs_some hq
  obtain⟨i,hi⟩:=a.sh.tk k (gT hx)
  rw[hq] at R
  simp only[tkP,hi,pvv] at R
  have F:=fault_run text_run (h++[AObj.cells (fltC fk ft) true]) fk ft
  have a2:=a1.push (AObj.cells (fltC fk ft) true)
  have s2:=s1.trans (Step.push ρ _ (AObj.cells (fltC fk ft) true))
  have gb2:(h++[AObj.cells (fltC fk ft) true]++[AObj.cells (fltC fk ft) true])[h.length]?=some (.cells (fltC fk ft) true):=gP gb
  obtain⟨g3,hg3⟩:∃ g3,g3=h++[AObj.cells (fltC fk ft) true]++[AObj.cells (fltC fk ft) true]:=⟨_,rfl⟩
  rw[<- hg3] at F a2 s2 gb2
  cases hf:faultB fk ft with
  | false =>
   rw[hf] at F
   have e':t.end n fk ft=(t,[],2):=by simp only[TS.end,hq,hf,if_true]
   rw[e']
   exact⟨_,_,pvF 0 Try.func65 (r2p.en_bad r i 0 h.length 0 0 n 0 fk 0 0 ft false (.bool true) [] [] [] 0 0 h (h++[AObj.cells (fltC fk ft) true]) g3 h h) ⟨rfl,R,neF rfl,Ln _ gb,F,trivial⟩,a2,s2,.inl ⟨rfl,rfl⟩⟩
  | true =>
   rw[hf] at F
   have hlen:=ok.len k x hx
   have Lo:(Asm.ld1 (.is g3) i 2 (slv (ρ (.op k)) x.opn.length)).holds Try.prog:=a2.ld1 rfl hi (by rw[cT hx];rfl)
   by_cases ho:x.opn=[]
   ·have hl0:x.opn.length=0:=by rw[ho];rfl
    obtain⟨c1,u1,u2⟩:=a2.wTk (d:=4) (l:=[.bool true]) (fun x=>{ x with en:=true }) hi hx rfl ⟨[],by simp⟩ (by simp) rfl
    have hx2:=upT_at (f:=fun x=>{ x with en:=true }) hx
    obtain⟨c2,w1,w2⟩:=u2.wTk (d:=5) (l:=fltC fk ft) (fun x=>{ x with fk:=fk,ft:=ft }) hi hx2 rfl ⟨[],by simp⟩ (by simp) rfl
    have hx3:=upT_at (f:=fun x=>{ x with fk:=fk,ft:=ft }) hx2
    have ne:i≠h.length:=fun e=>nb ⟨_,by rw[<- e];exact hi⟩
    obtain⟨g,hg⟩:∃ g,g=(g3.set i (.cells c1 true)).set i (.cells c2 true):=⟨_,rfl⟩
    have U1:(Asm.st (.is g3) i 4 [.bool true] c1).holds Try.prog:=u1 _ _ rfl
    have W1:(Asm.st (.set (.is g3) i (.cells c1 true)) i 5 (fltC fk ft) c2).holds Try.prog:=w1 _ _ rfl
    have k12:(Asm.again (.is g3) 29 (ptr h.length) (.agg #[.int .i64 fk,.string ft])).holds Try.prog:=a_againN agg30 gb2 rfl rfl
    have k22:(Asm.again (.set (.is g3) i (.cells c1 true)) 29 (ptr h.length) (.agg #[.int .i64 fk,.string ft])).holds Try.prog:=a_againN agg30 (gNq gb2 ne) rfl rfl
    have k13:(Asm.ldn (.is g3) h.length 0 2 (fltC fk ft)).holds Try.prog:=Ln _ gb2
    have S5:Step ρ h ρ ((g3.set i (.cells c1 true)).set i (.cells c2 true)):=(s2.trans (Step.set hi _)).trans (Step.set hi _)
    have Li:(Asm.ld1 (.set (.set (.is g3) i (.cells c1 true)) i (.cells c2 true)) i 1 (inP ρ x.inn)).holds Try.prog:=w2.ld1 rfl hi (by rw[cT hx3];rfl)
    have gb5:((g3.set i (.cells c1 true)).set i (.cells c2 true))[h.length]?=some (.cells (fltC fk ft) true):=gNq (gNq gb2 ne) ne
    have hnil:ρ (.op k)=none->slv (ρ (.op k)) x.opn.length=.slice none 0 0:=fun e=>by rw[e];rfl
    cases hin:x.inn with
    | none =>
     have e':t.end n fk ft=(t.end1 k fk ft,[],0):=by simp only[TS.end,hq,hf,hx,ho,hin,Bool.true_eq_false,if_false,ne_eq,not_true_eq_false]
     rw[e']
     rw[hin] at Li
     refine⟨_,_,?_,w2,S5,.inl ⟨rfl,rfl⟩⟩
     cases hop:ρ (.op k) with
     | none =>
      rw[hop] at Lo
      exact pvF 0 Try.func65 (r2p.en_rootn r i 0 h.length 0 0 n 0 fk 0 0 ft false (.bool true) c1 c2 [] 0 0 h (h++[AObj.cells (fltC fk ft) true]) g3 h h 0 0) ⟨rfl,R,neF rfl,Ln _ gb,F,Lo,gtF (by omega),stat30,k12,k12,k22,k13,U1,W1,Li,trivial⟩
     | some oo =>
      rw[hop,hl0] at Lo
      exact pvF 0 Try.func65 (r2p.en_roots r i 0 h.length 0 0 n 0 fk 0 0 ft false (.bool true) c1 c2 [] 0 0 h (h++[AObj.cells (fltC fk ft) true]) g3 h h oo 0) ⟨rfl,R,neF rfl,Ln _ gb,F,Lo,gtF (by simp),stat30,k12,k12,k22,k13,U1,W1,Li,trivial⟩
    | some s =>
     have hsl:=ok.inn k x s hx hin
     obtain⟨y,hy⟩:∃ y,t.scs[s]?=some y:=⟨_,List.getElem?_eq_getElem hsl⟩
     obtain⟨si,hs⟩:=a.sh.sc s hsl
     have hlv:=ok.live s y hy
     rw[hin] at Li
     simp only[inP,hs,pvv] at Li
     have e':t.end n fk ft=(((t.end3 k s y fk ft).1.fin s).1,saidE s (t.end3 k s y fk ft).2++((t.end3 k s y fk ft).1.fin s).2,0):=by simp only[TS.end,hq,hf,hx,ho,hin,hy,Bool.true_eq_false,if_false,ne_eq,not_true_eq_false]
     rw[e']
     have hy1:(t.end1 k fk ft).scs[s]?=some y:=hy
     obtain⟨c3,v1,v2⟩:=TAt.wSc (t:=t.end1 k fk ft) w2 (d:=5) (l:=[.int .i64 (y.live-1)]) (fun y=>{ y with live:=y.live-1 }) hs hy1 rfl rfl (by simp) rfl
     have hy2:(t.end2 k s fk ft).scs[s]?=some { y with live:=y.live-1 }:=upS_at (g:=fun y=>{ y with live:=y.live-1 }) hy1
     have v2':TAt (((g3.set i (.cells c1 true)).set i (.cells c2 true)).set si (.cells c3 true)) ρ (t.end2 k s fk ft):=v2
     have S6:Step ρ h ρ (((g3.set i (.cells c1 true)).set i (.cells c2 true)).set si (.cells c3 true)):=S5.trans (Step.set hs _)
     have nes:si≠h.length:=fun e=>nb ⟨_,by rw[<- e];exact hs⟩
     have gb6:(((g3.set i (.cells c1 true)).set i (.cells c2 true)).set si (.cells c3 true))[h.length]?=some (.cells (fltC fk ft) true):=gNq gb5 nes
     have Ll:(Asm.ld1 (.set (.set (.is g3) i (.cells c1 true)) i (.cells c2 true)) si 5 (.int .i64 y.live)).holds Try.prog:=TAt.ld1 (t:=t.end1 k fk ft) w2 rfl hs (by rw[cSq (x:=y) hy1];rfl)
     have Ar:(Asm.arith .sub .i64 y.live 1 (y.live-1)).holds Try.prog:=subI rfl (by omega) (by omega)
     have V1:(Asm.st (.set (.set (.is g3) i (.cells c1 true)) i (.cells c2 true)) si 5 [.int .i64 (y.live-1)] c3).holds Try.prog:=v1 _ _ rfl
     have Lu:(Asm.ld1 (.set (.set (.set (.is g3) i (.cells c1 true)) i (.cells c2 true)) si (.cells c3 true)) si 2 (.bool y.su)).holds Try.prog:=v2'.ld1 rfl hs (by rw[cSq hy2];rfl)
     have Lf:(Asm.ldn (.set (.set (.set (.is g3) i (.cells c1 true)) i (.cells c2 true)) si (.cells c3 true)) h.length 0 2 (fltC fk ft)).holds Try.prog:=Ln _ gb6
     have hfl:=fin_len (t.end3 k s y fk ft).1 s
     have ok3:=ok.end3 (k:=k) (s:=s) (y:=y) (fk:=fk) (ft:=ft)
     cases hsu:y.su with
     | true =>
      rw[hsu] at Lu
      have e3:t.end3 k s y fk ft=(t.end2 k s fk ft,false):=by simp[TS.end3,hsu]
      rw[e3] at ok3 hfl ⊢
      obtain⟨v5,g5,q1,q2,q3,q4⟩:=fin_run v2' ok3 (by omega) hs (gT hy2)
      rw[show saidE s false=[] from rfl,List.nil_append]
      rcases tail0 (g:=g5) q2 (S6.trans q3) S6.len q4 (by simp only at hfl;omega) with⟨rfl,z⟩ | ⟨w,rfl,z1,z2,z3,z4⟩
      ·refine⟨_,_,?_,q2,S6.trans q3,z⟩
       cases hop:ρ (.op k) with
       | none =>
        rw[hop] at Lo
        exact pvF 0 Try.func65 (r2p.en_nun r i si h.length 0 0 n 0 fk y.live 0 ft false (.bool true) c1 c2 [] 0 0 h (h++[AObj.cells (fltC fk ft) true]) g3 h g5 0 0 (y.live-1) c3) ⟨rfl,R,neF rfl,Ln _ gb,F,Lo,gtF (by omega),stat30,k12,k12,k22,k13,U1,W1,Li,Ll,Ar,V1,Lu,q1,trivial⟩
       | some oo =>
        rw[hop,hl0] at Lo
        exact pvF 0 Try.func65 (r2p.en_sun r i si h.length 0 0 n 0 fk y.live 0 ft false (.bool true) c1 c2 [] 0 0 h (h++[AObj.cells (fltC fk ft) true]) g3 h g5 oo 0 (y.live-1) c3) ⟨rfl,R,neF rfl,Ln _ gb,F,Lo,gtF (by simp),stat30,k12,k12,k22,k13,U1,W1,Li,Ll,Ar,V1,Lu,q1,trivial⟩
      ·refine⟨_,_,?_,z2,z3,z4⟩
       cases hop:ρ (.op k) with
       | none =>
        rw[hop] at Lo
        exact pvF 0 Try.func65 (r2p.en_nus r i si h.length 0 0 n 0 fk y.live 0 ft false (.bool true) c1 c2 [] _ g5.length h (h++[AObj.cells (fltC fk ft) true]) g3 h g5 0 0 (y.live-1) c3 w _ [] _) ⟨rfl,R,neF rfl,Ln _ gb,F,Lo,gtF (by omega),stat30,k12,k12,k22,k13,U1,W1,Li,Ll,Ar,V1,Lu,q1,z1,trivial⟩
       | some oo =>
        rw[hop,hl0] at Lo
        exact pvF 0 Try.func65 (r2p.en_sus r i si h.length 0 0 n 0 fk y.live 0 ft false (.bool true) c1 c2 [] _ g5.length h (h++[AObj.cells (fltC fk ft) true]) g3 h g5 oo 0 (y.live-1) c3 w _ [] _) ⟨rfl,R,neF rfl,Ln _ gb,F,Lo,gtF (by simp),stat30,k12,k12,k22,k13,U1,W1,Li,Ll,Ar,V1,Lu,q1,z1,trivial⟩
     | false =>
      rw[hsu] at Lu
      have e3:t.end3 k s y fk ft=(t.end2 k s fk ft).blame s fk ft:=by simp[TS.end3,hsu]
      rw[e3] at ok3 hfl ⊢
      obtain⟨g4,b1,b2,b3⟩:=blame_run v2' hy2 hs fk ft
      obtain⟨y',hy',_⟩:=blame_get (fk:=fk) (ft:=ft) hy2
      have S7:=S6.trans b3
      cases hb:((t.end2 k s fk ft).blame s fk ft).2 with
      | false =>
       rw[hb] at b1
       obtain⟨v5,g5,q1,q2,q3,q4⟩:=fin_run b2 ok3 (by omega) hs (gT hy')
       rw[show saidE s false=[] from rfl,List.nil_append]
       rcases tail0 (g:=g5) q2 (S7.trans q3) S7.len q4 (by omega) with⟨rfl,z⟩ | ⟨w,rfl,z1,z2,z3,z4⟩
       ·refine⟨_,_,?_,q2,S7.trans q3,z⟩
        cases hop:ρ (.op k) with
        | none =>
         rw[hop] at Lo
         exact pvF 0 Try.func65 (r2p.en_nkn r i si h.length 0 0 n 0 fk y.live 0 ft false (.bool true) c1 c2 [] 0 0 h (h++[AObj.cells (fltC fk ft) true]) g3 g4 g5 0 0 (y.live-1) c3) ⟨rfl,R,neF rfl,Ln _ gb,F,Lo,gtF (by omega),stat30,k12,k12,k22,k13,U1,W1,Li,Ll,Ar,V1,Lu,Lf,b1,q1,trivial⟩
        | some oo =>
         rw[hop,hl0] at Lo
         exact pvF 0 Try.func65 (r2p.en_skn r i si h.length 0 0 n 0 fk y.live 0 ft false (.bool true) c1 c2 [] 0 0 h (h++[AObj.cells (fltC fk ft) true]) g3 g4 g5 oo 0 (y.live-1) c3) ⟨rfl,R,neF rfl,Ln _ gb,F,Lo,gtF (by simp),stat30,k12,k12,k22,k13,U1,W1,Li,Ll,Ar,V1,Lu,Lf,b1,q1,trivial⟩
       ·refine⟨_,_,?_,z2,z3,z4⟩
        cases hop:ρ (.op k) with
        | none =>
         rw[hop] at Lo
         exact pvF 0 Try.func65 (r2p.en_nks r i si h.length 0 0 n 0 fk y.live 0 ft false (.bool true) c1 c2 [] _ g5.length h (h++[AObj.cells (fltC fk ft) true]) g3 g4 g5 0 0 (y.live-1) c3 w _ [] _) ⟨rfl,R,neF rfl,Ln _ gb,F,Lo,gtF (by omega),stat30,k12,k12,k22,k13,U1,W1,Li,Ll,Ar,V1,Lu,Lf,b1,q1,z1,trivial⟩
        | some oo =>
         rw[hop,hl0] at Lo
         exact pvF 0 Try.func65 (r2p.en_sks r i si h.length 0 0 n 0 fk y.live 0 ft false (.bool true) c1 c2 [] _ g5.length h (h++[AObj.cells (fltC fk ft) true]) g3 g4 g5 oo 0 (y.live-1) c3 w _ [] _) ⟨rfl,R,neF rfl,Ln _ gb,F,Lo,gtF (by simp),stat30,k12,k12,k22,k13,U1,W1,Li,Ll,Ar,V1,Lu,Lf,b1,q1,z1,trivial⟩
      | true =>
       rw[hb] at b1
       rw[show saidE s true=[⟨1,((s+1:Nat):Int),0,0,⟨#[]⟩⟩] from rfl]
       have Ls:(Asm.ld1 (.is g4) si 0 (.int .i64 ((s+1:Nat):Int))).holds Try.prog:=b2.ld1 rfl hs (by rw[cSq hy'];rfl)
       have An:(Asm.appNil (.push (.is g4) (.cells [.int .i64 1,.int .i64 ((s+1:Nat):Int),.int .i64 0,.int .i64 0,.string ⟨#[]⟩] true)) g4.length 0 1 0 5 48 (efC [⟨1,((s+1:Nat):Int),0,0,⟨#[]⟩⟩]) (g4.length+1)).holds Try.prog:=by
        have:=ef_appN (P:=Try.prog) (s:=.push (.is g4) (.cells [.int .i64 1,.int .i64 ((s+1:Nat):Int),.int .i64 0,.int .i64 0,.string ⟨#[]⟩] true)) (g:=g4++[AObj.cells [.int .i64 1,.int .i64 ((s+1:Nat):Int),.int .i64 0,.int .i64 0,.string ⟨#[]⟩] true]) (l:=[⟨1,((s+1:Nat):Int),0,0,⟨#[]⟩⟩]) rfl (gW _ _) (by simp) (by simp)
        rw[pL] at this
        exact this
       obtain⟨g6,hg6⟩:∃ g6,g6=g4++[AObj.cells [.int .i64 1,.int .i64 ((s+1:Nat):Int),.int .i64 0,.int .i64 0,.string ⟨#[]⟩] true]++[.cells (efC [⟨1,((s+1:Nat):Int),0,0,⟨#[]⟩⟩]) true]:=⟨_,rfl⟩
       have a6:TAt g6 ρ ((t.end2 k s fk ft).blame s fk ft).1:=by rw[hg6];exact (b2.push _).push _
       have S46:Step ρ g4 ρ g6:=by rw[hg6];exact (Step.push _ _ _).trans (Step.push _ _ _)
       have gy:g6[g4.length+1]?=some (.cells (efC [⟨1,((s+1:Nat):Int),0,0,⟨#[]⟩⟩]) true):=by rw[hg6];exact gV _ (by simp)
       have ny:¬ fpT ρ (g4.length+1):=b2.out (by omega)
       obtain⟨v5,g5,q1,q2,q3,q4⟩:=fin_run a6 ok3 (by omega) hs (gT hy')
       rw[hg6] at q1
       rcases tail1 (h:=h) q2 ((S7.trans S46).trans q3) (q3.get gy ny) (by have:=S7.len;omega) ny q4 (by omega) with⟨rfl,z⟩ | ⟨w,rfl,z1,z2,z3,z4⟩
       ·refine⟨_,_,?_,q2,(S7.trans S46).trans q3,z⟩
        cases hop:ρ (.op k) with
        | none =>
         rw[hop] at Lo
         exact pvF 0 Try.func65 (r2p.en_nbn r i si h.length g4.length (g4.length+1) n 0 fk y.live ((s+1:Nat):Int) ft false (.bool true) c1 c2 _ 0 0 h (h++[AObj.cells (fltC fk ft) true]) g3 g4 g5 0 0 (y.live-1) c3) ⟨rfl,R,neF rfl,Ln _ gb,F,Lo,gtF (by omega),stat30,k12,k12,k22,k13,U1,W1,Li,Ll,Ar,V1,Lu,Lf,b1,Ls,rfl,An,q1,trivial⟩
        | some oo =>
         rw[hop,hl0] at Lo
         exact pvF 0 Try.func65 (r2p.en_sbn r i si h.length g4.length (g4.length+1) n 0 fk y.live ((s+1:Nat):Int) ft false (.bool true) c1 c2 _ 0 0 h (h++[AObj.cells (fltC fk ft) true]) g3 g4 g5 oo 0 (y.live-1) c3) ⟨rfl,R,neF rfl,Ln _ gb,F,Lo,gtF (by simp),stat30,k12,k12,k22,k13,U1,W1,Li,Ll,Ar,V1,Lu,Lf,b1,Ls,rfl,An,q1,trivial⟩
       ·refine⟨_,_,?_,z2,z3,z4⟩
        cases hop:ρ (.op k) with
        | none =>
         rw[hop] at Lo
         exact pvF 0 Try.func65 (r2p.en_nbs r i si h.length g4.length (g4.length+1) n 0 fk y.live ((s+1:Nat):Int) ft false (.bool true) c1 c2 _ _ g5.length h (h++[AObj.cells (fltC fk ft) true]) g3 g4 g5 0 0 (y.live-1) c3 w _ _ _) ⟨rfl,R,neF rfl,Ln _ gb,F,Lo,gtF (by omega),stat30,k12,k12,k22,k13,U1,W1,Li,Ll,Ar,V1,Lu,Lf,b1,Ls,rfl,An,q1,z1,trivial⟩
        | some oo =>
         rw[hop,hl0] at Lo
         exact pvF 0 Try.func65 (r2p.en_sbs r i si h.length g4.length (g4.length+1) n 0 fk y.live ((s+1:Nat):Int) ft false (.bool true) c1 c2 _ _ g5.length h (h++[AObj.cells (fltC fk ft) true]) g3 g4 g5 oo 0 (y.live-1) c3 w _ _ _) ⟨rfl,R,neF rfl,Ln _ gb,F,Lo,gtF (by simp),stat30,k12,k12,k22,k13,U1,W1,Li,Ll,Ar,V1,Lu,Lf,b1,Ls,rfl,An,q1,z1,trivial⟩
   ·have hl1:0<x.opn.length:=List.length_pos_iff.2 ho
    have e':t.end n fk ft=(t,[],22):=by simp only[TS.end,hq,hf,hx,ho,Bool.true_eq_false,if_false,ne_eq,not_false_eq_true,if_true]
    rw[e']
    obtain⟨oo,hop⟩:∃ oo,ρ (.op k)=some oo:=by
     cases e:ρ (.op k) with
     | none=>exact absurd (a.sh.op k x hx e) ho
     | some oo=>exact⟨oo,rfl⟩
    rw[hop] at Lo
    exact⟨_,_,pvF 0 Try.func65 (r2p.en_open r i 0 h.length 0 0 n 0 fk 0 0 ft false (.bool true) [] [] [] 0 0 h (h++[AObj.cells (fltC fk ft) true]) g3 h h oo x.opn.length) ⟨rfl,R,neF rfl,Ln _ gb,F,Lo,gtT (by simp;omega),trivial⟩,a2,s2,.inl ⟨rfl,rfl⟩⟩
end
end Go.Proofs.Ytlonjogfeidgfaa.tr
